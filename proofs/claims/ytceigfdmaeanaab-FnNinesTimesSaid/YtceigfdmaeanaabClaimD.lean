/- What DrawNinesSum, DrawNinesTimes, DrawElevensTimes draw. -/
import Derived.Test.YtceigfdmaeanaabClaim
namespace Go.Proofs.Ytceigfdmaeanaab
open Go.RowKit

set_option maxRecDepth 100000 in
set_option maxHeartbeats 4000000 in
theorem l91Claim (w0 : World) (B0 g : Nat) (w : World) (b : Bool) (h : RdyI B0 w g 0) (hz : B0 = w.heap.size) (hg : w0.heap.size ≤ g) (hbel : Below w0.heap.size w0 w) :
    Calls Try.prog 41 #[.pointer (some ⟨g, 0, none⟩), .bool b] w (DrawThree w0) := by
  go_enter Try.func41, Try.ntmps41
  go_wp2_with fail
  refine (l91Numeral B0 g 0 3 w h (by omega) (by omega) (by omega) (by omega)).mono ?_
  rintro e w2 ⟨A, c, xs, rfl, s2, lx, r2, g2⟩
  rw [← hz] at s2
  have st2 : FarSt w0 B0 g 10 A c xs w2 := ⟨s2, r2, hbel.trans (below_of_g g2 hbel.size hg), hg, by have := g2.size; omega⟩
  clear s2 r2 h g2
  go_wp2_with fail
  refine (l91Numeral B0 g 10 3 w2 st2.r st2.bz (by omega) (by omega) (by omega)).mono ?_
  rintro e w3 ⟨B, d, ys, rfl, s3, ly, r3, g3⟩
  have st3 : ClSt w0 B0 g 20 A c xs B d ys w3 := ⟨⟨st2.sl.pick g3 st2.r.1, r3, st2.bel.trans (below_of_g g3 st2.bel.size hg), hg, Nat.le_trans st2.bz g3.size⟩, s3.down st2.bz⟩
  clear s3 r3 st2 g3
  have hg3 : g < w3.heap.size := st3.st.r.lt
  go_wp2_with fail
  refine (l3Value _ _ _ _ st3.st.sl.rd (by omega)).mono ?_
  rintro e w' ⟨⟨n1, rfl⟩, rfl⟩
  go_wp2_with fail
  refine (l3Value _ _ _ _ st3.sb.rd (by omega)).mono ?_
  rintro e w' ⟨⟨n2, rfl⟩, rfl⟩
  cases b
  · go_wp2_with fail
    refine (spec_NumeralOf _ _).mono ?_
    rintro e v4 ⟨C, f, ds, ok, rfl, s4, ld, b4⟩
    have st4 := st3.below b4
    clear st3 b4
    cases ok
    · go_wp2_with fail
      refine (l91Numeral B0 g 20 5 _ st4.st.r st4.st.bz (by omega) (by omega) (by omega)).mono ?_
      rintro e v9 ⟨C9, f9, zs9, rfl, s9, l9, r9, g9⟩
      have HA := Lib.hid (st4.st.sl.pick g9 st4.st.r.1).rd
      have HB := Lib.hid (st4.sb.pick g9 st4.st.r.1).rd
      have HW := Lib.hid (st4.st.bel.trans (below_of_g g9 st4.st.bel.size hg))
      clear st4
      go_wp2_with fail
      refine bodyPost_ret (v := .tuple #[.slice A xs.length c, .slice B ys.length d, .slice C9 zs9.length f9]) (by simp [results, Try.results41, go_sem, *]) rfl ?_
      exact ⟨A, c, xs, B, d, ys, C9, f9, zs9, rfl, HA.out, HB.out, s9.rd, lx, ly, l9, HW.out⟩
    · go_wp2_with fail
      refine (pickI B0 g 20 6 _ st4.st.r (by omega) (by omega) (by omega)).mono ?_
      rintro e v_st5 ⟨x, rfl, x0, x1, q_st5, h_st5⟩
      have st5 := st4.pick q_st5 h_st5
      have c5 := s4.pick h_st5 hg3
      clear st4 q_st5 h_st5 s4
      by_cases hx : x = 0
      · subst hx
        clear c5
        go_wp2_with fail
        refine (l91Numeral B0 g 21 5 _ st5.st.r st5.st.bz (by omega) (by omega) (by omega)).mono ?_
        rintro e v9 ⟨C9, f9, zs9, rfl, s9, l9, r9, g9⟩
        have HA := Lib.hid (st5.st.sl.pick g9 st5.st.r.1).rd
        have HB := Lib.hid (st5.sb.pick g9 st5.st.r.1).rd
        have HW := Lib.hid (st5.st.bel.trans (below_of_g g9 st5.st.bel.size hg))
        clear st5
        go_wp2_with fail
        refine bodyPost_ret (v := .tuple #[.slice A xs.length c, .slice B ys.length d, .slice C9 zs9.length f9]) (by simp [results, Try.results41, go_sem, *]) rfl ?_
        exact ⟨A, c, xs, B, d, ys, C9, f9, zs9, rfl, HA.out, HB.out, s9.rd, lx, ly, l9, HW.out⟩
      have hx' : (x == 0) = false := beq_eq_false_iff_ne.2 hx
      go_wp2_with fail
      refine (pickI B0 g 21 6 _ st5.st.r (by omega) (by omega) (by omega)).mono ?_
      rintro e v_st6 ⟨k, rfl, k0, k1, q_st6, h_st6⟩
      have st6 := st5.pick q_st6 h_st6
      have c6 := c5.pick h_st6 hg3
      clear st5 q_st6 h_st6 c5
      go_wp2_with fail
      refine (spec_NumeralExchange C f ds k _ c6.rd (by omega)).mono ?_
      rintro e v6 ⟨C6, f6, rfl, s6, b6⟩
      have l6 := exchL_7 (show ds.length ≤ 7 by omega) k
      have hg6 : g < v_st6.heap.size := st6.st.r.lt
      have st7 := st6.below b6
      have c7 := c6.below b6
      clear st6 c6 b6
      cases hk : exchB ds k
      · clear s6
        go_wp2_with fail
        refine (pickI B0 g 22 6 _ st7.st.r (by omega) (by omega) (by omega)).mono ?_
        rintro e v_sa ⟨i, rfl, i0, i1, q_sa, h_sa⟩
        have sa := st7.pick q_sa h_sa
        have ca := c7.pick h_sa hg3
        clear st7 q_sa h_sa c7
        go_wp2_with fail
        refine (pickI B0 g 23 10 _ sa.st.r (by omega) (by omega) (by omega)).mono ?_
        rintro e v_sb2 ⟨dd, rfl, dd0, dd1, q_sb2, h_sb2⟩
        have sb2 := sa.pick q_sb2 h_sb2
        have cb := ca.pick h_sb2 hg3
        clear sa q_sb2 h_sb2 ca
        go_wp2_with fail
        refine (spec_NumeralSlip C f ds i dd _ cb.rd cb.nz (by omega)).mono ?_
        rintro e v7 ⟨C7, f7, rfl, s7, b7⟩
        have l7 := slipL_7 (show ds.length ≤ 7 by omega) i dd
        have hg7 : g < v_sb2.heap.size := sb2.st.r.lt
        have sd := sb2.below b7
        have cd := cb.below b7
        clear sb2 cb b7
        cases hy : slipB ds i dd
        · go_wp2_with fail
          refine bodyPost_ret (v := .tuple #[.slice A xs.length c, .slice B ys.length d, .slice C (ds).length f]) (by simp [results, Try.results41, go_sem, *]) rfl ?_
          exact ⟨A, c, xs, B, d, ys, C, f, ds, rfl, sd.st.sl.rd, sd.sb.rd, cd.rd, lx, ly, (by omega), sd.st.bel⟩
        · go_wp2_with fail
          refine (pickI B0 g 24 3 _ sd.st.r (by omega) (by omega) (by omega)).mono ?_
          rintro e v_se ⟨jj, rfl, jj0, jj1, q_se, h_se⟩
          have se := sd.pick q_se h_se
          have ce := cd.pick h_se hg3
          have s8 := s7.pick h_se hg7
          clear sd q_se h_se cd s7
          by_cases hj : jj = 0
          · subst hj
            go_wp2_with fail
            refine bodyPost_ret (v := .tuple #[.slice A xs.length c, .slice B ys.length d, .slice C7 (slipL ds i dd).length f7]) (by simp [results, Try.results41, go_sem, *]) rfl ?_
            exact ⟨A, c, xs, B, d, ys, C7, f7, slipL ds i dd, rfl, se.st.sl.rd, se.sb.rd, s8.rd, lx, ly, l7, se.st.bel⟩
          · have hj' : (jj == 0) = false := beq_eq_false_iff_ne.2 hj
            go_wp2_with fail
            refine bodyPost_ret (v := .tuple #[.slice A xs.length c, .slice B ys.length d, .slice C (ds).length f]) (by simp [results, Try.results41, go_sem, *]) rfl ?_
            exact ⟨A, c, xs, B, d, ys, C, f, ds, rfl, se.st.sl.rd, se.sb.rd, ce.rd, lx, ly, (by omega), se.st.bel⟩
      · go_wp2_with fail
        refine (pickI B0 g 22 3 _ st7.st.r (by omega) (by omega) (by omega)).mono ?_
        rintro e v_st8 ⟨j, rfl, j0, j1, q_st8, h_st8⟩
        have st8 := st7.pick q_st8 h_st8
        have c8 := c7.pick h_st8 hg3
        have s9 := s6.pick h_st8 hg6
        clear st7 q_st8 h_st8 c7 s6
        by_cases hj0 : j = 0
        · subst hj0
          go_wp2_with fail
          refine bodyPost_ret (v := .tuple #[.slice A xs.length c, .slice B ys.length d, .slice C6 (exchL ds k).length f6]) (by simp [results, Try.results41, go_sem, *]) rfl ?_
          exact ⟨A, c, xs, B, d, ys, C6, f6, exchL ds k, rfl, st8.st.sl.rd, st8.sb.rd, s9.rd, lx, ly, l6, st8.st.bel⟩
        · have hj0' : (j == 0) = false := beq_eq_false_iff_ne.2 hj0
          clear s9
          go_wp2_with fail
          refine (pickI B0 g 23 6 _ st8.st.r (by omega) (by omega) (by omega)).mono ?_
          rintro e v_sa ⟨i, rfl, i0, i1, q_sa, h_sa⟩
          have sa := st8.pick q_sa h_sa
          have ca := c8.pick h_sa hg3
          clear st8 q_sa h_sa c8
          go_wp2_with fail
          refine (pickI B0 g 24 10 _ sa.st.r (by omega) (by omega) (by omega)).mono ?_
          rintro e v_sb2 ⟨dd, rfl, dd0, dd1, q_sb2, h_sb2⟩
          have sb2 := sa.pick q_sb2 h_sb2
          have cb := ca.pick h_sb2 hg3
          clear sa q_sb2 h_sb2 ca
          go_wp2_with fail
          refine (spec_NumeralSlip C f ds i dd _ cb.rd cb.nz (by omega)).mono ?_
          rintro e v7 ⟨C7, f7, rfl, s7, b7⟩
          have l7 := slipL_7 (show ds.length ≤ 7 by omega) i dd
          have hg7 : g < v_sb2.heap.size := sb2.st.r.lt
          have sd := sb2.below b7
          have cd := cb.below b7
          clear sb2 cb b7
          cases hy : slipB ds i dd
          · go_wp2_with fail
            refine bodyPost_ret (v := .tuple #[.slice A xs.length c, .slice B ys.length d, .slice C (ds).length f]) (by simp [results, Try.results41, go_sem, *]) rfl ?_
            exact ⟨A, c, xs, B, d, ys, C, f, ds, rfl, sd.st.sl.rd, sd.sb.rd, cd.rd, lx, ly, (by omega), sd.st.bel⟩
          · go_wp2_with fail
            refine (pickI B0 g 25 3 _ sd.st.r (by omega) (by omega) (by omega)).mono ?_
            rintro e v_se ⟨jj, rfl, jj0, jj1, q_se, h_se⟩
            have se := sd.pick q_se h_se
            have ce := cd.pick h_se hg3
            have s8 := s7.pick h_se hg7
            clear sd q_se h_se cd s7
            by_cases hj : jj = 0
            · subst hj
              go_wp2_with fail
              refine bodyPost_ret (v := .tuple #[.slice A xs.length c, .slice B ys.length d, .slice C7 (slipL ds i dd).length f7]) (by simp [results, Try.results41, go_sem, *]) rfl ?_
              exact ⟨A, c, xs, B, d, ys, C7, f7, slipL ds i dd, rfl, se.st.sl.rd, se.sb.rd, s8.rd, lx, ly, l7, se.st.bel⟩
            · have hj' : (jj == 0) = false := beq_eq_false_iff_ne.2 hj
              go_wp2_with fail
              refine bodyPost_ret (v := .tuple #[.slice A xs.length c, .slice B ys.length d, .slice C (ds).length f]) (by simp [results, Try.results41, go_sem, *]) rfl ?_
              exact ⟨A, c, xs, B, d, ys, C, f, ds, rfl, se.st.sl.rd, se.sb.rd, ce.rd, lx, ly, (by omega), se.st.bel⟩
  · go_wp2_with fail
    refine (l3Value _ _ _ _ st3.st.sl.rd (by omega)).mono ?_
    rintro e w' ⟨⟨n3, rfl⟩, rfl⟩
    go_wp2_with fail
    refine (l3Value _ _ _ _ st3.sb.rd (by omega)).mono ?_
    rintro e w' ⟨⟨n4, rfl⟩, rfl⟩
    go_wp2_with fail
    refine (spec_NumeralOf _ _).mono ?_
    rintro e v4 ⟨C, f, ds, ok, rfl, s4, ld, b4⟩
    have st4 := st3.below b4
    clear st3 b4
    cases ok
    · go_wp2_with fail
      refine (l91Numeral B0 g 20 5 _ st4.st.r st4.st.bz (by omega) (by omega) (by omega)).mono ?_
      rintro e v9 ⟨C9, f9, zs9, rfl, s9, l9, r9, g9⟩
      have HA := Lib.hid (st4.st.sl.pick g9 st4.st.r.1).rd
      have HB := Lib.hid (st4.sb.pick g9 st4.st.r.1).rd
      have HW := Lib.hid (st4.st.bel.trans (below_of_g g9 st4.st.bel.size hg))
      clear st4
      go_wp2_with fail
      refine bodyPost_ret (v := .tuple #[.slice A xs.length c, .slice B ys.length d, .slice C9 zs9.length f9]) (by simp [results, Try.results41, go_sem, *]) rfl ?_
      exact ⟨A, c, xs, B, d, ys, C9, f9, zs9, rfl, HA.out, HB.out, s9.rd, lx, ly, l9, HW.out⟩
    · go_wp2_with fail
      refine (pickI B0 g 20 6 _ st4.st.r (by omega) (by omega) (by omega)).mono ?_
      rintro e v_st5 ⟨x, rfl, x0, x1, q_st5, h_st5⟩
      have st5 := st4.pick q_st5 h_st5
      have c5 := s4.pick h_st5 hg3
      clear st4 q_st5 h_st5 s4
      by_cases hx : x = 0
      · subst hx
        clear c5
        go_wp2_with fail
        refine (l91Numeral B0 g 21 5 _ st5.st.r st5.st.bz (by omega) (by omega) (by omega)).mono ?_
        rintro e v9 ⟨C9, f9, zs9, rfl, s9, l9, r9, g9⟩
        have HA := Lib.hid (st5.st.sl.pick g9 st5.st.r.1).rd
        have HB := Lib.hid (st5.sb.pick g9 st5.st.r.1).rd
        have HW := Lib.hid (st5.st.bel.trans (below_of_g g9 st5.st.bel.size hg))
        clear st5
        go_wp2_with fail
        refine bodyPost_ret (v := .tuple #[.slice A xs.length c, .slice B ys.length d, .slice C9 zs9.length f9]) (by simp [results, Try.results41, go_sem, *]) rfl ?_
        exact ⟨A, c, xs, B, d, ys, C9, f9, zs9, rfl, HA.out, HB.out, s9.rd, lx, ly, l9, HW.out⟩
      have hx' : (x == 0) = false := beq_eq_false_iff_ne.2 hx
      go_wp2_with fail
      refine (pickI B0 g 21 6 _ st5.st.r (by omega) (by omega) (by omega)).mono ?_
      rintro e v_st6 ⟨k, rfl, k0, k1, q_st6, h_st6⟩
      have st6 := st5.pick q_st6 h_st6
      have c6 := c5.pick h_st6 hg3
      clear st5 q_st6 h_st6 c5
      go_wp2_with fail
      refine (spec_NumeralExchange C f ds k _ c6.rd (by omega)).mono ?_
      rintro e v6 ⟨C6, f6, rfl, s6, b6⟩
      have l6 := exchL_7 (show ds.length ≤ 7 by omega) k
      have hg6 : g < v_st6.heap.size := st6.st.r.lt
      have st7 := st6.below b6
      have c7 := c6.below b6
      clear st6 c6 b6
      cases hk : exchB ds k
      · clear s6
        go_wp2_with fail
        refine (pickI B0 g 22 6 _ st7.st.r (by omega) (by omega) (by omega)).mono ?_
        rintro e v_sa ⟨i, rfl, i0, i1, q_sa, h_sa⟩
        have sa := st7.pick q_sa h_sa
        have ca := c7.pick h_sa hg3
        clear st7 q_sa h_sa c7
        go_wp2_with fail
        refine (pickI B0 g 23 10 _ sa.st.r (by omega) (by omega) (by omega)).mono ?_
        rintro e v_sb2 ⟨dd, rfl, dd0, dd1, q_sb2, h_sb2⟩
        have sb2 := sa.pick q_sb2 h_sb2
        have cb := ca.pick h_sb2 hg3
        clear sa q_sb2 h_sb2 ca
        go_wp2_with fail
        refine (spec_NumeralSlip C f ds i dd _ cb.rd cb.nz (by omega)).mono ?_
        rintro e v7 ⟨C7, f7, rfl, s7, b7⟩
        have l7 := slipL_7 (show ds.length ≤ 7 by omega) i dd
        have hg7 : g < v_sb2.heap.size := sb2.st.r.lt
        have sd := sb2.below b7
        have cd := cb.below b7
        clear sb2 cb b7
        cases hy : slipB ds i dd
        · go_wp2_with fail
          refine bodyPost_ret (v := .tuple #[.slice A xs.length c, .slice B ys.length d, .slice C (ds).length f]) (by simp [results, Try.results41, go_sem, *]) rfl ?_
          exact ⟨A, c, xs, B, d, ys, C, f, ds, rfl, sd.st.sl.rd, sd.sb.rd, cd.rd, lx, ly, (by omega), sd.st.bel⟩
        · go_wp2_with fail
          refine (pickI B0 g 24 3 _ sd.st.r (by omega) (by omega) (by omega)).mono ?_
          rintro e v_se ⟨jj, rfl, jj0, jj1, q_se, h_se⟩
          have se := sd.pick q_se h_se
          have ce := cd.pick h_se hg3
          have s8 := s7.pick h_se hg7
          clear sd q_se h_se cd s7
          by_cases hj : jj = 0
          · subst hj
            go_wp2_with fail
            refine bodyPost_ret (v := .tuple #[.slice A xs.length c, .slice B ys.length d, .slice C7 (slipL ds i dd).length f7]) (by simp [results, Try.results41, go_sem, *]) rfl ?_
            exact ⟨A, c, xs, B, d, ys, C7, f7, slipL ds i dd, rfl, se.st.sl.rd, se.sb.rd, s8.rd, lx, ly, l7, se.st.bel⟩
          · have hj' : (jj == 0) = false := beq_eq_false_iff_ne.2 hj
            go_wp2_with fail
            refine bodyPost_ret (v := .tuple #[.slice A xs.length c, .slice B ys.length d, .slice C (ds).length f]) (by simp [results, Try.results41, go_sem, *]) rfl ?_
            exact ⟨A, c, xs, B, d, ys, C, f, ds, rfl, se.st.sl.rd, se.sb.rd, ce.rd, lx, ly, (by omega), se.st.bel⟩
      · go_wp2_with fail
        refine (pickI B0 g 22 3 _ st7.st.r (by omega) (by omega) (by omega)).mono ?_
        rintro e v_st8 ⟨j, rfl, j0, j1, q_st8, h_st8⟩
        have st8 := st7.pick q_st8 h_st8
        have c8 := c7.pick h_st8 hg3
        have s9 := s6.pick h_st8 hg6
        clear st7 q_st8 h_st8 c7 s6
        by_cases hj0 : j = 0
        · subst hj0
          go_wp2_with fail
          refine bodyPost_ret (v := .tuple #[.slice A xs.length c, .slice B ys.length d, .slice C6 (exchL ds k).length f6]) (by simp [results, Try.results41, go_sem, *]) rfl ?_
          exact ⟨A, c, xs, B, d, ys, C6, f6, exchL ds k, rfl, st8.st.sl.rd, st8.sb.rd, s9.rd, lx, ly, l6, st8.st.bel⟩
        · have hj0' : (j == 0) = false := beq_eq_false_iff_ne.2 hj0
          clear s9
          go_wp2_with fail
          refine (pickI B0 g 23 6 _ st8.st.r (by omega) (by omega) (by omega)).mono ?_
          rintro e v_sa ⟨i, rfl, i0, i1, q_sa, h_sa⟩
          have sa := st8.pick q_sa h_sa
          have ca := c8.pick h_sa hg3
          clear st8 q_sa h_sa c8
          go_wp2_with fail
          refine (pickI B0 g 24 10 _ sa.st.r (by omega) (by omega) (by omega)).mono ?_
          rintro e v_sb2 ⟨dd, rfl, dd0, dd1, q_sb2, h_sb2⟩
          have sb2 := sa.pick q_sb2 h_sb2
          have cb := ca.pick h_sb2 hg3
          clear sa q_sb2 h_sb2 ca
          go_wp2_with fail
          refine (spec_NumeralSlip C f ds i dd _ cb.rd cb.nz (by omega)).mono ?_
          rintro e v7 ⟨C7, f7, rfl, s7, b7⟩
          have l7 := slipL_7 (show ds.length ≤ 7 by omega) i dd
          have hg7 : g < v_sb2.heap.size := sb2.st.r.lt
          have sd := sb2.below b7
          have cd := cb.below b7
          clear sb2 cb b7
          cases hy : slipB ds i dd
          · go_wp2_with fail
            refine bodyPost_ret (v := .tuple #[.slice A xs.length c, .slice B ys.length d, .slice C (ds).length f]) (by simp [results, Try.results41, go_sem, *]) rfl ?_
            exact ⟨A, c, xs, B, d, ys, C, f, ds, rfl, sd.st.sl.rd, sd.sb.rd, cd.rd, lx, ly, (by omega), sd.st.bel⟩
          · go_wp2_with fail
            refine (pickI B0 g 25 3 _ sd.st.r (by omega) (by omega) (by omega)).mono ?_
            rintro e v_se ⟨jj, rfl, jj0, jj1, q_se, h_se⟩
            have se := sd.pick q_se h_se
            have ce := cd.pick h_se hg3
            have s8 := s7.pick h_se hg7
            clear sd q_se h_se cd s7
            by_cases hj : jj = 0
            · subst hj
              go_wp2_with fail
              refine bodyPost_ret (v := .tuple #[.slice A xs.length c, .slice B ys.length d, .slice C7 (slipL ds i dd).length f7]) (by simp [results, Try.results41, go_sem, *]) rfl ?_
              exact ⟨A, c, xs, B, d, ys, C7, f7, slipL ds i dd, rfl, se.st.sl.rd, se.sb.rd, s8.rd, lx, ly, l7, se.st.bel⟩
            · have hj' : (jj == 0) = false := beq_eq_false_iff_ne.2 hj
              go_wp2_with fail
              refine bodyPost_ret (v := .tuple #[.slice A xs.length c, .slice B ys.length d, .slice C (ds).length f]) (by simp [results, Try.results41, go_sem, *]) rfl ?_
              exact ⟨A, c, xs, B, d, ys, C, f, ds, rfl, se.st.sl.rd, se.sb.rd, ce.rd, lx, ly, (by omega), se.st.bel⟩

theorem DrawNinesSum (A : Option Addr) (c : Nat) (zs : List Int) (w : World) (h : Came .u8 w A c zs) : Calls Try.prog 19 #[.slice A zs.length c] w (DrawThree w) := by
  go_enter Try.func19, Try.ntmps19
  go_wp2_with fail
  refine (l6Open _ _ _ _ h).mono ?_
  rintro e w1 ⟨rfl, r1, b1⟩
  go_wp2_with fail
  refine (l91Claim w w1.heap.size w.heap.size w1 _ (RdyI.of r1) rfl (Nat.le_refl _) b1).mono ?_
  rintro e w2 ⟨A2, c2, xs2, B2, d2, ys2, C2, f2, zs2, rfl, h1, h2, h3, h4, h5, h6, h7⟩
  go_wp2_with fail
  refine bodyPost_ret (v := .tuple #[.slice A2 xs2.length c2, .slice B2 ys2.length d2, .slice C2 zs2.length f2]) (by simp [results, Try.results19, go_sem, *]) rfl ?_
  exact ⟨A2, c2, xs2, B2, d2, ys2, C2, f2, zs2, rfl, h1, h2, h3, h4, h5, h6, h7⟩
theorem DrawNinesTimes (A : Option Addr) (c : Nat) (zs : List Int) (w : World) (h : Came .u8 w A c zs) : Calls Try.prog 23 #[.slice A zs.length c] w (DrawThree w) := by
  go_enter Try.func23, Try.ntmps23
  go_wp2_with fail
  refine (l6Open _ _ _ _ h).mono ?_
  rintro e w1 ⟨rfl, r1, b1⟩
  go_wp2_with fail
  refine (l91Claim w w1.heap.size w.heap.size w1 _ (RdyI.of r1) rfl (Nat.le_refl _) b1).mono ?_
  rintro e w2 ⟨A2, c2, xs2, B2, d2, ys2, C2, f2, zs2, rfl, h1, h2, h3, h4, h5, h6, h7⟩
  go_wp2_with fail
  refine bodyPost_ret (v := .tuple #[.slice A2 xs2.length c2, .slice B2 ys2.length d2, .slice C2 zs2.length f2]) (by simp [results, Try.results23, go_sem, *]) rfl ?_
  exact ⟨A2, c2, xs2, B2, d2, ys2, C2, f2, zs2, rfl, h1, h2, h3, h4, h5, h6, h7⟩
theorem DrawElevensTimes (A : Option Addr) (c : Nat) (zs : List Int) (w : World) (h : Came .u8 w A c zs) : Calls Try.prog 14 #[.slice A zs.length c] w (DrawThree w) := by
  go_enter Try.func14, Try.ntmps14
  go_wp2_with fail
  refine (l6Open _ _ _ _ h).mono ?_
  rintro e w1 ⟨rfl, r1, b1⟩
  go_wp2_with fail
  refine (l91Claim w w1.heap.size w.heap.size w1 _ (RdyI.of r1) rfl (Nat.le_refl _) b1).mono ?_
  rintro e w2 ⟨A2, c2, xs2, B2, d2, ys2, C2, f2, zs2, rfl, h1, h2, h3, h4, h5, h6, h7⟩
  go_wp2_with fail
  refine bodyPost_ret (v := .tuple #[.slice A2 xs2.length c2, .slice B2 ys2.length d2, .slice C2 zs2.length f2]) (by simp [results, Try.results14, go_sem, *]) rfl ?_
  exact ⟨A2, c2, xs2, B2, d2, ys2, C2, f2, zs2, rfl, h1, h2, h3, h4, h5, h6, h7⟩
end Go.Proofs.Ytceigfdmaeanaab
