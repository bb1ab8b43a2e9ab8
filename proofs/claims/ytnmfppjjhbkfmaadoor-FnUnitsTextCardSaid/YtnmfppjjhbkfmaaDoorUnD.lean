/- Units: the list that the reference draws. -/
import Derived.Test.YtnmfppjjhbkfmaaDoorBrdD
namespace Go.Proofs.YtnmfppjjhbkfmaaDoor
open Go.RowKit

/-- A list of at most five numbers is drawn. -/
def UnDrawn (g : Nat) (w : World) (e : Ending) (w' : World) : Prop := ∃ A c zs, e = .returned (.slice A zs.length c) ∧ (A = none → c = 0) ∧ zs.length ≤ 5 ∧ Rd .i64 w' A zs ∧ w.grownBy w' (some g)

set_option maxRecDepth 100000 in
set_option maxHeartbeats 2000000 in
theorem l91Units (B0 g m : Nat) (w : World) (h : RdyI B0 w g m) (hB : B0 ≤ w.heap.size) (hm : m ≤ 1000000) :
    Calls Tryd.prog 11 #[.pointer (some ⟨g, 0, none⟩)] w (UnDrawn g w) := by
  have hgw := h.lt
  have HB0 := Lib.hid (below_new w (.cells #[] 3))
  have HS0 := Lib.hid (Sl.lit w w.heap.size (Nat.le_refl _) [] #[] rfl (by simp))
  have HR0 := Lib.hid (h.below HB0.out)
  clear h
  go_enter Tryd.func11, Tryd.ntmps11
  go_wp2_with fail
  refine (pickI B0 g m 5 _ HR0.out (by omega) (by omega) (by omega)).mono ?_
  rintro e w0 ⟨nn, rfl, n0, n1, hr0, g0⟩
  obtain ⟨N, rfl⟩ := Int.eq_ofNat_of_zero_le n0
  have HSN := Lib.hid (HS0.out.pick g0 hgw)
  have HRN := Lib.hid hr0
  have HGN := Lib.hid (grownBy_trans (grownBy_of_below HB0.out (some g)) g0)
  clear hr0 g0 n0
  go_wp2_with fail
  go_loopw [3, 5, 6] (fun q l i wr => ∃ (k L : Nat) (A : Option Addr) (c : Nat) (xs : List Int) (M : Nat), k ≤ N ∧ L ≤ 1 + 6 * k ∧ M ≤ m + 1 + k ∧ i = .int .i64 k ∧ l = .int .i64 L ∧ q = .slice A xs.length c ∧ Hid (xs.length = k) ∧ Sl wr w.heap.size A c xs ∧ RdyI B0 wr g M ∧ w.grownBy wr (some g)) (fun _ _ i _ => N - (intOf i).toNat)
  case atStart => exact ⟨0, 1, _, _, [], m + 1, Nat.zero_le _, Nat.le_refl _, Nat.le_refl _, rfl, rfl, rfl, Lib.hid rfl, HSN.out, HRN.out, HGN.out⟩
  case round =>
    obtain ⟨k, L, A, c, xs, M, hk, hL, hM, rfl, rfl, rfl, HX, hs, hrd, hg⟩ := hrel
    have lx : xs.length ≤ 4 := by rw [HX.out]; omega
    have hzr := hg.size
    by_cases hlt : k < N
    · go_wp2_with fail
      refine (pickI B0 g M 6 wr hrd (by omega) (by omega) (by omega)).mono ?_
      rintro e wq ⟨y, rfl, y0, y1, hrq, gq⟩
      have sq := hs.pick gq hgw
      have hzq := gq.size
      have HGq := Lib.hid (grownBy_trans hg gq)
      obtain ⟨Y, rfl⟩ := Int.eq_ofNat_of_zero_le y0
      clear hs hrd hg gq
      go_wp2_with (at_builtin; refine wp_ap1 _ _ rfl rfl wq w.heap.size A c xs _ rfl rfl sq (by omega) (by omega) ?_; intro A1 c1 w2 s2 g2 _; refine Hid.out ?_)
      have HS2 := Lib.hid s2
      have HR2 := Lib.hid (hrq.own g2 (fun j hj => by have := (sq.lt j hj).1; omega))
      have HG2 := Lib.hid (grown_le HGq.out g2 (fun j hj => (sq.lt j hj).1))
      clear s2 g2 sq hrq
      refine Lib.hid ?_
      go_wp2_with fail
      go_roundw
      case rel => exact ⟨k + 1, L + 1 + Y, A1, c1, _, M + 1, by omega, by omega, by omega, by go_num, by go_num, by simp, Lib.hid (by rw [List.length_append, HX.out]; rfl), HS2.out, HR2.out, HG2.out⟩
      case measure => simp [intOf]; omega
    · obtain rfl : k = N := by omega
      have hMb : M ≤ 1000020 := by omega
      clear hlt hL
      by_cases hk0 : k = 0
      · subst hk0
        go_wp2_with fail
        go_ret
        exact ⟨A, c, xs, rfl, hs.nz, by omega, hs.rd, hg⟩
      have hkp : (0 : Int) < (k : Int) := by omega
      go_wp2_with fail
      refine (pickI B0 g M 30 wr hrd (by omega) (by omega) (by omega)).mono ?_
      rintro e wp ⟨x, rfl, x0, x1, hrp, gp⟩
      have sp := hs.pick gp hgw
      have Gp := grownBy_trans hg gp
      have hzp := gp.size
      have hz1 : A = none → c = 0 := sp.nz
      have hn0 : xs ≠ [] := fun h => by have := HX.out; rw [h] at this; simp at this; omega
      obtain ⟨a, rfl, al, au⟩ := sp.addr hn0
      obtain ⟨K, hK⟩ : ∃ K : Nat, (k : Int) - 1 = (K : Int) := ⟨k - 1, by omega⟩
      have hKx : K < xs.length := by rw [HX.out]; omega
      have hx0 : 0 < xs.length := by omega
      have hle := sp.le
      clear hs hrd hg gp hn0
      by_cases q0 : x = 0
      · subst q0
        have bt := below_new wp (.cells #[.int .i64 1, .int .i64 0, .int .i64 1000000001] 3)
        have st := sp.alloc (.cells #[.int .i64 1, .int .i64 0, .int .i64 1000000001] 3)
        have HGt := Lib.hid (grown_le Gp (grownBy_of_below bt none) (fun j hj => by cases hj))
        have hgq : g < wp.heap.size := by omega
        clear sp Gp
        go_wp2_with fail
        refine (pickI B0 g (M + 1) 3 _ (hrp.below bt) (by omega) (by omega) (by omega)).mono ?_
        rintro e wn ⟨i, rfl, i0, i1, hrn, gn⟩
        have sn := st.pick gn hgw
        have t0 := tab_cell gn hgq 0 _ rfl
        have t1 := tab_cell gn hgq 1 _ rfl
        have t2 := tab_cell gn hgq 2 _ rfl
        have k0 := sn.cell (j := 0) hx0
        have kf := sn.free 0
        have ⟨al2, au2⟩ := sn.lt a rfl
        have tl := World.block_lt_of_cell? wn _ t0
        simp only at tl
        have HZ := Lib.hid (fun z : Int => grown_le (grownBy_trans HGt.out gn) (grownBy_set wn a 0 (.int .i64 z)) (fun j hj => by injection hj; omega))
        have HS := Lib.hid (fun z : Int => (sn.set_ 0 z).rd)
        clear hrn sn st hrp gn bt
        rcases (show i = 0 ∨ i = 1 ∨ i = 2 by omega) with rfl | rfl | rfl
        · go_wp2_with fail
          go_ret
          exact ⟨_, _, xs.set 0 1, by rw [List.length_set]; rfl, fun h => (by cases h), by rw [List.length_set]; omega, HS.out _, HZ.out _⟩
        · go_wp2_with fail
          go_ret
          exact ⟨_, _, xs.set 0 0, by rw [List.length_set]; rfl, fun h => (by cases h), by rw [List.length_set]; omega, HS.out _, HZ.out _⟩
        · go_wp2_with fail
          go_ret
          exact ⟨_, _, xs.set 0 1000000001, by rw [List.length_set]; rfl, fun h => (by cases h), by rw [List.length_set]; omega, HS.out _, HZ.out _⟩
      have c0 : (x == 0) = false := beq_eq_false_iff_ne.2 q0
      have wK : IntKind.i64.wrap ((k : Int) - 1) = (K : Int) := by rw [hK]; exact IntWalk.i64_in _ (by omega)
      by_cases q1 : x = 1
      · subst q1
        have k0 := sp.cell (j := K) hKx
        have kf := sp.free K
        have HSP := Lib.hid sp
        have HRP := Lib.hid hrp
        have HGP := Lib.hid Gp
        clear sp hrp Gp hK
        go_wp2_with (at_builtin; refine wp_ap1 _ _ rfl rfl wp w.heap.size _ c xs _ rfl rfl HSP.out (by omega) (by omega) ?_; intro A1 c1 w2 s2 g2 _; refine Hid.out ?_)
        have HS2 := Lib.hid s2
        have HG2 := Lib.hid (grown_le HGP.out g2 (fun j hj => (HSP.out.lt j hj).1))
        clear s2 g2
        refine Lib.hid ?_
        go_wp2_with fail
        go_ret
        exact ⟨A1, c1, xs ++ [nth xs K], by simp, HS2.out.nz, by rw [List.length_append]; simp; omega, HS2.out.rd, HG2.out⟩
      have c1 : (x == 1) = false := beq_eq_false_iff_ne.2 q1
      by_cases q2 : x = 2
      · subst q2
        have bt := below_new wp (.cells #[.int .i64 1000000000, .int .i64 40000, .int .i64 31622] 3)
        have st := sp.alloc (.cells #[.int .i64 1000000000, .int .i64 40000, .int .i64 31622] 3)
        have HGt := Lib.hid (grown_le Gp (grownBy_of_below bt none) (fun j hj => by cases hj))
        have hgq : g < wp.heap.size := by omega
        clear sp Gp hK
        go_wp2_with fail
        refine (pickI B0 g (M + 1) 3 _ (hrp.below bt) (by omega) (by omega) (by omega)).mono ?_
        rintro e wn ⟨i, rfl, i0, i1, hrn, gn⟩
        have sn := st.pick gn hgw
        have t0 := tab_cell gn hgq 0 _ rfl
        have t1 := tab_cell gn hgq 1 _ rfl
        have t2 := tab_cell gn hgq 2 _ rfl
        have k0 := sn.cell (j := K) hKx
        have kf := sn.free K
        have ⟨al2, au2⟩ := sn.lt a rfl
        have tl := World.block_lt_of_cell? wn _ t0
        simp only at tl
        have HZ := Lib.hid (fun z : Int => grown_le (grownBy_trans HGt.out gn) (grownBy_set wn a K (.int .i64 z)) (fun j hj => by injection hj; omega))
        have HS := Lib.hid (fun z : Int => (sn.set_ K z).rd)
        clear hrn sn st hrp gn bt
        rcases (show i = 0 ∨ i = 1 ∨ i = 2 by omega) with rfl | rfl | rfl
        · go_wp2_with fail
          go_ret
          exact ⟨_, _, xs.set K 1000000000, by rw [List.length_set]; rfl, fun h => (by cases h), by rw [List.length_set]; omega, HS.out _, HZ.out _⟩
        · go_wp2_with fail
          go_ret
          exact ⟨_, _, xs.set K 40000, by rw [List.length_set]; rfl, fun h => (by cases h), by rw [List.length_set]; omega, HS.out _, HZ.out _⟩
        · go_wp2_with fail
          go_ret
          exact ⟨_, _, xs.set K 31622, by rw [List.length_set]; rfl, fun h => (by cases h), by rw [List.length_set]; omega, HS.out _, HZ.out _⟩
      have c2 : (x == 2) = false := beq_eq_false_iff_ne.2 q2
      clear hK
      go_wp2_with fail
      go_ret
      exact ⟨_, _, xs, rfl, fun h => (by cases h), by omega, sp.rd, Gp⟩

/-- A list of at most five numbers is drawn. -/
def DrawUn (w : World) (e : Ending) (w' : World) : Prop := ∃ A c zs, e = .returned (.slice A zs.length c) ∧ (A = none → c = 0) ∧ zs.length ≤ 5 ∧ Rd .i64 w' A zs ∧ Below w.heap.size w w'
theorem DrawUnitsText (A : Option Addr) (c : Nat) (zs : List Int) (w : World) (h : Came .u8 w A c zs) : Calls Tryd.prog 5 #[.slice A zs.length c] w (DrawUn w) := by
  go_enter Tryd.func5, Tryd.ntmps5
  go_wp2_with fail
  refine (l6Open _ _ _ _ h).mono ?_
  rintro e w1 ⟨rfl, r1, b1⟩
  have hr1 := RdyI.of r1
  go_wp2_with fail
  refine (l91Units w1.heap.size w.heap.size 0 w1 hr1 (Nat.le_refl _) (by omega)).mono ?_
  rintro e w2 ⟨A2, c2, zs2, rfl, hz, l2, r2, g2⟩
  go_wp2_with fail
  go_ret
  exact ⟨A2, c2, zs2, rfl, hz, l2, r2, b1.trans (below_of_g g2 b1.size (Nat.le_refl _))⟩
end Go.Proofs.YtnmfppjjhbkfmaaDoor
