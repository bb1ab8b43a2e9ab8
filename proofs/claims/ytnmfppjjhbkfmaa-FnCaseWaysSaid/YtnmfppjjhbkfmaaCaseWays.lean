/- The law FnCaseWays returns true for every input: rods are used once each. No condition. -/
import Derived.Test.YtnmfppjjhbkfmaaCasE
namespace Go.Proofs.Ytnmfppjjhbkfmaa
open Go.ChangeShapes Go.WideShapes Go.ChangeAt Go.RowKit

theorem nth_reverse {zs : List Int} {j : Nat} (h : j < zs.length) : nth zs.reverse j = nth zs (zs.length - 1 - j) := by
  unfold nth
  rw [List.getElem?_reverse h]
theorem numB_reverse {zs : List Int} (h : numB zs = true) : numB zs.reverse = true := by
  obtain ⟨h1, h6, h9⟩ := numB_t h
  exact numB_of (by rw [List.length_reverse]; exact h1) (by rw [List.length_reverse]; exact h6) (fun z hz => h9 z (List.mem_reverse.1 hz))
theorem numB_one {zs : List Int} (h : numB zs = true) : numB [nth zs 0] = true := by
  have := numB_digit h 0
  exact numB_of (by simp) (by simp) (fun z hz => by simp at hz; subst hz; exact this)
theorem has4_t {s : List Int} {d : Int} {k : Nat} (h4 : s.length = 4) (hk : k < 4) (h : nth s k = d) : hasB s d = true := hasB_iff.2 ⟨k, by omega, h⟩
theorem has4_f {s : List Int} {d : Int} (h4 : s.length = 4) (h0 : nth s 0 ≠ d) (h1 : nth s 1 ≠ d) (h2 : nth s 2 ≠ d) (h3 : nth s 3 ≠ d) : hasB s d = false :=
  has_no (fun k hk => by
    rcases (show k = 0 ∨ k = 1 ∨ k = 2 ∨ k = 3 by omega) with rfl | rfl | rfl | rfl
    · exact h0
    · exact h1
    · exact h2
    · exact h3)
theorem below_new' (w : World) (o : Obj) : Below w.heap.size w (w.alloc o) := (Below.refl _ _).alloc (Nat.le_refl _) _

set_option maxRecDepth 100000 in
set_option maxHeartbeats 2000000 in
theorem walk_FnCaseWays (A0 : Option Addr) (cap0 : Nat) (z0 : List Int) (w : World) (h0 : Came .u8 w A0 cap0 z0) :
    Calls Try.prog 3 #[.slice A0 z0.length cap0] w fun e w' => e = .returned (.bool true) ∧ Below w.heap.size w w' := by
  have hm0 := h0.ml
  by_cases hb0 : 1048576 < z0.length
  · go_enter Try.func3, Try.ntmps3
    go_wp2
    go_ret
    exact ⟨rfl, Below.refl _ _⟩
  go_enter Try.func3, Try.ntmps3
  go_wp2_with fail
  refine (DrawCaseWays _ _ _ _ h0).mono ?_
  rintro e w1 ⟨A, c, R, B, d, zs, rfl, R1, l8, r1, l7, hcap, b1⟩
  clear h0
  go_wp2_with fail
  refine (impl_CaseWays A B c d R zs w1 R1 r1 (by omega) (by omega)).mono ?_
  rintro e w2 ⟨rfl, b2⟩
  have R2 := R1.below b2
  have r2 := r1.below b2
  have q2 := bstep b1 b2
  clear b1 b2 R1 r1
  go_wp2_with fail
  refine (spec_CaseWays A B c d R zs w2 R2 r2 (by omega) (by omega) hcap).mono ?_
  rintro e w3 ⟨rfl, b3⟩
  have R3 := R2.below b3
  have r3 := r2.below b3
  have q3 := bstep q2 b3
  clear b3 R2 r2 q2
  cases hv : numB zs && caseB R
  · rw [show wayT R zs = -1 by simp [wayT, hv]]
    go_wp2_with fail
    go_ret
    exact ⟨rfl, q3⟩
  have hv2 : numB zs = true ∧ caseB R = true := by simpa using hv
  obtain ⟨hn, hc⟩ := hv2
  obtain ⟨W, hW⟩ : ∃ W, ways R zs noU = W := ⟨_, rfl⟩
  have hWT : wayT R zs = (W : Int) := by rw [wayT, if_pos hv, hW]
  have hWle := wayT_le hn hc
  rw [hW] at hWle
  have ⟨z1, z6, _⟩ := numB_t hn
  have HREV : Hid (wayT R zs.reverse = (W : Int)) := Lib.hid (by rw [wayT, numB_reverse hn, hc, ways_reverse, hW]; rfl)
  have HSHO : Hid (shoT R zs = decide (0 < W)) := Lib.hid (by rw [shoT, hn, hc, hW]; rfl)
  obtain ⟨f, hf⟩ : ∃ f : Nat → Nat, (fun i => if hasB (sd R i) (nth zs 0) = true then 1 else 0) = f := ⟨_, rfl⟩
  have HONE : Hid (wayT R [nth zs 0] = ((sumN f R.length : Nat) : Int)) := Lib.hid (by rw [wayT, numB_one hn, hc, ← hf]; show ((ways R [nth zs 0] noU : Nat) : Int) = _; rw [show noU = fun _ => false from rfl, ways_one])
  have HF : Hid (∀ i, f i = if hasB (sd R i) (nth zs 0) = true then 1 else 0) := Lib.hid (fun i => by rw [← hf])
  have HROD := Lib.hid (caseB_t hc).2
  have HD := Lib.hid (numB_digit hn)
  have HR3 := Lib.hid R3
  have Hr3 := Lib.hid r3
  have HQ3 := Lib.hid q3
  have n0 : ¬ (W : Int) < 0 := by omega
  rw [hWT]
  have HS0 := Lib.hid (Sl.lit w3 w3.heap.size (Nat.le_refl _) [] #[] rfl (by simp))
  have HB0 := Lib.hid (below_new' w3 (.cells #[] 3))
  clear hv hn hc hW hWT hf R3 r3 q3
  go_wp2_with fail
  go_loopw [7, 8] (fun q x wr => ∃ (j : Nat) (A5 : Option Addr) (c5 : Nat) (xs : List Int), j ≤ zs.length ∧ x = .int .i64 ((zs.length : Int) - 1 - (j : Int)) ∧ q = .slice A5 xs.length c5 ∧ Hid (xs = zs.reverse.take j) ∧ Hid (xs.length = j) ∧ Sl wr w3.heap.size A5 c5 xs ∧ Below w3.heap.size w3 wr) (fun _ x _ => (intOf x + 1).toNat)
  case atStart => exact ⟨0, _, _, [], Nat.zero_le _, by simp, rfl, Lib.hid (by simp), Lib.hid rfl, HS0.out, HB0.out⟩
  case round =>
    obtain ⟨j, A5, c5, xs, hj, rfl, rfl, HX, HL, hs, hb⟩ := hrel
    have lx : xs.length ≤ 6 := by rw [HL.out]; omega
    have hzr := hb.size
    by_cases hlt : j < zs.length
    · obtain ⟨k, hk⟩ : ∃ k : Nat, (zs.length : Int) - 1 - (j : Int) = (k : Int) := ⟨zs.length - 1 - j, by omega⟩
      have hkl : k < zs.length := by omega
      have hkn : zs.length - 1 - j = k := by omega
      obtain ⟨bl, off, rfl, hbl, hcell⟩ := (Hr3.out.below hb).at hkl
      have HN : Hid (xs ++ [nth zs k] = zs.reverse.take (j + 1)) := Lib.hid (by rw [take_nth (by rw [List.length_reverse]; exact hlt), nth_reverse hlt, ← HX.out, hkn])
      have w9 : IntKind.i64.wrap ((k : Int) - 1) = (k : Int) - 1 := IntWalk.i64_in _ (by omega)
      have HK := Lib.hid hk
      have hk0 : 0 ≤ (k : Int) := by omega
      rw [hk]
      clear hk hkn
      go_wp2_with (at_builtin; refine wp_ap1 _ _ rfl rfl wr w3.heap.size A5 c5 xs _ rfl rfl hs (by omega) (by omega) ?_; intro A6 c6 w6 s6 g6 _; refine Hid.out ?_)
      have HS6 := Lib.hid s6
      have HB6 := Lib.hid (hb.grown g6 hb.size (fun i hi => (hs.lt i hi).1))
      clear s6 g6 hs hb
      refine Lib.hid ?_
      go_wp2_with fail
      go_roundw
      case rel => exact ⟨j + 1, A6, c6, xs ++ [nth zs k], by omega, by have := HK.out; simp only [Value.int.injEq, true_and]; omega, by simp, HN, Lib.hid (by rw [List.length_append, HL.out]; rfl), HS6.out, HB6.out⟩
      case measure => have := HK.out; simp [intOf] <;> omega
    · obtain rfl : j = zs.length := by omega
      obtain ⟨wB, rfl⟩ : ∃ wB, wB = wr := ⟨_, rfl⟩
      have hxs : xs = zs.reverse := by rw [HX.out, List.take_of_length_le (by rw [List.length_reverse]; exact Nat.le_refl _)]
      obtain ⟨bl, ol, rfl, hbl, hz0⟩ := (Hr3.out.below hb).at (i := 0) (by omega)
      have HXS := Lib.hid hxs
      have HSB := Lib.hid hs.rd
      have HBB := Lib.hid hb
      have HZ0 := Lib.hid hz0
      have HRB := Lib.hid (HR3.out.below hb)
      have HZB := Lib.hid (Hr3.out.below hb)
      obtain ⟨x, hx⟩ : ∃ x, nth zs 0 = x := ⟨_, rfl⟩
      rw [hx] at HONE HF HZ0
      have HXD := Lib.hid hx
      clear hs hb hz0 hxs hx hlt hzr
      go_wp2_with fail
      go_loopw [9, 10] (fun q y wr => ∃ i : Nat, i ≤ R.length ∧ q = .int .i64 ((sumN f i : Nat) : Int) ∧ y = .int .i64 (i : Int) ∧ Hid (sumN f i ≤ i) ∧ Hid (Below wB.heap.size wB wr)) (fun _ y _ => R.length - (intOf y).toNat)
      case atStart => exact ⟨0, Nat.zero_le _, rfl, rfl, Lib.hid (Nat.le_refl _), Lib.hid (Below.refl _ _)⟩
      case round =>
        obtain ⟨i, hi, rfl, rfl, HM, HI⟩ := hrel
        by_cases hlti : i < R.length
        · obtain ⟨b, off, bi, oi, ci, rfl, hbb, hcc, hrs⟩ := (HRB.out.below HI.out).at hlti
          have h4 := (rodB_t (HROD.out i hlti)).1
          have hltI : (i : Int) < (R.length : Int) := by omega
          obtain ⟨s, hs⟩ : ∃ s, sd R i = s := ⟨_, rfl⟩
          rw [hs] at hcc hrs h4
          have HFI : Hid (f i = if hasB s x = true then 1 else 0) := Lib.hid (by rw [HF.out i, hs])
          have HF2 : Hid (sumN f (i + 1) = sumN f i + f i) := Lib.hid rfl
          have hcell : ∀ k, k < 4 → wr.cell? ⟨bi, oi + k, none⟩ = some (.int .i64 (nth s k)) := fun k hk => by
            obtain ⟨b', o', he, _, hc⟩ := hrs.at (i := k) (by omega)
            injection he with he
            injection he with e1 e2
            subst e1 e2
            exact hc
          have l0 := later_cell (hcell 0 (by omega))
          have l1 := later_cell (hcell 1 (by omega))
          have l2 := later_cell (hcell 2 (by omega))
          have l3 := later_cell (hcell 3 (by omega))
          rw [Nat.add_zero] at l0
          have lz := later_cell ((cell_same (HI.out.block bl hbl)).trans HZ0.out)
          rw [Nat.add_zero] at lz
          have hy := later_refl wr
          rw [h4] at hcc
          obtain ⟨S, hS⟩ : ∃ S, sumN f i = S := ⟨_, rfl⟩
          have hS8 : S ≤ 8 := by have := HM.out; omega
          rw [hS] at HF2 HM ⊢
          have H4 := Lib.hid h4
          have hzl : (0 : Int) < (zs.length : Int) := by omega
          clear hs hcell hrs h4 hS
          by_cases e0 : nth s 0 = x
          · have d0 : (nth s 0 == x) = true := beq_iff_eq.2 e0
            have HH := Lib.hid (has4_t H4.out (k := 0) (by omega) e0)
            clear e0
            have HV : Hid (((sumN f (i + 1) : Nat) : Int) = (S : Int) + 1 ∧ sumN f (i + 1) ≤ i + 1) := Lib.hid (by have h1 := HF2.out; have h2 := HFI.out; rw [HH.out] at h2; simp at h2; have := HM.out; omega)
            go_wp2_with fail
            refine wp_region_later (by kernel_rfl) (by kernel_rfl) ?_
            repeat (go_big_quiet_step (fail))
            refine wpQuiet_nil ?_
            intro w' hw'
            obtain ⟨⟨w2', b2'⟩, hw''⟩ := hw'
            obtain rfl : w' = w2' := hw''
            have HN := Lib.hid (bstep HI.out b2')
            clear hy l0 l1 l2 l3 lz b2'
            go_wp2_with fail
            go_roundw
            case rel => exact ⟨i + 1, by omega, by rw [HV.out.1], by go_num, Lib.hid HV.out.2, HN⟩
            case measure => simp [intOf]; omega
          have d0 : (nth s 0 == x) = false := beq_eq_false_iff_ne.2 e0
          by_cases e1 : nth s 1 = x
          · have d1 : (nth s 1 == x) = true := beq_iff_eq.2 e1
            have HH := Lib.hid (has4_t H4.out (k := 1) (by omega) e1)
            clear e0 e1
            have HV : Hid (((sumN f (i + 1) : Nat) : Int) = (S : Int) + 1 ∧ sumN f (i + 1) ≤ i + 1) := Lib.hid (by have h1 := HF2.out; have h2 := HFI.out; rw [HH.out] at h2; simp at h2; have := HM.out; omega)
            go_wp2_with fail
            refine wp_region_later (by kernel_rfl) (by kernel_rfl) ?_
            repeat (go_big_quiet_step (fail))
            refine wpQuiet_nil ?_
            intro w' hw'
            obtain ⟨⟨w2', b2'⟩, hw''⟩ := hw'
            obtain rfl : w' = w2' := hw''
            have HN := Lib.hid (bstep HI.out b2')
            clear hy l0 l1 l2 l3 lz b2'
            go_wp2_with fail
            go_roundw
            case rel => exact ⟨i + 1, by omega, by rw [HV.out.1], by go_num, Lib.hid HV.out.2, HN⟩
            case measure => simp [intOf]; omega
          have d1 : (nth s 1 == x) = false := beq_eq_false_iff_ne.2 e1
          by_cases e2 : nth s 2 = x
          · have d2 : (nth s 2 == x) = true := beq_iff_eq.2 e2
            have HH := Lib.hid (has4_t H4.out (k := 2) (by omega) e2)
            clear e0 e1 e2
            have HV : Hid (((sumN f (i + 1) : Nat) : Int) = (S : Int) + 1 ∧ sumN f (i + 1) ≤ i + 1) := Lib.hid (by have h1 := HF2.out; have h2 := HFI.out; rw [HH.out] at h2; simp at h2; have := HM.out; omega)
            go_wp2_with fail
            refine wp_region_later (by kernel_rfl) (by kernel_rfl) ?_
            repeat (go_big_quiet_step (fail))
            refine wpQuiet_nil ?_
            intro w' hw'
            obtain ⟨⟨w2', b2'⟩, hw''⟩ := hw'
            obtain rfl : w' = w2' := hw''
            have HN := Lib.hid (bstep HI.out b2')
            clear hy l0 l1 l2 l3 lz b2'
            go_wp2_with fail
            go_roundw
            case rel => exact ⟨i + 1, by omega, by rw [HV.out.1], by go_num, Lib.hid HV.out.2, HN⟩
            case measure => simp [intOf]; omega
          have d2 : (nth s 2 == x) = false := beq_eq_false_iff_ne.2 e2
          by_cases e3 : nth s 3 = x
          · have d3 : (nth s 3 == x) = true := beq_iff_eq.2 e3
            have HH := Lib.hid (has4_t H4.out (k := 3) (by omega) e3)
            clear e0 e1 e2 e3
            have HV : Hid (((sumN f (i + 1) : Nat) : Int) = (S : Int) + 1 ∧ sumN f (i + 1) ≤ i + 1) := Lib.hid (by have h1 := HF2.out; have h2 := HFI.out; rw [HH.out] at h2; simp at h2; have := HM.out; omega)
            go_wp2_with fail
            refine wp_region_later (by kernel_rfl) (by kernel_rfl) ?_
            repeat (go_big_quiet_step (fail))
            refine wpQuiet_nil ?_
            intro w' hw'
            obtain ⟨⟨w2', b2'⟩, hw''⟩ := hw'
            obtain rfl : w' = w2' := hw''
            have HN := Lib.hid (bstep HI.out b2')
            clear hy l0 l1 l2 l3 lz b2'
            go_wp2_with fail
            go_roundw
            case rel => exact ⟨i + 1, by omega, by rw [HV.out.1], by go_num, Lib.hid HV.out.2, HN⟩
            case measure => simp [intOf]; omega
          have d3 : (nth s 3 == x) = false := beq_eq_false_iff_ne.2 e3
          have HH := Lib.hid (has4_f H4.out e0 e1 e2 e3)
          clear e0 e1 e2 e3
          have HV : Hid (sumN f (i + 1) = S ∧ sumN f (i + 1) ≤ i + 1) := Lib.hid (by have h1 := HF2.out; have h2 := HFI.out; rw [HH.out] at h2; simp at h2; have := HM.out; omega)
          go_wp2_with fail
          refine wp_region_later (by kernel_rfl) (by kernel_rfl) ?_
          repeat (go_big_quiet_step (fail))
          refine wpQuiet_nil ?_
          intro w' hw'
          obtain ⟨⟨w2', b2'⟩, hw''⟩ := hw'
          obtain rfl : w' = w2' := hw''
          have HN := Lib.hid (bstep HI.out b2')
          clear hy l0 l1 l2 l3 lz b2'
          go_wp2_with fail
          go_roundw
          case rel => exact ⟨i + 1, by omega, by rw [HV.out.1], by go_num, Lib.hid HV.out.2, HN⟩
          case measure => simp [intOf]; omega
        · obtain rfl : i = R.length := by omega
          obtain ⟨S, hS⟩ : ∃ S, sumN f R.length = S := ⟨_, rfl⟩
          rw [hS] at HONE ⊢
          have HW0 := Lib.hid (HI.out.size)
          have HRW := Lib.hid (HRB.out.below HI.out)
          have HZW := Lib.hid (HZB.out.below HI.out)
          have HSW := Lib.hid (HSB.out.below HI.out)
          have HQW := Lib.hid (bstep (bstep HQ3.out HBB.out) HI.out)
          have HC1 := Lib.hid (impl_CaseShows A (some ⟨bl, ol, none⟩) c d R zs wr HRW.out HZW.out (by omega) (by omega))
          rw [HSHO.out] at HC1
          clear hS
          by_cases hW0 : W = 0
          · subst hW0
            go_wp2_with fail
            refine HC1.out.mono ?_
            rintro e w5 ⟨rfl, b5⟩
            have HC2 := Lib.hid (impl_CaseWays A A5 c c5 R xs w5 (HRW.out.below b5) (HSW.out.below b5) (by omega) (by omega))
            rw [HXS.out, HREV.out] at HC2
            have HXL := Lib.hid (congrArg List.length HXS.out)
            have HQ5 := Lib.hid (bstep HQW.out b5)
            have HR5 := Lib.hid (HRW.out.below b5)
            have HZ5 := Lib.hid (HZW.out.below b5)
            clear b5
            rw [← HXS.out] at HC2
            go_wp2_with fail
            refine HC2.out.mono ?_
            rintro e w6 ⟨rfl, b6⟩
            have HC3 := Lib.hid (impl_CaseWays A (some ⟨bl, ol, none⟩) c d R [x] w6 (HR5.out.below b6) (fun _ => ⟨bl, ol, rfl, fun j hj => by
              have : j = 0 := by simpa using hj
              subst this
              have := (HZ5.out.below b6).at (i := 0) (by omega)
              obtain ⟨b', o', he, _, hc⟩ := this
              injection he with he
              injection he with e1 e2
              subst e1 e2
              rw [hc, HXD.out]; rfl⟩) (by omega) (by simp))
            rw [HONE.out] at HC3
            have HQ6 := Lib.hid (bstep HQ5.out b6)
            clear b6
            go_wp2_with fail
            refine HC3.out.mono ?_
            rintro e w7 ⟨rfl, b7⟩
            go_wp2_with fail
            go_ret
            exact ⟨rfl, bstep HQ6.out b7⟩
          · have hWp : (0 : Int) < (W : Int) := by omega
            have hWd : decide (0 < W) = true := by simp; omega
            rw [hWd] at HC1
            clear hWd
            go_wp2_with fail
            refine HC1.out.mono ?_
            rintro e w5 ⟨rfl, b5⟩
            have HC2 := Lib.hid (impl_CaseWays A A5 c c5 R xs w5 (HRW.out.below b5) (HSW.out.below b5) (by omega) (by omega))
            rw [HXS.out, HREV.out] at HC2
            have HXL := Lib.hid (congrArg List.length HXS.out)
            have HQ5 := Lib.hid (bstep HQW.out b5)
            have HR5 := Lib.hid (HRW.out.below b5)
            have HZ5 := Lib.hid (HZW.out.below b5)
            clear b5
            rw [← HXS.out] at HC2
            go_wp2_with fail
            refine HC2.out.mono ?_
            rintro e w6 ⟨rfl, b6⟩
            have HC3 := Lib.hid (impl_CaseWays A (some ⟨bl, ol, none⟩) c d R [x] w6 (HR5.out.below b6) (fun _ => ⟨bl, ol, rfl, fun j hj => by
              have : j = 0 := by simpa using hj
              subst this
              have := (HZ5.out.below b6).at (i := 0) (by omega)
              obtain ⟨b', o', he, _, hc⟩ := this
              injection he with he
              injection he with e1 e2
              subst e1 e2
              rw [hc, HXD.out]; rfl⟩) (by omega) (by simp))
            rw [HONE.out] at HC3
            have HQ6 := Lib.hid (bstep HQ5.out b6)
            clear b6
            go_wp2_with fail
            refine HC3.out.mono ?_
            rintro e w7 ⟨rfl, b7⟩
            go_wp2_with fail
            go_ret
            exact ⟨rfl, bstep HQ6.out b7⟩

/-! The row's step, after the kit's own shell of such a proof. -/
set_option linter.unusedVariables false in
set_option maxRecDepth 100000 in
theorem lifted_FnCaseWays (os : Os) (started : os.Started) (H : Type) (enc : TypeId × Value → H) :
    ReturnsInHanded {} Try.checked os 3 .any (Rows.fnCaseWaysSpec.pre6 enc Try.prog Try.f3 Rows.fnCaseWaysRow.domain false) (Rows.fnCaseWaysSpec.post enc Try.prog Try.f3 false true false false) := by
  refine returnsInHanded_of_change (C := Try.checked) own started (by kernel_rfl) Try.func3
    (ChangeSpec.witness6 (enc := enc) (C := Try.checked) false ⟨#[], #[.slice none 0 0], []⟩ 8 (by kernel_rfl) (by kernel_rfl) (by kernel_rfl) (by kernel_rfl)) ?_
  intro W base args ds gs before hval0 hW hcnd _
  have hval : ∀ (j : Nat) t v, Try.f3.params[j]? = some t → args[j]? = some v → Value.okWide Try.prog W .any base t v := hval0
  have hW' := hW
  obtain ⟨p, q, hA0, hV, rfl, hfz, hnd⟩ := hW
  have hA : DataW.TrodAll enc Try.prog W 0 (fun _ => true) true Try.f3.params.toList args.toList ds p := hA0
  rw [Try.params3] at hA hval
  obtain ⟨v0, vs0, d0, ds0, p0, q0, hargs, rfl, rfl, h0, r0⟩ := trodAll_cons hA
  obtain ⟨rfl, rfl, rfl⟩ := trodAll_nil r0
  obtain rfl : args = #[v0] := by cases args; simp_all
  obtain ⟨rfl, rfl⟩ := trodVars_none hV
  obtain ⟨A0, len0, cap0, rfl⟩ := okWide_slice Try.underlying22 (hval 0 22 v0 rfl rfl)
  have k0 := h0
  have lt0 : ∀ x ∈ p0, x.block < W.heap.size := by obtain ⟨m, hm⟩ := k0; exact DataW.trod_lt m _ _ _ hm
  obtain ⟨z0, rfl, w0⟩ := row_open Try.underlying22 Try.underlying5 (by kernel_rfl) h0
  clear hA0 hval0
  refine (walk_FnCaseWays A0 cap0 z0 W w0).mono fun e W' ⟨he, bel⟩ => ?_
  subst he
  exact ⟨_, rfl, _, _, _, [], _, [], hW', trodAll_mk1 (shut_bool Try.underlying4 _), (trodAll_cons_mk (Below.trod laidOut (by kernel_rfl) (of_decide_eq_true (by kernel_rfl)) k0 bel lt0) trodAll_mk0), rfl, bel.frame _, fun h => by cases h⟩

theorem over_FnCaseWays : Rows.fnCaseWaysRow.holds Try.pinned (OpenSpec.ofChange Rows.fnCaseWaysSpec) :=
  OpenClaim.holds_of_wide 3 Try.f3 rfl rfl rfl rfl rfl rfl rfl ⟨rfl, rfl, rfl, rfl, rfl⟩ rfl rfl rfl rfl rfl (by kernel_rfl) Try.func3 (by kernel_rfl)
    (of_decide_eq_true (by kernel_rfl)) (by unfold Func.isWrapper; first | (rw [if_pos (by decide +kernel)]; kernel_rfl) | (rw [if_neg (by decide +kernel)]; exact ⟨rfl, rfl⟩))
    (fun os started H enc _ => lifted_FnCaseWays os started H enc)

/-- The statement. -/
theorem holds_FnCaseWays : Rows.FnCaseWaysSaid := over_FnCaseWays
#print axioms holds_FnCaseWays
end Go.Proofs.Ytnmfppjjhbkfmaa
