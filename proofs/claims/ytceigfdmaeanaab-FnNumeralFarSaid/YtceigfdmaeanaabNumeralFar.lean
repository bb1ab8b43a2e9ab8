/- The law FnNumeralFar returns true for every input: numerals are as far from each other. No condition. -/
import Derived.Test.YtceigfdmaeanaabDrawFar
namespace Go.Proofs.Ytceigfdmaeanaab
open Go.ChangeShapes Go.WideShapes Go.ChangeAt Go.RowKit

/-- The first i numbers of ys, and xs behind them. -/
def mixT (ys xs : List Int) (i : Nat) : List Int := ys.take i ++ xs.drop i
section
variable {xs ys : List Int} {i : Nat}
theorem mixT_len (h : xs.length = ys.length) (hi : i ≤ xs.length) : (mixT ys xs i).length = xs.length := by simp [mixT]; omega
theorem mixT_all (h : xs.length = ys.length) : mixT ys xs xs.length = ys := by simp [mixT, h]
theorem mixT_at (h : xs.length = ys.length) (hi : i < xs.length) : nth (mixT ys xs i) i = nth xs i := by
  unfold nth mixT
  rw [List.getElem?_append_right (by simp; omega), List.length_take, Nat.min_eq_left (by omega), Nat.sub_self, List.getElem?_drop, Nat.add_zero]
theorem mixT_set (h : xs.length = ys.length) (hi : i < xs.length) : (mixT ys xs i).set i (nth ys i) = mixT ys xs (i + 1) := by
  unfold mixT
  rw [take_nth (by omega), List.set_append_right _ _ (by simp; omega), List.length_take, Nat.min_eq_left (by omega), Nat.sub_self, List.drop_eq_getElem_cons hi, List.set_cons_zero]
  simp
theorem mixT_same (h : xs.length = ys.length) (hi : i < xs.length) (e : nth xs i = nth ys i) : mixT ys xs (i + 1) = mixT ys xs i := by
  rw [← mixT_set h hi, ← e, ← mixT_at h hi]
  apply nth_ext
  · simp
  · intro j hj
    rw [List.length_set] at hj
    rw [nth_set hj]
    split
    · rename_i h1; subst h1; rfl
    · rfl
theorem mixT_num (h : xs.length = ys.length) (hx : numB xs = true) (hy : numB ys = true) (hi : i ≤ xs.length) : numB (mixT ys xs i) = true := by
  have ⟨a1, a2, a3⟩ := numB_t hx
  have ⟨c1, c2, c3⟩ := numB_t hy
  refine numB_of (by rw [mixT_len h hi]; exact a1) (by rw [mixT_len h hi]; exact a2) fun z hz => ?_
  simp only [mixT, List.mem_append] at hz
  rcases hz with hz | hz
  · exact c3 z (List.mem_of_mem_take hz)
  · exact a3 z (List.mem_of_mem_drop hz)
theorem far_symm (xs ys : List Int) : ∀ j, farTo xs ys j = farTo ys xs j
  | 0 => by simp [farTo]
  | j + 1 => by
    rw [far_step, far_step, far_symm xs ys j]
    by_cases h : nth xs j = nth ys j
    · rw [if_pos h, if_pos h.symm]
    · rw [if_neg h, if_neg (fun e => h e.symm)]
theorem far_zero {xs ys : List Int} : ∀ j, farTo xs ys j = 0 → ∀ k, k < j → nth xs k = nth ys k
  | 0, _, k, hk => by omega
  | j + 1, h, k, hk => by
    rw [far_step] at h
    have hb := (farTo_bd xs ys j).1
    by_cases e : nth xs j = nth ys j
    · rw [if_pos e] at h
      rcases Nat.lt_or_ge k j with h1 | h1
      · exact far_zero j (by omega) k h1
      · obtain rfl : k = j := by omega
        exact e
    · rw [if_neg e] at h; omega
theorem far_self (xs : List Int) : ∀ j, farTo xs xs j = 0
  | 0 => by simp [farTo]
  | j + 1 => by rw [far_step, far_self xs j, if_pos rfl]; rfl
end
/-- What is known where numerals are far. -/
theorem farV_t {xs ys : List Int} (h : 0 ≤ farV xs ys) : numB xs = true ∧ numB ys = true ∧ xs.length = ys.length ∧ farV xs ys = farTo xs ys xs.length := by
  by_cases hb : farB xs ys = true
  · have hb2 := hb
    simp only [farB, Bool.and_eq_true, decide_eq_true_eq] at hb2
    exact ⟨hb2.1.1, hb2.1.2, hb2.2, by rw [farV, if_pos hb]⟩
  · rw [farV, if_neg hb] at h; omega
theorem far_same {xs ys : List Int} (h : 0 ≤ farV xs ys) : (farV xs ys == 0) = eqB xs ys := by
  obtain ⟨_, _, hl, e⟩ := farV_t h
  rw [e, Bool.eq_iff_iff, beq_iff_eq, eqB_iff]
  refine ⟨fun h0 => nth_ext hl (far_zero _ h0), fun h0 => ?_⟩
  subst h0
  exact far_self _ _

set_option maxRecDepth 100000 in
set_option maxHeartbeats 1000000 in
theorem walk_FnNumeralFar (A0 : Option Addr) (cap0 : Nat) (z0 : List Int) (w : World) (h0 : Came .u8 w A0 cap0 z0) :
    Calls Try.prog 3 #[.slice A0 z0.length cap0] w fun e w' => e = .returned (.bool true) ∧ Below w.heap.size w w' := by
  have hm := h0.ml
  by_cases hbig : 1048576 < z0.length
  · go_enter Try.func3, Try.ntmps3
    go_wp2
    go_ret
    exact ⟨rfl, Below.refl _ _⟩
  go_enter Try.func3, Try.ntmps3
  go_wp2_with fail
  refine (DrawNumeralFar _ _ _ _ h0).mono ?_
  rintro e w1 ⟨A, c, xs, B, d, ys, rfl, hx1, hy1, lx, ly, b1⟩
  go_wp2_with fail
  refine (impl_NumeralFar _ _ _ _ _ _ _ hx1 hy1 (by omega) (by omega)).mono ?_
  rintro e w2 ⟨rfl, b2⟩
  have hx2 := hx1.below b2
  have hy2 := hy1.below b2
  have r2 := bstep b1 b2
  clear hx1 hy1 b1 b2
  go_wp2_with fail
  refine (spec_NumeralFar _ _ _ _ _ _ _ hx2 hy2 (by omega) (by omega)).mono ?_
  rintro e w' ⟨rfl, n3, rfl⟩
  have hx3 := hx2.drewN n3
  have hy3 := hy2.drewN n3
  have r3 := r2.drewN n3
  clear hx2 hy2 r2
  generalize w2.drewN n3 = w3 at *
  by_cases hneg : farV xs ys < 0
  · go_wp2_with fail
    go_ret
    exact ⟨rfl, r3⟩
  obtain ⟨n1, n2, hl, hv⟩ := farV_t (Int.not_lt.1 hneg)
  have l6 := (numB_t n1).2.1
  have HL := Lib.hid hl
  have HV := Lib.hid hv
  have hbd := farTo_bd xs ys xs.length
  have t0 : decide (farV xs ys < 0) = false := by simpa using hneg
  have t1 : (farV ys xs == farV xs ys) = true := by rw [beq_iff_eq, farV_y n2 n1 hl.symm, hv, far_symm, hl]
  have t2 : ((farV xs ys == 0) == eqB xs ys) = true := by rw [beq_iff_eq]; exact far_same (Int.not_lt.1 hneg)
  have t3 : (farTo xs ys xs.length == farV xs ys) = true := by rw [beq_iff_eq, hv]
  have hle : xs.length ≤ ys.length := by omega
  clear hl hv hneg
  go_wp2_with fail
  go_loopw [7, 8, 9] (fun x s i wr => ∃ (k : Nat) (X : Option Addr) (e : Nat), k ≤ xs.length ∧ i = .int .i64 k ∧ s = .int .i64 (farTo xs ys k) ∧ x = .slice X (mixT ys xs k).length e ∧ Rd .i64 wr X (mixT ys xs k) ∧ Below w3.heap.size w3 wr) (fun _ _ i _ => xs.length - (intOf i).toNat)
  case atStart => exact ⟨0, A, c, Nat.zero_le _, rfl, by simp [farTo], by simp [mixT], by simpa [mixT] using hx3, Below.refl _ _⟩
  case round =>
    obtain ⟨k, X, e, hk, rfl, rfl, rfl, hX, bw⟩ := hrel
    have HM := Lib.hid (mixT_len HL.out hk)
    have lm : (mixT ys xs k).length ≤ 7 := by rw [HM.out]; exact lx
    have hfb := farTo_bd xs ys k
    by_cases hlt : k < xs.length
    · have ky : k < ys.length := by omega
      obtain ⟨b, off, rfl, hbl, hc⟩ := (hy3.below bw).at ky
      have HNM := Lib.hid (mixT_num HL.out n1 n2 hk)
      have HAT := Lib.hid (mixT_at (ys := ys) HL.out hlt)
      have u0 : 0 ≤ (k : Int) := by omega
      have u1 : (k : Int) < ys.length := by omega
      have HST := Lib.hid (far_step xs ys k)
      have hdig := numB_digit n2 k
      cases hs : slipB (mixT ys xs k) (k : Int) (nth ys k)
      · have he : nth xs k = nth ys k := by
          by_cases h : nth xs k = nth ys k
          · exact h
          · exfalso
            have : slipB (mixT ys xs k) (k : Int) (nth ys k) = true := slipB_y HNM.out (inB_of (by omega) (by rw [HM.out]; omega)) (inB_of hdig.1 hdig.2) (by rw [Int.toNat_natCast, HAT.out, beq_eq_false_iff_ne]; exact h)
            rw [hs] at this; cases this
        have HS := Lib.hid (mixT_same HL.out hlt he)
        have HF : Hid (farTo xs ys (k + 1) = farTo xs ys k) := Lib.hid (by rw [HST.out, if_pos he]; omega)
        clear he
        go_wp2_with fail
        refine (impl_NumeralSlip X e (mixT ys xs k) (k : Int) (nth ys k) wr hX (by omega)).mono ?_
        rintro e' w4 ⟨A4, c4, rfl, s4, b4⟩
        rw [hs]
        go_wp2_with fail
        go_roundw
        case rel => exact ⟨k + 1, X, e, by omega, by go_num, by rw [HF.out], by rw [HS.out], by rw [HS.out]; exact hX.below b4, bstep bw b4⟩
        case measure => simp [intOf]; omega
      · have hne := (slipB_t hs).2.2.2.2.2
        rw [Int.toNat_natCast, HAT.out] at hne
        have HS : Hid (slipL (mixT ys xs k) (k : Int) (nth ys k) = mixT ys xs (k + 1)) := Lib.hid (by rw [slip_yes hs, Int.toNat_natCast, mixT_set HL.out hlt])
        have HF : Hid (farTo xs ys (k + 1) = farTo xs ys k + 1) := Lib.hid (by rw [HST.out, if_neg hne])
        clear hne
        go_wp2_with fail
        refine (impl_NumeralSlip X e (mixT ys xs k) (k : Int) (nth ys k) wr hX (by omega)).mono ?_
        rintro e' w4 ⟨A4, c4, rfl, s4, b4⟩
        rw [hs]
        rw [HS.out] at s4 ⊢
        go_wp2_with fail
        go_roundw
        case rel => exact ⟨k + 1, A4, c4, by omega, by go_num, by rw [HF.out], rfl, s4.rd, bstep bw b4⟩
        case measure => simp [intOf]; omega
    · obtain rfl : k = xs.length := by omega
      have e1 := mixT_all HL.out
      rw [e1] at hX ⊢
      have HB := Lib.hid bw
      have hx4 := hx3.below bw
      have hy4 := hy3.below bw
      clear e1 HM lm hfb bw
      go_wp2_with fail
      refine (impl_NumeralFar _ _ _ _ _ _ _ hy4 hx4 (by omega) (by omega)).mono ?_
      rintro e' w5 ⟨rfl, b5⟩
      have hx5 := hx4.below b5
      have hy5 := hy4.below b5
      have hX5 := hX.below b5
      have HB5 := Lib.hid (bstep HB.out b5)
      clear hx4 hy4 hX b5
      go_wp2_with fail
      refine (sameInts _ _ _ _ _ _ _ hx5 hy5 (by omega) (by omega)).mono ?_
      rintro e' w' ⟨rfl, n6, rfl⟩
      have hy6 := hy5.drewN n6
      have hX6 := hX5.drewN n6
      clear hx5 hy5 hX5
      go_wp2_with fail
      refine (sameInts_same _ _ _ _ _ _ hX6 hy6 (by omega)).mono ?_
      rintro e' w' ⟨rfl, n7, rfl⟩
      go_wp2_with fail
      go_ret
      exact ⟨rfl, bstep r3 (HB5.out.drewN _)⟩

/-! The row's step, after the kit's own shell of such a proof. -/
set_option linter.unusedVariables false in
set_option maxRecDepth 100000 in
theorem lifted_FnNumeralFar (os : Os) (started : os.Started) (H : Type) (enc : TypeId × Value → H) :
    ReturnsInHanded {} Try.checked os 3 .any (Rows.fnNumeralFarSpec.pre6 enc Try.prog Try.f3 Rows.fnNumeralFarRow.domain false) (Rows.fnNumeralFarSpec.post enc Try.prog Try.f3 false true false false) := by
  refine returnsInHanded_of_change (C := Try.checked) own started (by kernel_rfl) Try.func3
    (ChangeSpec.witness6 (enc := enc) (C := Try.checked) false ⟨#[], #[.slice none 0 0], []⟩ 8 (by kernel_rfl) (by kernel_rfl) (by kernel_rfl) (by kernel_rfl)) ?_
  intro W base args ds gs before hval0 hW hcnd _
  have hval : ∀ (j : Nat) t v, Try.f3.params[j]? = some t → args[j]? = some v → Value.okWide Try.prog W .any base t v := hval0
  have hW' := hW
  obtain ⟨p, q, hA0, hV, rfl, hfz, hnd⟩ := hW
  have hA : DataW.TrodAll enc Try.prog W 0 (fun _ => true) true Try.f3.params.toList args.toList ds p := hA0
  rw [Try.params3] at hA hval
  obtain ⟨v0, vs0, d0, ds0, p0, q0, hargs, rfl, rfl, h0, r0⟩ := trodAll_cons hA
  obtain ⟨rfl, rfl, rfl⟩ := trodAll_nil r0
  obtain rfl : args = #[v0] := by cases args; simp_all
  obtain ⟨rfl, rfl⟩ := trodVars_none hV
  obtain ⟨A0, len0, cap0, rfl⟩ := okWide_slice Try.underlying22 (hval 0 22 v0 rfl rfl)
  have k0 := h0
  have lt0 : ∀ x ∈ p0, x.block < W.heap.size := by obtain ⟨m, hm⟩ := k0; exact DataW.trod_lt m _ _ _ hm
  obtain ⟨z0, rfl, w0⟩ := row_open Try.underlying22 Try.underlying5 (by kernel_rfl) h0
  clear hA0 hval0
  refine (walk_FnNumeralFar A0 cap0 z0 W w0).mono fun e W' ⟨he, bel⟩ => ?_
  subst he
  exact ⟨_, rfl, _, _, _, [], _, [], hW', trodAll_mk1 (shut_bool Try.underlying4 _), (trodAll_cons_mk (Below.trod laidOut (by kernel_rfl) (of_decide_eq_true (by kernel_rfl)) k0 bel lt0) trodAll_mk0), rfl, bel.frame _, fun h => by cases h⟩

theorem over_FnNumeralFar : Rows.fnNumeralFarRow.holds Try.pinned (OpenSpec.ofChange Rows.fnNumeralFarSpec) :=
  OpenClaim.holds_of_wide 3 Try.f3 rfl rfl rfl rfl rfl rfl rfl ⟨rfl, rfl, rfl, rfl, rfl⟩ rfl rfl rfl rfl rfl (by kernel_rfl) Try.func3 (by kernel_rfl)
    (of_decide_eq_true (by kernel_rfl)) (by unfold Func.isWrapper; first | (rw [if_pos (by decide +kernel)]; kernel_rfl) | (rw [if_neg (by decide +kernel)]; exact ⟨rfl, rfl⟩))
    (fun os started H enc _ => lifted_FnNumeralFar os started H enc)

/-- The statement. -/
theorem holds_FnNumeralFar : Rows.FnNumeralFarSaid := over_FnNumeralFar
#print axioms holds_FnNumeralFar
end Go.Proofs.Ytceigfdmaeanaab
