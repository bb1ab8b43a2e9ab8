/- The law FnExactNumeralFar returns true for every input: the program's NumeralFar is the reference's. No condition. -/
import Derived.Test.YtceigfdmaeanaaaFar
namespace Go.Proofs.Ytceigfdmaeanaaa
open Go.ChangeShapes Go.WideShapes Go.ChangeAt Go.RowKit
open Go.ChangeMaps (open_string shut_string)

set_option maxRecDepth 100000 in
theorem walk_FnExactNumeralFar (A0 : Option Addr) (cap0 : Nat) (z0 : List Int) (A1 : Option Addr) (cap1 : Nat) (z1 : List Int) (w : World) (h0 : Came .i64 w A0 cap0 z0) (h1 : Came .i64 w A1 cap1 z1) :
    Calls Try.prog 4 #[.slice A0 z0.length cap0, .slice A1 z1.length cap1] w fun e w' => e = .returned (.bool true) ∧ Below w.heap.size w w' := by
  have hr := h0.2.2.1
  have hm := h0.ml
  have kr := h1.2.2.1
  have km := h1.ml
  by_cases hbig : 1048576 < z0.length
  · go_enter Try.func4, Try.ntmps4
    go_wp2
    go_ret
    exact ⟨rfl, Below.refl _ _⟩
  by_cases kbig : 1048576 < z1.length
  · go_enter Try.func4, Try.ntmps4
    go_wp2
    go_ret
    exact ⟨rfl, Below.refl _ _⟩
  · go_enter Try.func4, Try.ntmps4
    go_wp2_with fail
    refine (toIntS _ _ _ _ hr (by omega)).mono ?_
    rintro e w1 ⟨A2, c2, rfl, s2, b2⟩
    go_wp2_with fail
    refine (toIntS _ _ _ _ (kr.below b2) (by omega)).mono ?_
    rintro e w2 ⟨A3, c3, rfl, s3, b3⟩
    have r2 := bstep b2 b3
    go_wp2_with fail
    refine (spec_NumeralFar _ _ _ _ _ _ _ (s2.below b3).rd s3.rd (by omega) (by omega)).mono ?_
    rintro e w' ⟨rfl, n3, rfl⟩
    have r3 := r2.drewN n3
    go_wp2_with fail
    refine (toIntS _ _ _ _ (hr.below r3) (by omega)).mono ?_
    rintro e w4 ⟨A4, c4, rfl, s4, b4⟩
    have r4 := bstep r3 b4
    go_wp2_with fail
    refine (toIntS _ _ _ _ (kr.below r4) (by omega)).mono ?_
    rintro e w5 ⟨A5, c5, rfl, s5, b5⟩
    have r5 := bstep r4 b5
    have s4' := s4.below b5
    go_wp2_with fail
    refine (impl_NumeralFar _ _ _ _ _ _ _ s4'.rd s5.rd (by omega) (by omega)).mono ?_
    rintro e w6 ⟨rfl, b6⟩
    have r6 := bstep r5 b6
    have s4'' := s4'.below b6
    have s5' := s5.below b6
    go_wp2_with fail
    refine (toIntS _ _ _ _ (hr.below r6) (by omega)).mono ?_
    rintro e w7 ⟨A7, c7, rfl, s7, b7⟩
    have r7 := bstep r6 b7
    go_wp2_with fail
    refine (eqIntS_same _ _ _ _ _ _ (s4''.below b7).rd s7.rd (by omega)).mono ?_
    rintro e w' ⟨rfl, n8, rfl⟩
    have r8 := r7.drewN n8
    have s5'' := (s5'.below b7).drewN n8
    go_wp2_with fail
    refine (toIntS _ _ _ _ (kr.below r8) (by omega)).mono ?_
    rintro e w9 ⟨A9, c9, rfl, s9, b9⟩
    have r9 := bstep r8 b9
    go_wp2_with fail
    refine (eqIntS_same _ _ _ _ _ _ (s5''.below b9).rd s9.rd (by omega)).mono ?_
    rintro e w' ⟨rfl, n10, rfl⟩
    go_wp2_with fail
    go_ret
    exact ⟨rfl, r9.drewN n10⟩

/-! The row's step, after the kit's own shell of such a proof. -/
set_option linter.unusedVariables false in
set_option maxRecDepth 100000 in
theorem lifted_FnExactNumeralFar (os : Os) (started : os.Started) (H : Type) (enc : TypeId × Value → H) :
    ReturnsInHanded {} Try.checked os 4 .any (Rows.fnExactNumeralFarSpec.pre6 enc Try.prog Try.f4 Rows.fnExactNumeralFarRow.domain false) (Rows.fnExactNumeralFarSpec.post enc Try.prog Try.f4 false true false false) := by
  refine returnsInHanded_of_change (C := Try.checked) own started (by kernel_rfl) Try.func4
    (ChangeSpec.witness6 (enc := enc) (C := Try.checked) false ⟨#[], #[.slice none 0 0, .slice none 0 0], []⟩ 8 (by kernel_rfl) (by kernel_rfl) (by kernel_rfl) (by kernel_rfl)) ?_
  intro W base args ds gs before hval0 hW hcnd _
  have hval : ∀ (j : Nat) t v, Try.f4.params[j]? = some t → args[j]? = some v → Value.okWide Try.prog W .any base t v := hval0
  have hW' := hW
  obtain ⟨p, q, hA0, hV, rfl, hfz, hnd⟩ := hW
  have hA : DataW.TrodAll enc Try.prog W 0 (fun _ => true) true Try.f4.params.toList args.toList ds p := hA0
  rw [Try.params4] at hA hval
  obtain ⟨v0, vs0, d0, ds0, p0, q0, hargs, rfl, rfl, h0, r0⟩ := trodAll_cons hA
  obtain ⟨v1, vs1, d1, ds1, p1, q1, rfl, rfl, rfl, h1, r1⟩ := trodAll_cons r0
  obtain ⟨rfl, rfl, rfl⟩ := trodAll_nil r1
  obtain rfl : args = #[v0, v1] := by cases args; simp_all
  obtain ⟨rfl, rfl⟩ := trodVars_none hV
  obtain ⟨A0, len0, cap0, rfl⟩ := okWide_slice Try.underlying22 (hval 0 22 v0 rfl rfl)
  have k0 := h0
  have lt0 : ∀ x ∈ p0, x.block < W.heap.size := by obtain ⟨m, hm⟩ := k0; exact DataW.trod_lt m _ _ _ hm
  obtain ⟨z0, rfl, w0⟩ := row_open Try.underlying22 Try.underlying3 (by kernel_rfl) h0
  obtain ⟨A1, len1, cap1, rfl⟩ := okWide_slice Try.underlying22 (hval 1 22 v1 rfl rfl)
  have k1 := h1
  have lt1 : ∀ x ∈ p1, x.block < W.heap.size := by obtain ⟨m, hm⟩ := k1; exact DataW.trod_lt m _ _ _ hm
  obtain ⟨z1, rfl, w1⟩ := row_open Try.underlying22 Try.underlying3 (by kernel_rfl) h1
  clear hA0 hval0
  refine (walk_FnExactNumeralFar A0 cap0 z0 A1 cap1 z1 W w0 w1).mono fun e W' ⟨he, bel⟩ => ?_
  subst he
  exact ⟨_, rfl, _, _, _, [], _, [], hW', trodAll_mk1 (shut_bool Try.underlying4 _), (trodAll_cons_mk (Below.trod laidOut (by kernel_rfl) (of_decide_eq_true (by kernel_rfl)) k0 bel lt0) (trodAll_cons_mk (Below.trod laidOut (by kernel_rfl) (of_decide_eq_true (by kernel_rfl)) k1 bel lt1) trodAll_mk0)), rfl, bel.frame _, fun h => by cases h⟩

theorem over_FnExactNumeralFar : Rows.fnExactNumeralFarRow.holds Try.pinned (OpenSpec.ofChange Rows.fnExactNumeralFarSpec) :=
  OpenClaim.holds_of_wide 4 Try.f4 rfl rfl rfl rfl rfl rfl rfl ⟨rfl, rfl, rfl, rfl, rfl⟩ rfl rfl rfl rfl rfl (by kernel_rfl) Try.func4 (by kernel_rfl)
    (of_decide_eq_true (by kernel_rfl)) (by unfold Func.isWrapper; first | (rw [if_pos (by decide +kernel)]; kernel_rfl) | (rw [if_neg (by decide +kernel)]; exact ⟨rfl, rfl⟩))
    (fun os started H enc _ => lifted_FnExactNumeralFar os started H enc)

/-- The statement. -/
theorem holds_FnExactNumeralFar : Rows.FnExactNumeralFarSaid := over_FnExactNumeralFar
#print axioms holds_FnExactNumeralFar
end Go.Proofs.Ytceigfdmaeanaaa
