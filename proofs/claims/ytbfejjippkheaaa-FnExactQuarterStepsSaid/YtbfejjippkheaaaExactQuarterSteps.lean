/- The law FnExactQuarterSteps returns true for every input: the program's QuarterSteps is the reference's, its result is its own. No condition. -/
import Derived.Test.YtbfejjippkheaaaSteps
namespace Go.Proofs.Ytbfejjippkheaaa
open Go.ChangeShapes Go.WideShapes Go.ChangeAt Go.RowKit
open Go.ChangeMaps (open_string shut_string)

set_option maxRecDepth 100000 in
theorem walk_FnExactQuarterSteps (a0 : Int) (w : World) (_ : (Lit.int .i64 a0).wf = true) :
    Calls Try.prog 9 #[.int .i64 a0] w fun e w' => e = .returned (.bool true) ∧ Below w.heap.size w w' := by
  have hl : (qs a0).length ≤ 100 := qs_le a0
  go_enter Try.func9, Try.ntmps9
  go_wp2_with fail
  refine (spec_QuarterSteps _ _).mono ?_
  rintro e w1 ⟨A0, c0, rfl, s0, b0⟩
  go_wp2_with fail
  refine (impl_QuarterSteps _ _).mono ?_
  rintro e w2 ⟨A1, c1, rfl, s1, b1⟩
  go_wp2_with fail
  refine (eqIntS_same _ _ _ _ _ _ s1.rd (s0.below b1).rd (by omega)).mono ?_
  rintro e w3 ⟨rfl, n3, rfl⟩
  have t1 := b1.size
  have t0 := b0.size
  go_wp2_with fail
  refine (markIntS _ _ _ _ _ _ (s1.drewN n3) (by omega) (by omega) (by omega)).mono ?_
  rintro e w4 ⟨rfl, s4, g4⟩
  have m1 := s1.lt
  have z4 := (s0.below b1).drewN n3 |>.grown g4 (Sl.apart s0 s1)
  have r4 : Below w.heap.size w w4 := ((b0.trans (b1.mono (by omega))).drewN n3).grown g4 (by simp; omega) (fun k hk => by have := (s1.lt k hk).1; omega)
  go_wp2_with fail
  refine (heldIntS _ _ _ _ _ s4.rd (by omega) (by omega) (by omega)).mono ?_
  rintro e w' ⟨rfl, rfl⟩
  go_wp2_with fail
  refine (impl_QuarterSteps _ _).mono ?_
  rintro e w5 ⟨A5, c5, rfl, s5, b5⟩
  have z5 := z4.below b5
  have y5 := s4.below b5
  go_wp2_with fail
  refine (eqIntS_same _ _ _ _ _ _ s5.rd z5.rd (by omega)).mono ?_
  rintro e w6 ⟨rfl, n6, rfl⟩
  go_wp2_with fail
  refine (heldIntS _ _ _ _ _ (y5.drewN n6).rd (by omega) (by omega) (by omega)).mono ?_
  rintro e w' ⟨rfl, rfl⟩
  have t4 := r4.size
  go_wp2_with fail
  go_ret
  exact ⟨rfl, (r4.trans (b5.mono (by omega))).drewN n6⟩

/-! The row's step, after the kit's own shell of such a proof. -/
set_option linter.unusedVariables false in
set_option maxRecDepth 100000 in
theorem lifted_FnExactQuarterSteps (os : Os) (started : os.Started) (H : Type) (enc : TypeId × Value → H) :
    ReturnsInHanded {} Try.checked os 9 .any (Rows.fnExactQuarterStepsSpec.pre6 enc Try.prog Try.f9 Rows.fnExactQuarterStepsRow.domain false) (Rows.fnExactQuarterStepsSpec.post enc Try.prog Try.f9 false true false false) := by
  refine returnsInHanded_of_change (C := Try.checked) own started (by kernel_rfl) Try.func9
    (ChangeSpec.witness6 (enc := enc) (C := Try.checked) false ⟨#[], #[.int .i64 0], []⟩ 8 (by kernel_rfl) (by kernel_rfl) (by kernel_rfl) (by kernel_rfl)) ?_
  intro W base args ds gs before hval0 hW hcnd _
  have hval : ∀ (j : Nat) t v, Try.f9.params[j]? = some t → args[j]? = some v → Value.okWide Try.prog W .any base t v := hval0
  have hW' := hW
  obtain ⟨p, q, hA0, hV, rfl, hfz, hnd⟩ := hW
  have hA : DataW.TrodAll enc Try.prog W 0 (fun _ => true) true Try.f9.params.toList args.toList ds p := hA0
  rw [Try.params9] at hA hval
  obtain ⟨v0, vs0, d0, ds0, p0, q0, hargs, rfl, rfl, h0, r0⟩ := trodAll_cons hA
  obtain ⟨rfl, rfl, rfl⟩ := trodAll_nil r0
  obtain rfl : args = #[v0] := by cases args; simp_all
  obtain ⟨rfl, rfl⟩ := trodVars_none hV
  obtain ⟨a0, rfl, rfl, rfl, w0⟩ := open_int Try.underlying3 (hval 0 3 v0 rfl rfl) h0
  clear hA0 hval0
  refine (walk_FnExactQuarterSteps a0 W w0).mono fun e W' ⟨he, bel⟩ => ?_
  subst he
  exact ⟨_, rfl, _, _, _, [], _, [], hW', trodAll_mk1 (shut_bool Try.underlying4 _), (trodAll_cons_mk (shut_int Try.underlying3 w0) trodAll_mk0), rfl, bel.frame _, fun h => by cases h⟩

theorem over_FnExactQuarterSteps : Rows.fnExactQuarterStepsRow.holds Try.pinned (OpenSpec.ofChange Rows.fnExactQuarterStepsSpec) :=
  OpenClaim.holds_of_wide 9 Try.f9 rfl rfl rfl rfl rfl rfl rfl ⟨rfl, rfl, rfl, rfl, rfl⟩ rfl rfl rfl rfl rfl (by kernel_rfl) Try.func9 (by kernel_rfl)
    (of_decide_eq_true (by kernel_rfl)) (by unfold Func.isWrapper; first | (rw [if_pos (by decide +kernel)]; kernel_rfl) | (rw [if_neg (by decide +kernel)]; exact ⟨rfl, rfl⟩))
    (fun os started H enc _ => lifted_FnExactQuarterSteps os started H enc)

/-- The statement. -/
theorem holds_FnExactQuarterSteps : Rows.FnExactQuarterStepsSaid := over_FnExactQuarterSteps
#print axioms holds_FnExactQuarterSteps
end Go.Proofs.Ytbfejjippkheaaa
