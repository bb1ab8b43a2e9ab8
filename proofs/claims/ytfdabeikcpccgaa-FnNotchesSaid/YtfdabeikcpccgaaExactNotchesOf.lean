/- The law FnExactNotchesOf returns true for every input: the program's NotchesOf is the reference's. No condition. -/
import Derived.Test.YtfdabeikcpccgaaNotO
namespace Go.Proofs.Ytfdabeikcpccgaa
open Go.ChangeShapes Go.WideShapes Go.ChangeAt Go.RowKit
open Go.ChangeMaps (open_string shut_string)

theorem inB_nat {n : Int} (h : inB n 0 9999 = true) : ∃ x : Nat, n = (x : Int) ∧ x ≤ 9999 := by
  simp only [inB, Bool.and_eq_true, decide_eq_true_eq] at h
  exact ⟨n.toNat, by omega, by omega⟩

set_option maxRecDepth 100000 in
theorem walk_FnExactNotchesOf (n : Int) (w : World) (_ : (Lit.int .i64 n).wf = true) :
    Calls Try.prog 8 #[.int .i64 n] w fun e w' => e = .returned (.bool true) ∧ Below w.heap.size w w' := by
  cases hb : inB n 0 9999
  · go_enter Try.func8, Try.ntmps8
    go_wp2_with fail
    refine (spec_NotchesOf_no _ _ hb).mono ?_
    rintro e w1 ⟨rfl, b1⟩
    go_wp2_with fail
    refine (impl_NotchesOf_no _ _ hb).mono ?_
    rintro e w2 ⟨rfl, b2⟩
    have b3 := bstep b1 b2
    go_wp2_with fail
    go_ret
    exact ⟨rfl, b3⟩
  · obtain ⟨x, rfl, hx⟩ := inB_nat hb
    clear hb
    go_enter Try.func8, Try.ntmps8
    go_wp2_with fail
    refine (spec_NotchesOf_yes _ _ hx).mono ?_
    rintro e w1 ⟨rfl, b1⟩
    go_wp2_with fail
    refine (impl_NotchesOf_yes _ _ hx).mono ?_
    rintro e w2 ⟨rfl, b2⟩
    have b3 := bstep b1 b2
    go_wp2_with fail
    go_ret
    exact ⟨rfl, b3⟩

/-! The row's step, after the kit's own shell of such a proof. -/
set_option linter.unusedVariables false in
set_option maxRecDepth 100000 in
theorem lifted_FnExactNotchesOf (os : Os) (started : os.Started) (H : Type) (enc : TypeId × Value → H) :
    ReturnsInHanded {} Try.checked os 8 .any (Rows.fnExactNotchesOfSpec.pre6 enc Try.prog Try.f8 Rows.fnExactNotchesOfRow.domain false) (Rows.fnExactNotchesOfSpec.post enc Try.prog Try.f8 false true false false) := by
  refine returnsInHanded_of_change (C := Try.checked) own started (by kernel_rfl) Try.func8
    (ChangeSpec.witness6 (enc := enc) (C := Try.checked) false ⟨#[], #[.int .i64 0], []⟩ 8 (by kernel_rfl) (by kernel_rfl) (by kernel_rfl) (by kernel_rfl)) ?_
  intro W base args ds gs before hval0 hW hcnd _
  have hval : ∀ (j : Nat) t v, Try.f8.params[j]? = some t → args[j]? = some v → Value.okWide Try.prog W .any base t v := hval0
  have hW' := hW
  obtain ⟨p, q, hA0, hV, rfl, hfz, hnd⟩ := hW
  have hA : DataW.TrodAll enc Try.prog W 0 (fun _ => true) true Try.f8.params.toList args.toList ds p := hA0
  rw [Try.params8] at hA hval
  obtain ⟨v0, vs0, d0, ds0, p0, q0, hargs, rfl, rfl, h0, r0⟩ := trodAll_cons hA
  obtain ⟨rfl, rfl, rfl⟩ := trodAll_nil r0
  obtain rfl : args = #[v0] := by cases args; simp_all
  obtain ⟨rfl, rfl⟩ := trodVars_none hV
  obtain ⟨a0, rfl, rfl, rfl, w0⟩ := open_int Try.underlying3 (hval 0 3 v0 rfl rfl) h0
  clear hA0 hval0
  refine (walk_FnExactNotchesOf a0 W w0).mono fun e W' ⟨he, bel⟩ => ?_
  subst he
  exact ⟨_, rfl, _, _, _, [], _, [], hW', trodAll_mk1 (shut_bool Try.underlying4 _), (trodAll_cons_mk (shut_int Try.underlying3 w0) trodAll_mk0), rfl, bel.frame _, fun h => by cases h⟩

theorem over_FnExactNotchesOf : Rows.fnExactNotchesOfRow.holds Try.pinned (OpenSpec.ofChange Rows.fnExactNotchesOfSpec) :=
  OpenClaim.holds_of_wide 8 Try.f8 rfl rfl rfl rfl rfl rfl rfl ⟨rfl, rfl, rfl, rfl, rfl⟩ rfl rfl rfl rfl rfl (by kernel_rfl) Try.func8 (by kernel_rfl)
    (of_decide_eq_true (by kernel_rfl)) (by unfold Func.isWrapper; first | (rw [if_pos (by decide +kernel)]; kernel_rfl) | (rw [if_neg (by decide +kernel)]; exact ⟨rfl, rfl⟩))
    (fun os started H enc _ => lifted_FnExactNotchesOf os started H enc)

/-- The statement. -/
theorem holds_FnExactNotchesOf : Rows.FnExactNotchesOfSaid := over_FnExactNotchesOf
#print axioms holds_FnExactNotchesOf
end Go.Proofs.Ytfdabeikcpccgaa
