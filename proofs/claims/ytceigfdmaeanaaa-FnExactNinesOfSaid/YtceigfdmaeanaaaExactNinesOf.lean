/- The law FnExactNinesOf returns true for every input: the program's NinesOf is the reference's. No condition. -/
import Derived.Test.YtceigfdmaeanaaaChk
namespace Go.Proofs.Ytceigfdmaeanaaa
open Go.ChangeShapes Go.WideShapes Go.ChangeAt Go.RowKit
open Go.ChangeMaps (open_string shut_string)

set_option maxRecDepth 100000 in
theorem walk_FnExactNinesOf (A0 : Option Addr) (cap0 : Nat) (z0 : List Int) (w : World) (h0 : Came .i64 w A0 cap0 z0) :
    Calls Try.prog 3 #[.slice A0 z0.length cap0] w fun e w' => e = .returned (.bool true) ∧ Below w.heap.size w w' := by
  have hr := h0.2.2.1
  have hm := h0.ml
  by_cases hbig : 1048576 < z0.length
  · go_enter Try.func3, Try.ntmps3
    go_wp2
    go_ret
    exact ⟨rfl, Below.refl _ _⟩
  · go_enter Try.func3, Try.ntmps3
    go_wp2_with fail
    refine (toIntS _ _ _ _ hr (by omega)).mono ?_
    rintro e w1 ⟨A1, c1, rfl, s1, b1⟩
    go_wp2_with fail
    refine (spec_NinesOf _ _ _ _ s1.rd (by omega)).mono ?_
    rintro e w' ⟨rfl, rfl⟩
    go_wp2_with fail
    refine (toIntS _ _ _ _ (hr.below b1) (by omega)).mono ?_
    rintro e w2 ⟨A2, c2, rfl, s2, b2⟩
    have r2 := bstep b1 b2
    go_wp2_with fail
    refine (impl_NinesOf _ _ _ _ s2.rd (by omega)).mono ?_
    rintro e w3 ⟨rfl, b3⟩
    have r3 := bstep r2 b3
    go_wp2_with fail
    refine (toIntS _ _ _ _ (hr.below r3) (by omega)).mono ?_
    rintro e w4 ⟨A4, c4, rfl, s4, b4⟩
    have r4 := bstep r3 b4
    go_wp2_with fail
    refine (eqIntS_same _ _ _ _ _ _ ((s2.below b3).below b4).rd s4.rd (by omega)).mono ?_
    rintro e w5 ⟨rfl, n5, rfl⟩
    go_wp2_with fail
    go_ret
    exact ⟨rfl, r4.drewN n5⟩

/-! The row's step, after the kit's own shell of such a proof. -/
set_option linter.unusedVariables false in
set_option maxRecDepth 100000 in
theorem lifted_FnExactNinesOf (os : Os) (started : os.Started) (H : Type) (enc : TypeId × Value → H) :
    ReturnsInHanded {} Try.checked os 3 .any (Rows.fnExactNinesOfSpec.pre6 enc Try.prog Try.f3 Rows.fnExactNinesOfRow.domain false) (Rows.fnExactNinesOfSpec.post enc Try.prog Try.f3 false true false false) := by
  refine returnsInHanded_of_change (C := Try.checked) own started (by kernel_rfl) Try.func3
    (ChangeSpec.witness6 (enc := enc) (C := Try.checked) false ⟨#[], #[.slice none 0 0], []⟩ 8 (by kernel_rfl) (by kernel_rfl) (by kernel_rfl) (by kernel_rfl)) ?_
  intro W base args ds gs before hval0 hW hcnd _
  have hval : ∀ (j : Nat) t v, Try.f3.params[j]? = some t → args[j]? = some v → Value.okWide Try.prog W .any base t v := hval0
  have hW' := hW
  obtain ⟨p, q, hA0, hV, rfl, hfz, hnd⟩ := hW
  have hA : DataW.TrodAll enc Try.prog W 0 (fun _ => true) true Try.f3.params.toList args.toList ds p := hA0
  rw [Try.params3] at hA hval
  obtain ⟨v0, vs0, d0, ds0, p0, q0, hargs, rfl, rfl, h0, r0⟩ := trodAll_cons hA
  obtain ⟨rfl, rfl, rfl⟩ := trodAll_nil r0
  obtain rfl : args = #[v0] := by cases args; simp_all
  obtain ⟨rfl, rfl⟩ := trodVars_none hV
  obtain ⟨A0, len0, cap0, rfl⟩ := okWide_slice Try.underlying22 (hval 0 22 v0 rfl rfl)
  have k0 := h0
  have lt0 : ∀ x ∈ p0, x.block < W.heap.size := by obtain ⟨m, hm⟩ := k0; exact DataW.trod_lt m _ _ _ hm
  obtain ⟨z0, rfl, w0⟩ := row_open Try.underlying22 Try.underlying3 (by kernel_rfl) h0
  clear hA0 hval0
  refine (walk_FnExactNinesOf A0 cap0 z0 W w0).mono fun e W' ⟨he, bel⟩ => ?_
  subst he
  exact ⟨_, rfl, _, _, _, [], _, [], hW', trodAll_mk1 (shut_bool Try.underlying4 _), (trodAll_cons_mk (Below.trod laidOut (by kernel_rfl) (of_decide_eq_true (by kernel_rfl)) k0 bel lt0) trodAll_mk0), rfl, bel.frame _, fun h => by cases h⟩

theorem over_FnExactNinesOf : Rows.fnExactNinesOfRow.holds Try.pinned (OpenSpec.ofChange Rows.fnExactNinesOfSpec) :=
  OpenClaim.holds_of_wide 3 Try.f3 rfl rfl rfl rfl rfl rfl rfl ⟨rfl, rfl, rfl, rfl, rfl⟩ rfl rfl rfl rfl rfl (by kernel_rfl) Try.func3 (by kernel_rfl)
    (of_decide_eq_true (by kernel_rfl)) (by unfold Func.isWrapper; first | (rw [if_pos (by decide +kernel)]; kernel_rfl) | (rw [if_neg (by decide +kernel)]; exact ⟨rfl, rfl⟩))
    (fun os started H enc _ => lifted_FnExactNinesOf os started H enc)

/-- The statement. -/
theorem holds_FnExactNinesOf : Rows.FnExactNinesOfSaid := over_FnExactNinesOf
#print axioms holds_FnExactNinesOf
end Go.Proofs.Ytceigfdmaeanaaa
