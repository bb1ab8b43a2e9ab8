/- The law FnExactTallyFraud returns true for every input: the program's TallyFraud is the reference's. No condition. -/
import Derived.Test.YtfdabeikcpccgaaTalO
namespace Go.Proofs.Ytfdabeikcpccgaa
open Go.ChangeShapes Go.WideShapes Go.ChangeAt Go.RowKit

set_option maxRecDepth 100000 in
theorem walk_FnExactTallyFraud (d c : Int) (s f : ByteArray) (w : World) (h0 : s.size ≤ maxLen ∧ f.size ≤ maxLen) :
    Calls Try.prog 6 #[.agg #[.int .i64 d, .int .i64 c, .string s, .string f]] w fun e w' => e = .returned (.bool true) ∧ Below w.heap.size w w' := by
  obtain ⟨hs, hf⟩ := h0
  unfold maxLen at hs hf
  have HBE := Lib.hid (fun o => (Below.refl w.heap.size w).alloc (Nat.le_refl _) o)
  by_cases hbig : (s.size : Int) + f.size ≤ 1048576
  · go_enter Try.func6, Try.ntmps6
    go_wp2_with fail
    refine (szTally _ _ _ _ _ _ hs hf (by omega) (by omega)).mono ?_
    rintro e w1 ⟨rfl, b1⟩
    rw [if_pos hbig]
    have r1 := bstep (HBE.out _) b1
    have z1 : w.heap.size < w1.heap.size := by have := b1.size; simp at this; omega
    obtain ⟨c1, _⟩ := bcell b1
    go_wp2_with fail
    refine (toTally _ _ _ _ _).mono ?_
    rintro e w2 ⟨rfl, b2⟩
    have r2 := bstep r1 b2
    have z2 : w.heap.size < w2.heap.size := by have := b2.size; omega
    obtain ⟨c2, _⟩ := bcell b2
    go_wp2_with fail
    refine (spec_TallyFraud _ _ _ _ _ (by omega) (by omega)).mono ?_
    rintro e w3 ⟨rfl, b3⟩
    have r3 := bstep r2 b3
    have z3 : w.heap.size < w3.heap.size := by have := b3.size; omega
    obtain ⟨c3, _⟩ := bcell b3
    go_wp2_with fail
    refine (toTally _ _ _ _ _).mono ?_
    rintro e w4 ⟨rfl, b4⟩
    have r4 := bstep r3 b4
    go_wp2_with fail
    refine (impl_TallyFraud _ _ _ _ _ (by omega) (by omega)).mono ?_
    rintro e w5 ⟨rfl, b5⟩
    have r5 := bstep r4 b5
    clear c1 c2 c3
    go_wp2_with fail
    go_ret
    exact ⟨rfl, r5⟩
  · go_enter Try.func6, Try.ntmps6
    go_wp2_with fail
    refine (szTally _ _ _ _ _ _ hs hf (by omega) (by omega)).mono ?_
    rintro e w1 ⟨rfl, b1⟩
    rw [if_neg (by omega)]
    have r1 := bstep (HBE.out _) b1
    go_wp2_with fail
    go_ret
    exact ⟨rfl, r1⟩

/-! The row's step, after the kit's own shell of such a proof. -/
set_option linter.unusedVariables false in
set_option maxRecDepth 100000 in
theorem lifted_FnExactTallyFraud (os : Os) (started : os.Started) (H : Type) (enc : TypeId × Value → H) :
    ReturnsInHanded {} Try.checked os 6 .any (Rows.fnExactTallyFraudSpec.pre6 enc Try.prog Try.f6 Rows.fnExactTallyFraudRow.domain false) (Rows.fnExactTallyFraudSpec.post enc Try.prog Try.f6 false true false false) := by
  refine returnsInHanded_of_change (C := Try.checked) own started (by kernel_rfl) Try.func6
    (ChangeSpec.witness6 (enc := enc) (C := Try.checked) false ⟨#[], #[.agg #[.int .i64 0, .int .i64 0, .string ⟨#[]⟩, .string ⟨#[]⟩]], []⟩ 8 (by kernel_rfl) (by kernel_rfl) (by kernel_rfl) (by kernel_rfl)) ?_
  intro W base args ds gs before hval0 hW hcnd _
  have hval : ∀ (j : Nat) t v, Try.f6.params[j]? = some t → args[j]? = some v → Value.okWide Try.prog W .any base t v := hval0
  have hW' := hW
  obtain ⟨p, q, hA0, hV, rfl, hfz, hnd⟩ := hW
  have hA : DataW.TrodAll enc Try.prog W 0 (fun _ => true) true Try.f6.params.toList args.toList ds p := hA0
  rw [Try.params6] at hA hval
  obtain ⟨v0, vs0, d0, ds0, p0, q0, hargs, rfl, rfl, h0, r0⟩ := trodAll_cons hA
  obtain ⟨rfl, rfl, rfl⟩ := trodAll_nil r0
  obtain rfl : args = #[v0] := by cases args; simp_all
  obtain ⟨rfl, rfl⟩ := trodVars_none hV
  have k0 := h0
  have lt0 : ∀ x ∈ p0, x.block < W.heap.size := by obtain ⟨m, hm⟩ := k0; exact DataW.trod_lt m _ _ _ hm
  obtain ⟨d0_, c0, s0, f0, rfl, w0⟩ := open_tally (hval 0 25 v0 rfl rfl) h0
  clear hA0 hval0
  refine (walk_FnExactTallyFraud d0_ c0 s0 f0 W w0).mono fun e W' ⟨he, bel⟩ => ?_
  subst he
  exact ⟨_, rfl, _, _, _, [], _, [], hW', trodAll_mk1 (shut_bool Try.underlying4 _), (trodAll_cons_mk (Below.trod laidOut (by kernel_rfl) (of_decide_eq_true (by kernel_rfl)) k0 bel lt0) trodAll_mk0), rfl, bel.frame _, fun h => by cases h⟩

theorem over_FnExactTallyFraud : Rows.fnExactTallyFraudRow.holds Try.pinned (OpenSpec.ofChange Rows.fnExactTallyFraudSpec) :=
  OpenClaim.holds_of_wide 6 Try.f6 rfl rfl rfl rfl rfl rfl rfl ⟨rfl, rfl, rfl, rfl, rfl⟩ rfl rfl rfl rfl rfl (by kernel_rfl) Try.func6 (by kernel_rfl)
    (of_decide_eq_true (by kernel_rfl)) (by unfold Func.isWrapper; first | (rw [if_pos (by decide +kernel)]; kernel_rfl) | (rw [if_neg (by decide +kernel)]; exact ⟨rfl, rfl⟩))
    (fun os started H enc _ => lifted_FnExactTallyFraud os started H enc)

/-- The statement. -/
theorem holds_FnExactTallyFraud : Rows.FnExactTallyFraudSaid := over_FnExactTallyFraud
#print axioms holds_FnExactTallyFraud
end Go.Proofs.Ytfdabeikcpccgaa
