/- The law FnExactTallyNew returns true for every input: the program's TallyNew is the reference's. No condition. -/
import Derived.Test.YtfdabeikcpccgaaTalNeI
import Derived.Test.YtfdabeikcpccgaaExactNotchesOf
namespace Go.Proofs.Ytfdabeikcpccgaa
open Go.ChangeShapes Go.WideShapes Go.ChangeAt Go.RowKit
open Go.ChangeMaps (open_string shut_string)

set_option maxRecDepth 100000 in
theorem eqTally_same (d c : Int) (s f : ByteArray) (w : World) : Calls Try.prog 36 #[.agg #[.int .i64 d, .int .i64 c, .string s, .string f], .agg #[.int .i64 d, .int .i64 c, .string s, .string f]] w fun e w' => e = .returned (.bool true) ∧ Below w.heap.size w w' := by
  have HBE := Lib.hid (fun o o1 => ((Below.refl w.heap.size w).alloc (Nat.le_refl _) o).alloc (by simp) o1)
  go_enter Try.func36, Try.ntmps36
  go_wp2
  go_ret
  exact ⟨rfl, HBE.out _ _⟩

set_option maxRecDepth 100000 in
theorem tn_a (d c : Int) (n : Int) (w : World) (h : inB n 0 9999 = false) (h2 : twoB d c = false) : Calls Try.prog 11 #[.int .i64 d, .int .i64 c, .int .i64 n] w fun e w' => e = .returned (.bool true) ∧ Below w.heap.size w w' := by
  go_enter Try.func11, Try.ntmps11
  go_wp2_with fail
  refine (spec_TallyNew_a _ _ _ _ h).mono ?_
  rintro e w1 ⟨rfl, b1⟩
  obtain ⟨w3, h3⟩ : ∃ w3, w3 = w1.heap.size := ⟨_, rfl⟩
  have hz := b1.size
  go_wp2_with fail
  refine (impl_TallyNew_a _ _ _ _ h2).mono ?_
  rintro e w2 ⟨rfl, b2⟩
  obtain ⟨c2, f2⟩ := bcell b2
  have hz2 : w1.heap.size < w2.heap.size := by have := b2.size; simp at this; omega
  go_wp2_with fail
  refine (eqTally_same _ _ _ _ _).mono ?_
  rintro e w4 ⟨rfl, b4⟩
  go_wp2_with fail
  go_ret
  have r2 := bstep (b1.alloc b1.size _) b2
  exact ⟨rfl, bstep (r2.alloc r2.size _) b4⟩

set_option maxRecDepth 100000 in
theorem tn_a2 (d c : Int) (n : Int) (w : World) (h : inB n 0 9999 = false) (h2 : twoB d c = true) (h1 : 1 ≤ n) : Calls Try.prog 11 #[.int .i64 d, .int .i64 c, .int .i64 n] w fun e w' => e = .returned (.bool true) ∧ Below w.heap.size w w' := by
  go_enter Try.func11, Try.ntmps11
  go_wp2_with fail
  refine (spec_TallyNew_a _ _ _ _ h).mono ?_
  rintro e w1 ⟨rfl, b1⟩
  obtain ⟨w3, h3⟩ : ∃ w3, w3 = w1.heap.size := ⟨_, rfl⟩
  have hz := b1.size
  go_wp2_with fail
  refine (impl_TallyNew_c _ _ _ _ h2 h1 h).mono ?_
  rintro e w2 ⟨rfl, b2⟩
  obtain ⟨c2, f2⟩ := bcell b2
  have hz2 : w1.heap.size < w2.heap.size := by have := b2.size; simp at this; omega
  go_wp2_with fail
  refine (eqTally_same _ _ _ _ _).mono ?_
  rintro e w4 ⟨rfl, b4⟩
  go_wp2_with fail
  go_ret
  have r2 := bstep (b1.alloc b1.size _) b2
  exact ⟨rfl, bstep (r2.alloc r2.size _) b4⟩

set_option maxRecDepth 100000 in
theorem tn_a3 (d c : Int) (n : Int) (w : World) (h : inB n 0 9999 = false) (h2 : twoB d c = true) (h1 : n < 1) : Calls Try.prog 11 #[.int .i64 d, .int .i64 c, .int .i64 n] w fun e w' => e = .returned (.bool true) ∧ Below w.heap.size w w' := by
  go_enter Try.func11, Try.ntmps11
  go_wp2_with fail
  refine (spec_TallyNew_a _ _ _ _ h).mono ?_
  rintro e w1 ⟨rfl, b1⟩
  obtain ⟨w3, h3⟩ : ∃ w3, w3 = w1.heap.size := ⟨_, rfl⟩
  have hz := b1.size
  go_wp2_with fail
  refine (impl_TallyNew_b _ _ _ _ h2 h1).mono ?_
  rintro e w2 ⟨rfl, b2⟩
  obtain ⟨c2, f2⟩ := bcell b2
  have hz2 : w1.heap.size < w2.heap.size := by have := b2.size; simp at this; omega
  go_wp2_with fail
  refine (eqTally_same _ _ _ _ _).mono ?_
  rintro e w4 ⟨rfl, b4⟩
  go_wp2_with fail
  go_ret
  have r2 := bstep (b1.alloc b1.size _) b2
  exact ⟨rfl, bstep (r2.alloc r2.size _) b4⟩

set_option maxRecDepth 100000 in
theorem tn_b (d c : Int) (x : Nat) (w : World) (h : x ≤ 9999) (h2 : twoB d c = false) : Calls Try.prog 11 #[.int .i64 d, .int .i64 c, .int .i64 (x : Int)] w fun e w' => e = .returned (.bool true) ∧ Below w.heap.size w w' := by
  go_enter Try.func11, Try.ntmps11
  go_wp2_with fail
  refine (spec_TallyNew_b _ _ _ _ h h2).mono ?_
  rintro e w1 ⟨rfl, b1⟩
  obtain ⟨w3, h3⟩ : ∃ w3, w3 = w1.heap.size := ⟨_, rfl⟩
  have hz := b1.size
  go_wp2_with fail
  refine (impl_TallyNew_a _ _ _ _ h2).mono ?_
  rintro e w2 ⟨rfl, b2⟩
  obtain ⟨c2, f2⟩ := bcell b2
  have hz2 : w1.heap.size < w2.heap.size := by have := b2.size; simp at this; omega
  go_wp2_with fail
  refine (eqTally_same _ _ _ _ _).mono ?_
  rintro e w4 ⟨rfl, b4⟩
  go_wp2_with fail
  go_ret
  have r2 := bstep (b1.alloc b1.size _) b2
  exact ⟨rfl, bstep (r2.alloc r2.size _) b4⟩

set_option maxRecDepth 100000 in
theorem tn_c (d c : Int)  (w : World) (h2 : twoB d c = true) : Calls Try.prog 11 #[.int .i64 d, .int .i64 c, .int .i64 ((0 : Nat) : Int)] w fun e w' => e = .returned (.bool true) ∧ Below w.heap.size w w' := by
  go_enter Try.func11, Try.ntmps11
  go_wp2_with fail
  refine (spec_TallyNew_c _ _ _ h2).mono ?_
  rintro e w1 ⟨rfl, b1⟩
  obtain ⟨w3, h3⟩ : ∃ w3, w3 = w1.heap.size := ⟨_, rfl⟩
  have hz := b1.size
  go_wp2_with fail
  refine (impl_TallyNew_b _ _ _ _ h2 (by decide)).mono ?_
  rintro e w2 ⟨rfl, b2⟩
  obtain ⟨c2, f2⟩ := bcell b2
  have hz2 : w1.heap.size < w2.heap.size := by have := b2.size; simp at this; omega
  go_wp2_with fail
  refine (eqTally_same _ _ _ _ _).mono ?_
  rintro e w4 ⟨rfl, b4⟩
  go_wp2_with fail
  go_ret
  have r2 := bstep (b1.alloc b1.size _) b2
  exact ⟨rfl, bstep (r2.alloc r2.size _) b4⟩

set_option maxRecDepth 100000 in
theorem tn_y (d c : Int) (x : Nat) (w : World) (h : x ≤ 9999) (h0 : 1 ≤ x) (h2 : twoB d c = true) : Calls Try.prog 11 #[.int .i64 d, .int .i64 c, .int .i64 (x : Int)] w fun e w' => e = .returned (.bool true) ∧ Below w.heap.size w w' := by
  go_enter Try.func11, Try.ntmps11
  go_wp2_with fail
  refine (spec_TallyNew_y _ _ _ _ h h0 h2).mono ?_
  rintro e w1 ⟨rfl, b1⟩
  obtain ⟨w3, h3⟩ : ∃ w3, w3 = w1.heap.size := ⟨_, rfl⟩
  have hz := b1.size
  go_wp2_with fail
  refine (impl_TallyNew_y _ _ _ _ h2 h0 h).mono ?_
  rintro e w2 ⟨rfl, b2⟩
  obtain ⟨c2, f2⟩ := bcell b2
  have hz2 : w1.heap.size < w2.heap.size := by have := b2.size; simp at this; omega
  go_wp2_with fail
  refine (eqTally_same _ _ _ _ _).mono ?_
  rintro e w4 ⟨rfl, b4⟩
  go_wp2_with fail
  go_ret
  have r2 := bstep (b1.alloc b1.size _) b2
  exact ⟨rfl, bstep (r2.alloc r2.size _) b4⟩

theorem walk_FnExactTallyNew (d c n : Int) (w : World) (_ : (Lit.int .i64 d).wf = true) (_ : (Lit.int .i64 c).wf = true) (_ : (Lit.int .i64 n).wf = true) :
    Calls Try.prog 11 #[.int .i64 d, .int .i64 c, .int .i64 n] w fun e w' => e = .returned (.bool true) ∧ Below w.heap.size w w' := by
  cases h2 : twoB d c <;> cases h : inB n 0 9999
  · exact tn_a d c n w h h2
  · obtain ⟨x, rfl, hx⟩ := inB_nat h
    exact tn_b d c x w hx h2
  · by_cases h1 : 1 ≤ n
    · exact tn_a2 d c n w h h2 h1
    · exact tn_a3 d c n w h h2 (by omega)
  · obtain ⟨x, rfl, hx⟩ := inB_nat h
    by_cases h1 : 1 ≤ x
    · exact tn_y d c x w hx h1 h2
    · obtain rfl : x = 0 := by omega
      exact tn_c d c w h2

/-! The row's step, after the kit's own shell of such a proof. -/
set_option linter.unusedVariables false in
set_option maxRecDepth 100000 in
theorem lifted_FnExactTallyNew (os : Os) (started : os.Started) (H : Type) (enc : TypeId × Value → H) :
    ReturnsInHanded {} Try.checked os 11 .any (Rows.fnExactTallyNewSpec.pre6 enc Try.prog Try.f11 Rows.fnExactTallyNewRow.domain false) (Rows.fnExactTallyNewSpec.post enc Try.prog Try.f11 false true false false) := by
  refine returnsInHanded_of_change (C := Try.checked) own started (by kernel_rfl) Try.func11
    (ChangeSpec.witness6 (enc := enc) (C := Try.checked) false ⟨#[], #[.int .i64 0, .int .i64 0, .int .i64 0], []⟩ 8 (by kernel_rfl) (by kernel_rfl) (by kernel_rfl) (by kernel_rfl)) ?_
  intro W base args ds gs before hval0 hW hcnd _
  have hval : ∀ (j : Nat) t v, Try.f11.params[j]? = some t → args[j]? = some v → Value.okWide Try.prog W .any base t v := hval0
  have hW' := hW
  obtain ⟨p, q, hA0, hV, rfl, hfz, hnd⟩ := hW
  have hA : DataW.TrodAll enc Try.prog W 0 (fun _ => true) true Try.f11.params.toList args.toList ds p := hA0
  rw [Try.params11] at hA hval
  obtain ⟨v0, vs0, d0, ds0, p0, q0, hargs, rfl, rfl, h0, r0⟩ := trodAll_cons hA
  obtain ⟨v1, vs1, d1, ds1, p1, q1, rfl, rfl, rfl, h1, r1⟩ := trodAll_cons r0
  obtain ⟨v2, vs2, d2, ds2, p2, q2, rfl, rfl, rfl, h2, r2⟩ := trodAll_cons r1
  obtain ⟨rfl, rfl, rfl⟩ := trodAll_nil r2
  obtain rfl : args = #[v0, v1, v2] := by cases args; simp_all
  obtain ⟨rfl, rfl⟩ := trodVars_none hV
  obtain ⟨a0, rfl, rfl, rfl, w0⟩ := open_int Try.underlying3 (hval 0 3 v0 rfl rfl) h0
  obtain ⟨a1, rfl, rfl, rfl, w1⟩ := open_int Try.underlying3 (hval 1 3 v1 rfl rfl) h1
  obtain ⟨a2, rfl, rfl, rfl, w2⟩ := open_int Try.underlying3 (hval 2 3 v2 rfl rfl) h2
  clear hA0 hval0
  refine (walk_FnExactTallyNew a0 a1 a2 W w0 w1 w2).mono fun e W' ⟨he, bel⟩ => ?_
  subst he
  exact ⟨_, rfl, _, _, _, [], _, [], hW', trodAll_mk1 (shut_bool Try.underlying4 _), (trodAll_cons_mk (shut_int Try.underlying3 w0) (trodAll_cons_mk (shut_int Try.underlying3 w1) (trodAll_cons_mk (shut_int Try.underlying3 w2) trodAll_mk0))), rfl, bel.frame _, fun h => by cases h⟩

theorem over_FnExactTallyNew : Rows.fnExactTallyNewRow.holds Try.pinned (OpenSpec.ofChange Rows.fnExactTallyNewSpec) :=
  OpenClaim.holds_of_wide 11 Try.f11 rfl rfl rfl rfl rfl rfl rfl ⟨rfl, rfl, rfl, rfl, rfl⟩ rfl rfl rfl rfl rfl (by kernel_rfl) Try.func11 (by kernel_rfl)
    (of_decide_eq_true (by kernel_rfl)) (by unfold Func.isWrapper; first | (rw [if_pos (by decide +kernel)]; kernel_rfl) | (rw [if_neg (by decide +kernel)]; exact ⟨rfl, rfl⟩))
    (fun os started H enc _ => lifted_FnExactTallyNew os started H enc)

/-- The statement. -/
theorem holds_FnExactTallyNew : Rows.FnExactTallyNewSaid := over_FnExactTallyNew
#print axioms holds_FnExactTallyNew
end Go.Proofs.Ytfdabeikcpccgaa
