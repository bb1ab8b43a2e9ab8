/- The law FnTallyFraud returns true for every input: fraud has two sides. No condition. -/
import Derived.Test.YtfdabeikcpccgaaNotSame
import Derived.Test.YtfdabeikcpccgaaDrawC
import Derived.Test.YtfdabeikcpccgaaTalO
namespace Go.Proofs.Ytfdabeikcpccgaa
open Go.ChangeShapes Go.WideShapes Go.ChangeAt Go.RowKit
open Go.ChangeMaps (open_string shut_string)

def FrDrawnT (w : World) (e : Ending) (w' : World) : Prop := ∃ (d c : Int) (s f : ByteArray), e = .returned (.agg #[.int .i64 d, .int .i64 c, .string s, .string f]) ∧ s.size ≤ 60 ∧ f.size ≤ 60 ∧ Below w.heap.size w w'

set_option maxRecDepth 100000 in
theorem DrawTallyFraud (A : Option Addr) (c : Nat) (zs : List Int) (w : World) (h : Came .u8 w A c zs) :
    Calls Try.prog 33 #[.slice A zs.length c] w (FrDrawnT w) := by
  have HC : Hid (∀ o, Came .u8 (w.alloc o) A c zs) := Lib.hid (fun o => ⟨h.1, h.2.1, h.2.2.1.alloc o, h.2.2.2⟩)
  have hz : (w.alloc (.cells #[.int .i64 0, .int .i64 0, .string { data := #[] }, .string { data := #[] }] 28)).heap.size = w.heap.size + 1 := by simp
  go_enter Try.func33, Try.ntmps33
  go_wp2_with fail
  refine (l6Open _ _ _ _ (HC.out _)).mono ?_
  rintro e w1 ⟨rfl, r1, b1⟩
  rw [hz] at r1
  have hne : w.heap.size ≠ w.heap.size + 1 := by omega
  have hz1 : w.heap.size < w1.heap.size := by have := b1.size; simp at this; omega
  obtain ⟨c1, f1⟩ := bcell b1
  go_wp2_with fail
  refine (l92Cut w1.heap.size (w.heap.size + 1) 0 w1 (RdyI.of r1) (Nat.le_refl _) (by omega)).mono ?_
  rintro e w2 ⟨d, c, s, f, rfl, hs, hf, h2, g2⟩
  obtain ⟨q1, q2⟩ := gcell g2
  have hb := Lib.hid (grown_below (bstep ((Below.refl w.heap.size w).alloc (Nat.le_refl _) _) b1) g2 (by omega))
  clear b1 h2 g2
  go_wp2_with fail
  refine bodyPost_ret (v := .agg #[.int .i64 d, .int .i64 c, .string s, .string f]) (by simp [results, Try.results33, go_sem, *]) rfl ?_
  exact ⟨_, _, _, _, rfl, hs, hf, (((hb.out.setCell (Nat.le_refl _) _).setCell (Nat.le_refl _) _).setCell (Nat.le_refl _) _).setCell (Nat.le_refl _) _⟩

set_option maxRecDepth 100000 in
theorem walk_FnTallyFraud (A0 : Option Addr) (cap0 : Nat) (z0 : List Int) (w : World) (h0 : Came .u8 w A0 cap0 z0) :
    Calls Try.prog 10 #[.slice A0 z0.length cap0] w fun e w' => e = .returned (.bool true) ∧ Below w.heap.size w w' := by
  have hm := h0.ml
  by_cases hbig : 1048576 < z0.length
  · go_enter Try.func10, Try.ntmps10
    go_wp2
    go_ret
    exact ⟨rfl, Below.refl _ _⟩
  · go_enter Try.func10, Try.ntmps10
    go_wp2_with fail
    refine (DrawTallyFraud _ _ _ _ h0).mono ?_
    rintro e w1 ⟨d, c, s, f, rfl, hs, hf, b1⟩
    obtain ⟨v, hv⟩ : ∃ v, fraud d c s f = v := ⟨_, rfl⟩
    have r1 := b1.alloc b1.size (.cells #[.int .i64 d, .int .i64 c, .string s, .string f] 28)
    clear b1
    go_wp2_with fail
    refine (impl_TallyFraud d c s f _ (by omega) (by omega)).mono ?_
    rintro e w2 ⟨rfl, b2⟩
    have r2 := bstep r1 b2
    have z2 : w1.heap.size < w2.heap.size := by have := b2.size; simp at this; omega
    obtain ⟨c2, _⟩ := bcell b2
    clear r1 b2
    rw [hv]
    go_wp2_with fail
    refine (spec_TallyFraud d c s f _ (by omega) (by omega)).mono ?_
    rintro e w3 ⟨rfl, b3⟩
    have r3 := bstep r2 b3
    have z3 : w1.heap.size < w3.heap.size := by have := b3.size; omega
    obtain ⟨c3, _⟩ := bcell b3
    clear r2 b3
    rw [hv]
    cases hp : twoB d c && notB s && notB f
    · obtain rfl : v = -1 := hv.symm.trans (fraud_neg hp)
      clear hv hp
      go_wp2_with fail
      go_ret
      exact ⟨rfl, r3⟩
    · have r4 := r3.alloc r3.size (.cells #[.int .i64 d, .int .i64 c, .string f, .string s] 28)
      rcases fraud_pos hp with ⟨e1, e2, e3⟩ | ⟨e1, e2, e3⟩ | ⟨e1, e2, e3⟩
      all_goals
        rw [e1] at hv
        subst hv
        have HE2 := Lib.hid e2
        have HE3 := Lib.hid e3
        clear e1 e2 e3 hp r3
        go_wp2_with fail
        refine (impl_TallyFraud d c f s _ (by omega) (by omega)).mono ?_
        rintro e w5 ⟨rfl, b5⟩
        obtain ⟨c5, _⟩ := bcell b5
        rw [HE2.out]
        go_wp2_with fail
        refine (impl_TallyMatches d c s f _ (by omega)).mono ?_
        rintro e w6 ⟨rfl, b6⟩
        rw [HE3.out]
        go_wp2_with fail
        go_ret
        exact ⟨rfl, bstep (bstep r4 b5) b6⟩

/-! The row's step, after the kit's own shell of such a proof. -/
set_option linter.unusedVariables false in
set_option maxRecDepth 100000 in
theorem lifted_FnTallyFraud (os : Os) (started : os.Started) (H : Type) (enc : TypeId × Value → H) :
    ReturnsInHanded {} Try.checked os 10 .any (Rows.fnTallyFraudSpec.pre6 enc Try.prog Try.f10 Rows.fnTallyFraudRow.domain false) (Rows.fnTallyFraudSpec.post enc Try.prog Try.f10 false true false false) := by
  refine returnsInHanded_of_change (C := Try.checked) own started (by kernel_rfl) Try.func10
    (ChangeSpec.witness6 (enc := enc) (C := Try.checked) false ⟨#[], #[.slice none 0 0], []⟩ 8 (by kernel_rfl) (by kernel_rfl) (by kernel_rfl) (by kernel_rfl)) ?_
  intro W base args ds gs before hval0 hW hcnd _
  have hval : ∀ (j : Nat) t v, Try.f10.params[j]? = some t → args[j]? = some v → Value.okWide Try.prog W .any base t v := hval0
  have hW' := hW
  obtain ⟨p, q, hA0, hV, rfl, hfz, hnd⟩ := hW
  have hA : DataW.TrodAll enc Try.prog W 0 (fun _ => true) true Try.f10.params.toList args.toList ds p := hA0
  rw [Try.params10] at hA hval
  obtain ⟨v0, vs0, d0, ds0, p0, q0, hargs, rfl, rfl, h0, r0⟩ := trodAll_cons hA
  obtain ⟨rfl, rfl, rfl⟩ := trodAll_nil r0
  obtain rfl : args = #[v0] := by cases args; simp_all
  obtain ⟨rfl, rfl⟩ := trodVars_none hV
  obtain ⟨A0, len0, cap0, rfl⟩ := okWide_slice Try.underlying43 (hval 0 43 v0 rfl rfl)
  have k0 := h0
  have lt0 : ∀ x ∈ p0, x.block < W.heap.size := by obtain ⟨m, hm⟩ := k0; exact DataW.trod_lt m _ _ _ hm
  obtain ⟨z0, rfl, w0⟩ := row_open Try.underlying43 Try.underlying5 (by kernel_rfl) h0
  clear hA0 hval0
  refine (walk_FnTallyFraud A0 cap0 z0 W w0).mono fun e W' ⟨he, bel⟩ => ?_
  subst he
  exact ⟨_, rfl, _, _, _, [], _, [], hW', trodAll_mk1 (shut_bool Try.underlying4 _), (trodAll_cons_mk (Below.trod laidOut (by kernel_rfl) (of_decide_eq_true (by kernel_rfl)) k0 bel lt0) trodAll_mk0), rfl, bel.frame _, fun h => by cases h⟩

theorem over_FnTallyFraud : Rows.fnTallyFraudRow.holds Try.pinned (OpenSpec.ofChange Rows.fnTallyFraudSpec) :=
  OpenClaim.holds_of_wide 10 Try.f10 rfl rfl rfl rfl rfl rfl rfl ⟨rfl, rfl, rfl, rfl, rfl⟩ rfl rfl rfl rfl rfl (by kernel_rfl) Try.func10 (by kernel_rfl)
    (of_decide_eq_true (by kernel_rfl)) (by unfold Func.isWrapper; first | (rw [if_pos (by decide +kernel)]; kernel_rfl) | (rw [if_neg (by decide +kernel)]; exact ⟨rfl, rfl⟩))
    (fun os started H enc _ => lifted_FnTallyFraud os started H enc)

/-- The statement. -/
theorem holds_FnTallyFraud : Rows.FnTallyFraudSaid := over_FnTallyFraud
#print axioms holds_FnTallyFraud
end Go.Proofs.Ytfdabeikcpccgaa
