/- The law FnExactTalliesValid returns true for every input: the program's TalliesValid is the reference's. No condition. -/
import Derived.Test.YtfdabeikcpccgaaTsD
namespace Go.Proofs.Ytfdabeikcpccgaa
open Go.ChangeShapes Go.WideShapes Go.ChangeAt Go.RowKit

set_option maxRecDepth 100000 in
theorem impl_TalliesValid (A : Option Addr) (c : Nat) (ts : List Tl) (w : World) (hA : TRd w A ts) (hn : ts.length ≤ 1048576) (hz : ∀ t ∈ ts, t.s.size ≤ 1048576 ∧ t.f.size ≤ 1048576) :
    Calls Try.prog 27 #[.slice A ts.length c] w fun e w' => e = .returned (.bool (tsB ts)) ∧ Below w.heap.size w w' := by
  go_enter Try.func27, Try.ntmps27
  go_wp2_with fail
  refine (debtsOf A c ts w hA hn hz).mono ?_
  rintro e w1 ⟨b1, ⟨h1, rfl⟩ | ⟨h1, A1, c1, rfl, _⟩⟩
  all_goals
    have H1 := Lib.hid h1
    clear h1
    go_wp2_with fail
    go_ret
    exact ⟨ret_bool H1.out.symm, b1⟩

set_option maxRecDepth 100000 in
theorem walk_FnExactTalliesValid (A : Option Addr) (cap : Nat) (ts : List Tl) (w : World) (h0 : TCame w A cap ts) :
    Calls Try.prog 7 #[.slice A ts.length cap] w fun e w' => e = .returned (.bool true) ∧ Below w.heap.size w w' := by
  go_enter Try.func7, Try.ntmps7
  go_wp2_with fail
  refine (szTallyS A cap ts w h0).mono ?_
  rintro e w1 ⟨b1, rfl | ⟨L, hL, rfl, hn, hs⟩⟩
  · go_wp2_with fail
    go_ret
    exact ⟨rfl, b1⟩
  have HS := Lib.hid hs
  have HR := Lib.hid h0.2.2.1
  clear hs h0
  go_wp2_with fail
  refine (toTallyS A cap ts w1 (HR.out.below b1) hn).mono ?_
  rintro e w2 ⟨rfl, s2, b2⟩
  have r2 := bstep b1 b2
  go_wp2_with fail
  refine (spec_TalliesValid _ _ ts w2 s2.rd hn HS.out).mono ?_
  rintro e w3 ⟨rfl, b3⟩
  have r3 := bstep r2 b3
  clear b1 b2 s2 r2 b3
  go_wp2_with fail
  refine (toTallyS A cap ts w3 (HR.out.below r3) hn).mono ?_
  rintro e w4 ⟨rfl, s4, b4⟩
  have r4 := bstep r3 b4
  go_wp2_with fail
  refine (impl_TalliesValid _ _ ts w4 s4.rd hn HS.out).mono ?_
  rintro e w5 ⟨rfl, b5⟩
  have r5 := bstep r4 b5
  have s5 := s4.below b5
  clear r3 b4 r4 b5 s4
  go_wp2_with fail
  refine (toTallyS A cap ts w5 (HR.out.below r5) hn).mono ?_
  rintro e w6 ⟨rfl, s6, b6⟩
  have r6 := bstep r5 b6
  have s5' := s5.below b6
  clear r5 b6 s5
  go_wp2_with fail
  refine (eqTallyS _ _ _ _ ts w6 s5'.rd s6.rd hn).mono ?_
  rintro e w7 ⟨rfl, b7⟩
  have r7 := bstep r6 b7
  clear r6 b7 s5' s6
  go_wp2_with fail
  go_ret
  exact ⟨rfl, r7⟩

/-! The row's step, after the kit's own shell of such a proof. -/
set_option linter.unusedVariables false in
set_option maxRecDepth 100000 in
theorem lifted_FnExactTalliesValid (os : Os) (started : os.Started) (H : Type) (enc : TypeId × Value → H) :
    ReturnsInHanded {} Try.checked os 7 .any (Rows.fnExactTalliesValidSpec.pre6 enc Try.prog Try.f7 Rows.fnExactTalliesValidRow.domain false) (Rows.fnExactTalliesValidSpec.post enc Try.prog Try.f7 false true false false) := by
  refine returnsInHanded_of_change (C := Try.checked) own started (by kernel_rfl) Try.func7
    (ChangeSpec.witness6 (enc := enc) (C := Try.checked) false ⟨#[], #[.slice none 0 0], []⟩ 8 (by kernel_rfl) (by kernel_rfl) (by kernel_rfl) (by kernel_rfl)) ?_
  intro W base args ds gs before hval0 hW hcnd _
  have hval : ∀ (j : Nat) t v, Try.f7.params[j]? = some t → args[j]? = some v → Value.okWide Try.prog W .any base t v := hval0
  have hW' := hW
  obtain ⟨p, q, hA0, hV, rfl, hfz, hnd⟩ := hW
  have hA : DataW.TrodAll enc Try.prog W 0 (fun _ => true) true Try.f7.params.toList args.toList ds p := hA0
  rw [Try.params7] at hA hval
  obtain ⟨v0, vs0, d0, ds0, p0, q0, hargs, rfl, rfl, h0, r0⟩ := trodAll_cons hA
  obtain ⟨rfl, rfl, rfl⟩ := trodAll_nil r0
  obtain rfl : args = #[v0] := by cases args; simp_all
  obtain ⟨rfl, rfl⟩ := trodVars_none hV
  obtain ⟨A0, len0, cap0, rfl⟩ := okWide_slice Try.underlying32 (hval 0 32 v0 rfl rfl)
  have k0 := h0
  have lt0 : ∀ x ∈ p0, x.block < W.heap.size := by obtain ⟨m, hm⟩ := k0; exact DataW.trod_lt m _ _ _ hm
  obtain ⟨z0, rfl, w0⟩ := open_tallies h0
  clear hA0 hval0
  refine (walk_FnExactTalliesValid A0 cap0 z0 W w0).mono fun e W' ⟨he, bel⟩ => ?_
  subst he
  exact ⟨_, rfl, _, _, _, [], _, [], hW', trodAll_mk1 (shut_bool Try.underlying4 _), (trodAll_cons_mk (Below.trod laidOut (by kernel_rfl) (of_decide_eq_true (by kernel_rfl)) k0 bel lt0) trodAll_mk0), rfl, bel.frame _, fun h => by cases h⟩

theorem over_FnExactTalliesValid : Rows.fnExactTalliesValidRow.holds Try.pinned (OpenSpec.ofChange Rows.fnExactTalliesValidSpec) :=
  OpenClaim.holds_of_wide 7 Try.f7 rfl rfl rfl rfl rfl rfl rfl ⟨rfl, rfl, rfl, rfl, rfl⟩ rfl rfl rfl rfl rfl (by kernel_rfl) Try.func7 (by kernel_rfl)
    (of_decide_eq_true (by kernel_rfl)) (by unfold Func.isWrapper; first | (rw [if_pos (by decide +kernel)]; kernel_rfl) | (rw [if_neg (by decide +kernel)]; exact ⟨rfl, rfl⟩))
    (fun os started H enc _ => lifted_FnExactTalliesValid os started H enc)

/-- The statement. -/
theorem holds_FnExactTalliesValid : Rows.FnExactTalliesValidSaid := over_FnExactTalliesValid
#print axioms holds_FnExactTalliesValid
end Go.Proofs.Ytfdabeikcpccgaa
