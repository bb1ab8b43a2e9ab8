/- The law FnExactNumeralExchange returns true for every input: the program's NumeralExchange is the reference's, its result is its own, and its argument is left as it was. No condition. -/
import Derived.Test.YtceigfdmaeanaaaExch
namespace Go.Proofs.Ytceigfdmaeanaaa
open Go.ChangeShapes Go.WideShapes Go.ChangeAt Go.RowKit
open Go.ChangeMaps (open_string shut_string)

set_option maxRecDepth 100000 in
set_option maxHeartbeats 1000000 in
theorem walk_FnExactNumeralExchange (A0 : Option Addr) (cap0 : Nat) (z0 : List Int) (a1 : Int) (w : World) (h0 : Came .i64 w A0 cap0 z0) (_ : (Lit.int .i64 a1).wf = true) :
    Calls Try.prog 7 #[.slice A0 z0.length cap0, .int .i64 a1] w fun e w' => e = .returned (.bool true) ∧ Below w.heap.size w w' := by
  have hr := h0.2.2.1
  have hm := h0.ml
  by_cases hbig : 1048576 < z0.length
  · go_enter Try.func7, Try.ntmps7
    go_wp2
    go_ret
    exact ⟨rfl, Below.refl _ _⟩
  · have hl : (exchL z0 a1).length ≤ 4194304 := exchL_le z0 a1 (by omega)
    go_enter Try.func7, Try.ntmps7
    go_wp2_with fail
    refine (toIntS _ _ _ _ hr (by omega)).mono ?_
    rintro e w1 ⟨A1, c1, rfl, s1, b1⟩
    go_wp2_with fail
    refine (spec_NumeralExchange _ _ _ _ _ s1.rd (by omega)).mono ?_
    rintro e w2 ⟨A2, c2, rfl, s2, b2⟩
    have r2 := bstep b1 b2
    go_wp2_with fail
    refine (toIntS _ _ _ _ (hr.below r2) (by omega)).mono ?_
    rintro e w3 ⟨A3, c3, rfl, s3, b3⟩
    have r3 := bstep r2 b3
    have W3 := s2.below b3
    go_wp2_with fail
    refine (impl_NumeralExchange _ _ _ _ _ s3.rd (by omega)).mono ?_
    rintro e w4 ⟨A4, c4, rfl, s4, b4⟩
    have r4 := bstep r3 b4
    have W4 := W3.below b4
    have X4 := s3.below b4
    go_wp2_with fail
    refine (eqIntS_same _ _ _ _ _ _ s4.rd W4.rd (by omega)).mono ?_
    rintro e w' ⟨rfl, n5, rfl⟩
    have r5 := r4.drewN n5
    have W5 := W4.drewN n5
    have X5 := X4.drewN n5
    have G5 := s4.drewN n5
    go_wp2_with fail
    refine (toIntS _ _ _ _ (hr.below r5) (by omega)).mono ?_
    rintro e w6 ⟨A6, c6, rfl, s6, b6⟩
    have r6 := bstep r5 b6
    have W6 := W5.below b6
    have X6 := X5.below b6
    have G6 := G5.below b6
    go_wp2_with fail
    refine (eqIntS_same _ _ _ _ _ _ X6.rd s6.rd (by omega)).mono ?_
    rintro e w' ⟨rfl, n7, rfl⟩
    have r7 := r6.drewN n7
    have W7 := W6.drewN n7
    have X7 := X6.drewN n7
    have G7 := G6.drewN n7
    go_wp2_with fail
    refine (markIntS _ _ _ _ _ _ X7 (by omega) (by omega) (by omega)).mono ?_
    rintro e w8 ⟨rfl, X8, g8⟩
    have r8 := r7.grown g8 r7.size (fun k hk => by have := (s3.lt k hk).1; have := r2.size; omega)
    have W8 := W7.grown g8 (s2.apart s3)
    have G8 := G7.grown g8 (s3.apart_r s4)
    go_wp2_with fail
    refine (eqIntS_same _ _ _ _ _ _ G8.rd W8.rd (by omega)).mono ?_
    rintro e w' ⟨rfl, n9, rfl⟩
    have r9 := r8.drewN n9
    have W9 := W8.drewN n9
    have G9 := G8.drewN n9
    go_wp2_with fail
    refine (markIntS _ _ _ _ _ _ G9 (by omega) (by omega) (by omega)).mono ?_
    rintro e w10 ⟨rfl, G10, g10⟩
    have r10 := r9.grown g10 r9.size (fun k hk => by have := (s4.lt k hk).1; have := r3.size; omega)
    have W10 := W9.grown g10 (W3.apart s4)
    go_wp2_with fail
    refine (heldIntS _ _ _ _ _ G10.rd (by omega) (by omega) (by omega)).mono ?_
    rintro e w' ⟨rfl, rfl⟩
    go_wp2_with fail
    refine (toIntS _ _ _ _ (hr.below r10) (by omega)).mono ?_
    rintro e w11 ⟨A11, c11, rfl, s11, b11⟩
    have r11 := bstep r10 b11
    have W11 := W10.below b11
    have G11 := G10.below b11
    go_wp2_with fail
    refine (impl_NumeralExchange _ _ _ _ _ s11.rd (by omega)).mono ?_
    rintro e w12 ⟨A12, c12, rfl, s12, b12⟩
    have r12 := bstep r11 b12
    have W12 := W11.below b12
    have G12 := G11.below b12
    go_wp2_with fail
    refine (eqIntS_same _ _ _ _ _ _ s12.rd W12.rd (by omega)).mono ?_
    rintro e w' ⟨rfl, n13, rfl⟩
    have G13 := G12.drewN n13
    go_wp2_with fail
    refine (heldIntS _ _ _ _ _ G13.rd (by omega) (by omega) (by omega)).mono ?_
    rintro e w' ⟨rfl, rfl⟩
    go_wp2_with fail
    go_ret
    exact ⟨rfl, r12.drewN n13⟩

/-! The row's step, after the kit's own shell of such a proof. -/
set_option linter.unusedVariables false in
set_option maxRecDepth 100000 in
theorem lifted_FnExactNumeralExchange (os : Os) (started : os.Started) (H : Type) (enc : TypeId × Value → H) :
    ReturnsInHanded {} Try.checked os 7 .any (Rows.fnExactNumeralExchangeSpec.pre6 enc Try.prog Try.f7 Rows.fnExactNumeralExchangeRow.domain false) (Rows.fnExactNumeralExchangeSpec.post enc Try.prog Try.f7 false true false false) := by
  refine returnsInHanded_of_change (C := Try.checked) own started (by kernel_rfl) Try.func7
    (ChangeSpec.witness6 (enc := enc) (C := Try.checked) false ⟨#[], #[.slice none 0 0, .int .i64 0], []⟩ 8 (by kernel_rfl) (by kernel_rfl) (by kernel_rfl) (by kernel_rfl)) ?_
  intro W base args ds gs before hval0 hW hcnd _
  have hval : ∀ (j : Nat) t v, Try.f7.params[j]? = some t → args[j]? = some v → Value.okWide Try.prog W .any base t v := hval0
  have hW' := hW
  obtain ⟨p, q, hA0, hV, rfl, hfz, hnd⟩ := hW
  have hA : DataW.TrodAll enc Try.prog W 0 (fun _ => true) true Try.f7.params.toList args.toList ds p := hA0
  rw [Try.params7] at hA hval
  obtain ⟨v0, vs0, d0, ds0, p0, q0, hargs, rfl, rfl, h0, r0⟩ := trodAll_cons hA
  obtain ⟨v1, vs1, d1, ds1, p1, q1, rfl, rfl, rfl, h1, r1⟩ := trodAll_cons r0
  obtain ⟨rfl, rfl, rfl⟩ := trodAll_nil r1
  obtain rfl : args = #[v0, v1] := by cases args; simp_all
  obtain ⟨rfl, rfl⟩ := trodVars_none hV
  obtain ⟨A0, len0, cap0, rfl⟩ := okWide_slice Try.underlying22 (hval 0 22 v0 rfl rfl)
  have k0 := h0
  have lt0 : ∀ x ∈ p0, x.block < W.heap.size := by obtain ⟨m, hm⟩ := k0; exact DataW.trod_lt m _ _ _ hm
  obtain ⟨z0, rfl, w0⟩ := row_open Try.underlying22 Try.underlying3 (by kernel_rfl) h0
  obtain ⟨a1, rfl, rfl, rfl, w1⟩ := open_int Try.underlying3 (hval 1 3 v1 rfl rfl) h1
  clear hA0 hval0
  refine (walk_FnExactNumeralExchange A0 cap0 z0 a1 W w0 w1).mono fun e W' ⟨he, bel⟩ => ?_
  subst he
  exact ⟨_, rfl, _, _, _, [], _, [], hW', trodAll_mk1 (shut_bool Try.underlying4 _), (trodAll_cons_mk (Below.trod laidOut (by kernel_rfl) (of_decide_eq_true (by kernel_rfl)) k0 bel lt0) (trodAll_cons_mk (shut_int Try.underlying3 w1) trodAll_mk0)), rfl, bel.frame _, fun h => by cases h⟩

theorem over_FnExactNumeralExchange : Rows.fnExactNumeralExchangeRow.holds Try.pinned (OpenSpec.ofChange Rows.fnExactNumeralExchangeSpec) :=
  OpenClaim.holds_of_wide 7 Try.f7 rfl rfl rfl rfl rfl rfl rfl ⟨rfl, rfl, rfl, rfl, rfl⟩ rfl rfl rfl rfl rfl (by kernel_rfl) Try.func7 (by kernel_rfl)
    (of_decide_eq_true (by kernel_rfl)) (by unfold Func.isWrapper; first | (rw [if_pos (by decide +kernel)]; kernel_rfl) | (rw [if_neg (by decide +kernel)]; exact ⟨rfl, rfl⟩))
    (fun os started H enc _ => lifted_FnExactNumeralExchange os started H enc)

/-- The statement. -/
theorem holds_FnExactNumeralExchange : Rows.FnExactNumeralExchangeSaid := over_FnExactNumeralExchange
#print axioms holds_FnExactNumeralExchange
end Go.Proofs.Ytceigfdmaeanaaa
