/- The law FnExchange returns true for every input: exchanged digits can be exchanged back. No condition. -/
import Derived.Test.YtceigfdmaeanaaaNinM
import Derived.Test.YtceigfdmaeanaaaDrawM
namespace Go.Proofs.Ytceigfdmaeanaaa
open Go.ChangeShapes Go.WideShapes Go.ChangeAt Go.RowKit

set_option maxRecDepth 100000 in
set_option maxHeartbeats 1000000 in
theorem walk_FnExchange (A0 : Option Addr) (cap0 : Nat) (z0 : List Int) (w : World) (h0 : Came .u8 w A0 cap0 z0) :
    Calls Try.prog 14 #[.slice A0 z0.length cap0] w fun e w' => e = .returned (.bool true) ∧ Below w.heap.size w w' := by
  have hm := h0.ml
  by_cases hbig : 1048576 < z0.length
  · go_enter Try.func14, Try.ntmps14
    go_wp2
    go_ret
    exact ⟨rfl, Below.refl _ _⟩
  go_enter Try.func14, Try.ntmps14
  go_wp2_with fail
  refine (DrawNumeralExchange _ _ _ _ h0).mono ?_
  rintro e w1 ⟨A, c, zs, i, rfl, s1, lz, _, _, b1⟩
  have impl := fun A c w hr => impl_NumeralExchange A c zs i w hr (by omega)
  have spec := fun A c w hr => spec_NumeralExchange A c zs i w hr (by omega)
  cases hx : exchB zs i
  · rw [exch_no hx, hx] at impl spec
    have HIM := Lib.hid impl
    have HSP := Lib.hid spec
    clear impl spec
    go_wp2_with fail
    refine (HIM.out _ _ _ s1.rd).mono ?_
    rintro e w2 ⟨A2, c2, rfl, s2, b2⟩
    go_wp2_with fail
    refine (HSP.out _ _ _ (s1.below b2).rd).mono ?_
    rintro e w3 ⟨A3, c3, rfl, s3, b3⟩
    have r3 := bstep b1 (bstep b2 b3)
    go_wp2_with fail
    refine (sameInts_same A2 A3 c2 c3 [] _ Rd.nil_ Rd.nil_ (by simp)).mono ?_
    rintro e w' ⟨rfl, n4, rfl⟩
    go_wp2_with fail
    refine (sameInts_same A2 A3 c2 c3 [] _ Rd.nil_ Rd.nil_ (by simp)).mono ?_
    rintro e w' ⟨rfl, n5, rfl⟩
    go_wp2_with fail
    go_ret
    exact ⟨rfl, r3.drewN _⟩
  · obtain ⟨x1, x2⟩ := exch_exch hx
    have lo := exch_len zs hx
    have impl2 := fun A c w hr => impl_NumeralExchange A c (exchL zs i) i w hr (by omega)
    rw [x1, x2] at impl2
    have hfar := exch_far hx
    have hval := exch_val hx
    have n1 := (exchB_t hx).1
    have n2 := exch_num hx
    have l6 := (numB_t n1).2.1
    have hv1 : 0 ≤ numV zs ∧ numV zs < 1000000 := by rw [numV, if_pos n1]; exact valTo_bd6 n1 l6
    have hv2 : 0 ≤ numV (exchL zs i) ∧ numV (exchL zs i) < 1000000 := by rw [numV, if_pos n2]; exact valTo_bd6 n2 (by omega)
    rw [hx] at impl spec
    clear x1 x2 hx n1 n2
    generalize exchL zs i = ys at *
    have HIM := Lib.hid impl
    have HIM2 := Lib.hid impl2
    have HSP := Lib.hid spec
    have HLO := Lib.hid lo
    have ly : ys.length ≤ 7 := by omega
    have t1 : (farV zs ys == 2) = true := by rw [beq_iff_eq]; exact hfar
    have t2 : ((numV ys - numV zs).tmod 9 == 0) = true := by rw [beq_iff_eq]; exact hval
    clear impl spec impl2 lo hfar hval
    go_wp2_with fail
    refine (HIM.out _ _ _ s1.rd).mono ?_
    rintro e w2 ⟨A2, c2, rfl, s2, b2⟩
    have z2 := s1.below b2
    have r2 := bstep b1 b2
    clear s1 b1 b2
    go_wp2_with fail
    refine (HSP.out _ _ _ z2.rd).mono ?_
    rintro e w3 ⟨A3, c3, rfl, s3, b3⟩
    have z3 := z2.below b3
    have y3 := s2.below b3
    have r3 := bstep r2 b3
    clear z2 s2 r2 b3
    go_wp2_with fail
    refine (sameInts_same A2 A3 c2 c3 ys _ y3.rd s3.rd (by omega)).mono ?_
    rintro e w' ⟨rfl, n4, rfl⟩
    have r4 := r3.drewN n4
    have z4 := z3.drewN n4
    have y4 := y3.drewN n4
    clear s3 z3 y3 r3
    go_wp2_with fail
    refine (HIM2.out _ _ _ y4.rd).mono ?_
    rintro e w5 ⟨A5, c5, rfl, s5, b5⟩
    have r5 := bstep r4 b5
    have z5 := z4.below b5
    have y5 := y4.below b5
    clear z4 y4 r4 b5
    go_wp2_with fail
    refine (sameInts_same A5 A c5 c zs _ s5.rd z5.rd (by omega)).mono ?_
    rintro e w' ⟨rfl, n6, rfl⟩
    have r6 := r5.drewN n6
    have z6 := z5.drewN n6
    have y6 := y5.drewN n6
    clear z5 y5 r5 s5
    go_wp2_with fail
    refine (impl_NumeralFar _ _ _ _ _ _ _ z6.rd y6.rd (by omega) (by omega)).mono ?_
    rintro e w7 ⟨rfl, b7⟩
    have r7 := bstep r6 b7
    have z7 := z6.below b7
    have y7 := y6.below b7
    clear z6 y6 r6 b7
    go_wp2_with fail
    refine (impl_NumeralValue _ _ _ _ y7.rd (by omega)).mono ?_
    rintro e w8 ⟨rfl, b8⟩
    have r8 := bstep r7 b8
    have z8 := z7.below b8
    clear z7 y7 r7 b8
    go_wp2_with fail
    refine (impl_NumeralValue _ _ _ _ z8.rd (by omega)).mono ?_
    rintro e w9 ⟨rfl, b9⟩
    have r9 := bstep r8 b9
    clear z8 r8 b9
    go_wp2_with fail
    go_ret
    exact ⟨rfl, r9⟩

/-! The row's step, after the kit's own shell of such a proof. -/
set_option linter.unusedVariables false in
set_option maxRecDepth 100000 in
theorem lifted_FnExchange (os : Os) (started : os.Started) (H : Type) (enc : TypeId × Value → H) :
    ReturnsInHanded {} Try.checked os 14 .any (Rows.fnExchangeSpec.pre6 enc Try.prog Try.f14 Rows.fnExchangeRow.domain false) (Rows.fnExchangeSpec.post enc Try.prog Try.f14 false true false false) := by
  refine returnsInHanded_of_change (C := Try.checked) own started (by kernel_rfl) Try.func14
    (ChangeSpec.witness6 (enc := enc) (C := Try.checked) false ⟨#[], #[.slice none 0 0], []⟩ 8 (by kernel_rfl) (by kernel_rfl) (by kernel_rfl) (by kernel_rfl)) ?_
  intro W base args ds gs before hval0 hW hcnd _
  have hval : ∀ (j : Nat) t v, Try.f14.params[j]? = some t → args[j]? = some v → Value.okWide Try.prog W .any base t v := hval0
  have hW' := hW
  obtain ⟨p, q, hA0, hV, rfl, hfz, hnd⟩ := hW
  have hA : DataW.TrodAll enc Try.prog W 0 (fun _ => true) true Try.f14.params.toList args.toList ds p := hA0
  rw [Try.params14] at hA hval
  obtain ⟨v0, vs0, d0, ds0, p0, q0, hargs, rfl, rfl, h0, r0⟩ := trodAll_cons hA
  obtain ⟨rfl, rfl, rfl⟩ := trodAll_nil r0
  obtain rfl : args = #[v0] := by cases args; simp_all
  obtain ⟨rfl, rfl⟩ := trodVars_none hV
  obtain ⟨A0, len0, cap0, rfl⟩ := okWide_slice Try.underlying35 (hval 0 35 v0 rfl rfl)
  have k0 := h0
  have lt0 : ∀ x ∈ p0, x.block < W.heap.size := by obtain ⟨m, hm⟩ := k0; exact DataW.trod_lt m _ _ _ hm
  obtain ⟨z0, rfl, w0⟩ := row_open Try.underlying35 Try.underlying5 (by kernel_rfl) h0
  clear hA0 hval0
  refine (walk_FnExchange A0 cap0 z0 W w0).mono fun e W' ⟨he, bel⟩ => ?_
  subst he
  exact ⟨_, rfl, _, _, _, [], _, [], hW', trodAll_mk1 (shut_bool Try.underlying4 _), (trodAll_cons_mk (Below.trod laidOut (by kernel_rfl) (of_decide_eq_true (by kernel_rfl)) k0 bel lt0) trodAll_mk0), rfl, bel.frame _, fun h => by cases h⟩

theorem over_FnExchange : Rows.fnExchangeRow.holds Try.pinned (OpenSpec.ofChange Rows.fnExchangeSpec) :=
  OpenClaim.holds_of_wide 14 Try.f14 rfl rfl rfl rfl rfl rfl rfl ⟨rfl, rfl, rfl, rfl, rfl⟩ rfl rfl rfl rfl rfl (by kernel_rfl) Try.func14 (by kernel_rfl)
    (of_decide_eq_true (by kernel_rfl)) (by unfold Func.isWrapper; first | (rw [if_pos (by decide +kernel)]; kernel_rfl) | (rw [if_neg (by decide +kernel)]; exact ⟨rfl, rfl⟩))
    (fun os started H enc _ => lifted_FnExchange os started H enc)

/-- The statement. -/
theorem holds_FnExchange : Rows.FnExchangeSaid := over_FnExchange
#print axioms holds_FnExchange
end Go.Proofs.Ytceigfdmaeanaaa
