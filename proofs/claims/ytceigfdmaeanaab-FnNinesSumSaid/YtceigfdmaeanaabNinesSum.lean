/- The law FnNinesSum returns true for every input: a right sum passes. No condition. -/
import Derived.Test.YtceigfdmaeanaabChkL
namespace Go.Proofs.Ytceigfdmaeanaab
open Go.ChangeShapes Go.WideShapes Go.ChangeAt Go.RowKit

set_option maxRecDepth 100000 in
set_option maxHeartbeats 2000000 in
theorem walk_FnNinesSum (A0 : Option Addr) (cap0 : Nat) (z0 : List Int) (w : World) (h0 : Came .u8 w A0 cap0 z0) :
    Calls Try.prog 5 #[.slice A0 z0.length cap0] w fun e w' => e = .returned (.bool true) ∧ Below w.heap.size w w' := by
  have hm := h0.ml
  by_cases hbig : 1048576 < z0.length
  · go_enter Try.func5, Try.ntmps5
    go_wp2
    go_ret
    exact ⟨rfl, Below.refl _ _⟩
  go_enter Try.func5, Try.ntmps5
  go_wp2_with fail
  refine (DrawNinesSum _ _ _ _ h0).mono ?_
  rintro e w1 ⟨A, c, xs, B, d, ys, C, f, zs, rfl, hx1, hy1, hz1, lx, ly, lz, b1⟩
  go_wp2_with fail
  refine (impl_NinesSum _ _ _ _ _ _ _ _ _ _ hx1 hy1 hz1 (by omega) (by omega) (by omega)).mono ?_
  rintro e w2 ⟨rfl, b2⟩
  have R2 := Lib.hid (bstep b1 b2)
  have HX := Lib.hid (hx1.below b2)
  have HY := Lib.hid (hy1.below b2)
  have HZ := Lib.hid (hz1.below b2)
  clear hx1 hy1 hz1 b1 b2
  go_wp2_with fail
  refine (spec_NinesSum _ _ _ _ _ _ _ _ _ _ HX.out HY.out HZ.out (by omega) (by omega) (by omega)).mono ?_
  rintro e w' ⟨rfl, rfl⟩
  cases hb : nsumB xs ys zs
  · go_wp2_with fail
    go_ret
    exact ⟨rfl, R2.out⟩
  obtain ⟨n1, n2, n3, _⟩ := nsumB_t hb
  have va := numV_bd n1
  have vb := numV_bd n2
  have vc := numV_bd n3
  have t1 : ((numV zs - numV xs - numV ys).tmod 9 == 0) = true := by rw [beq_iff_eq]; exact nsum_d hb
  have hcm : Hid (nsumB ys xs zs = true) := Lib.hid (nsum_comm hb)
  have hrt : Hid (∀ ds, numB ds = true → numV ds = numV xs + numV ys → nsumB xs ys ds = true) := Lib.hid (fun ds => nsum_right hb)
  go_wp2_with fail
  refine (impl_NumeralValue _ _ _ _ HZ.out (by omega)).mono ?_
  rintro e w3 ⟨rfl, b3⟩
  have B3 := Lib.hid (b3)
  clear b3
  go_wp2_with fail
  refine (impl_NumeralValue _ _ _ _ (HX.out.below B3.out) (by omega)).mono ?_
  rintro e w4 ⟨rfl, b4⟩
  have B4 := Lib.hid (bstep B3.out b4)
  clear b4
  go_wp2_with fail
  refine (impl_NumeralValue _ _ _ _ (HY.out.below B4.out) (by omega)).mono ?_
  rintro e w5 ⟨rfl, b5⟩
  have B5 := Lib.hid (bstep B4.out b5)
  clear b5
  go_wp2_with fail
  refine (impl_NumeralValue _ _ _ _ (HX.out.below B5.out) (by omega)).mono ?_
  rintro e w6 ⟨rfl, b6⟩
  have B6 := Lib.hid (bstep B5.out b6)
  clear b6
  go_wp2_with fail
  refine (impl_NumeralValue _ _ _ _ (HY.out.below B6.out) (by omega)).mono ?_
  rintro e w7 ⟨rfl, b7⟩
  have B7 := Lib.hid (bstep B6.out b7)
  clear b7
  go_wp2_with fail
  refine (impl_NumeralOf _ _).mono ?_
  rintro e w8 ⟨A8, c8, ds, ok, rfl, s8, l8, h8, b8⟩
  have B8 := Lib.hid (bstep B7.out b8)
  have H8 := Lib.hid h8
  have S8 := Lib.hid s8
  clear b8 h8 s8
  go_wp2_with fail
  refine (impl_NinesSum _ _ _ _ _ _ _ _ _ _ (HY.out.below B8.out) (HX.out.below B8.out) (HZ.out.below B8.out) (by omega) (by omega) (by omega)).mono ?_
  rintro e w9 ⟨rfl, b9⟩
  have B9 := Lib.hid (bstep B8.out b9)
  have S9 := Lib.hid (S8.out.below b9)
  clear b9
  rw [hcm.out]
  cases ok
  · go_wp2_with fail
    go_ret
    exact ⟨rfl, bstep R2.out B9.out⟩
  · go_wp2_with fail
    refine (impl_NinesSum _ _ _ _ _ _ _ _ _ _ (HX.out.below B9.out) (HY.out.below B9.out) S9.out.rd (by omega) (by omega) (by omega)).mono ?_
    rintro e w10 ⟨rfl, b10⟩
    rw [hrt.out ds (H8.out (by first | rfl | trivial)).1 (H8.out (by first | rfl | trivial)).2]
    go_wp2_with fail
    go_ret
    exact ⟨rfl, bstep R2.out (bstep B9.out b10)⟩

/-! The row's step, after the kit's own shell of such a proof. -/
set_option linter.unusedVariables false in
set_option maxRecDepth 100000 in
theorem lifted_FnNinesSum (os : Os) (started : os.Started) (H : Type) (enc : TypeId × Value → H) :
    ReturnsInHanded {} Try.checked os 5 .any (Rows.fnNinesSumSpec.pre6 enc Try.prog Try.f5 Rows.fnNinesSumRow.domain false) (Rows.fnNinesSumSpec.post enc Try.prog Try.f5 false true false false) := by
  refine returnsInHanded_of_change (C := Try.checked) own started (by kernel_rfl) Try.func5
    (ChangeSpec.witness6 (enc := enc) (C := Try.checked) false ⟨#[], #[.slice none 0 0], []⟩ 8 (by kernel_rfl) (by kernel_rfl) (by kernel_rfl) (by kernel_rfl)) ?_
  intro W base args ds gs before hval0 hW hcnd _
  have hval : ∀ (j : Nat) t v, Try.f5.params[j]? = some t → args[j]? = some v → Value.okWide Try.prog W .any base t v := hval0
  have hW' := hW
  obtain ⟨p, q, hA0, hV, rfl, hfz, hnd⟩ := hW
  have hA : DataW.TrodAll enc Try.prog W 0 (fun _ => true) true Try.f5.params.toList args.toList ds p := hA0
  rw [Try.params5] at hA hval
  obtain ⟨v0, vs0, d0, ds0, p0, q0, hargs, rfl, rfl, h0, r0⟩ := trodAll_cons hA
  obtain ⟨rfl, rfl, rfl⟩ := trodAll_nil r0
  obtain rfl : args = #[v0] := by cases args; simp_all
  obtain ⟨rfl, rfl⟩ := trodVars_none hV
  obtain ⟨A0, len0, cap0, rfl⟩ := okWide_slice Try.underlying22 (hval 0 22 v0 rfl rfl)
  have k0 := h0
  have lt0 : ∀ x ∈ p0, x.block < W.heap.size := by obtain ⟨m, hm⟩ := k0; exact DataW.trod_lt m _ _ _ hm
  obtain ⟨z0, rfl, w0⟩ := row_open Try.underlying22 Try.underlying5 (by kernel_rfl) h0
  clear hA0 hval0
  refine (walk_FnNinesSum A0 cap0 z0 W w0).mono fun e W' ⟨he, bel⟩ => ?_
  subst he
  exact ⟨_, rfl, _, _, _, [], _, [], hW', trodAll_mk1 (shut_bool Try.underlying4 _), (trodAll_cons_mk (Below.trod laidOut (by kernel_rfl) (of_decide_eq_true (by kernel_rfl)) k0 bel lt0) trodAll_mk0), rfl, bel.frame _, fun h => by cases h⟩

theorem over_FnNinesSum : Rows.fnNinesSumRow.holds Try.pinned (OpenSpec.ofChange Rows.fnNinesSumSpec) :=
  OpenClaim.holds_of_wide 5 Try.f5 rfl rfl rfl rfl rfl rfl rfl ⟨rfl, rfl, rfl, rfl, rfl⟩ rfl rfl rfl rfl rfl (by kernel_rfl) Try.func5 (by kernel_rfl)
    (of_decide_eq_true (by kernel_rfl)) (by unfold Func.isWrapper; first | (rw [if_pos (by decide +kernel)]; kernel_rfl) | (rw [if_neg (by decide +kernel)]; exact ⟨rfl, rfl⟩))
    (fun os started H enc _ => lifted_FnNinesSum os started H enc)

/-- The statement. -/
theorem holds_FnNinesSum : Rows.FnNinesSumSaid := over_FnNinesSum
#print axioms holds_FnNinesSum
end Go.Proofs.Ytceigfdmaeanaab
