/- The law FnNinesTimes returns true for every input: a right product passes. No condition. -/
import Derived.Test.YtceigfdmaeanaabChkL
namespace Go.Proofs.Ytceigfdmaeanaab
open Go.ChangeShapes Go.WideShapes Go.ChangeAt Go.RowKit

set_option maxRecDepth 100000 in
set_option maxHeartbeats 2000000 in
theorem walk_FnNinesTimes (A0 : Option Addr) (cap0 : Nat) (z0 : List Int) (A1 : Option Addr) (cap1 : Nat) (z1 : List Int) (w : World) (h0 : Came .u8 w A0 cap0 z0) (h1 : Came .u8 w A1 cap1 z1) :
    Calls Try.prog 6 #[.slice A0 z0.length cap0, .slice A1 z1.length cap1] w fun e w' => e = .returned (.bool true) ∧ Below w.heap.size w w' := by
  have hm := h0.ml
  by_cases hbig : 1048576 < z0.length
  · go_enter Try.func6, Try.ntmps6
    go_wp2
    go_ret
    exact ⟨rfl, Below.refl _ _⟩
  have hm1 := h1.ml
  have g0 : decide ((1048576 : Int) < (z0.length : Int)) = false := by simp; omega
  by_cases hbig1 : 1048576 < z1.length
  · go_enter Try.func6, Try.ntmps6
    go_wp2
    go_ret
    exact ⟨rfl, Below.refl _ _⟩
  have g1 : decide ((1048576 : Int) < (z1.length : Int)) = false := by simp; omega
  go_enter Try.func6, Try.ntmps6
  go_wp2_with fail
  refine (DrawNinesTimes _ _ _ _ h0).mono ?_
  rintro e w1 ⟨A, c, xs, B, d, ys, C, f, zs, rfl, hx1, hy1, hz1, lx, ly, lz, b1⟩
  go_wp2_with fail
  refine (impl_NinesTimes _ _ _ _ _ _ _ _ _ _ hx1 hy1 hz1 (by omega) (by omega) (by omega)).mono ?_
  rintro e w2 ⟨rfl, b2⟩
  have R2 := Lib.hid (bstep b1 b2)
  have HX := Lib.hid (hx1.below b2)
  have HY := Lib.hid (hy1.below b2)
  have HZ := Lib.hid (hz1.below b2)
  clear hx1 hy1 hz1 b1 b2
  go_wp2_with fail
  refine (spec_NinesTimes _ _ _ _ _ _ _ _ _ _ HX.out HY.out HZ.out (by omega) (by omega) (by omega)).mono ?_
  rintro e w' ⟨rfl, rfl⟩
  cases hb : ntimB xs ys zs
  · go_wp2_with fail
    go_ret
    exact ⟨rfl, R2.out⟩
  obtain ⟨n1, n2, n3, _⟩ := ntimB_t hb
  have va := numV_bd n1
  have vb := numV_bd n2
  have vc := numV_bd n3
  have ⟨p0, p1⟩ := prod_bd n1 n2
  have v1 : IntKind.i64.wrap (numV xs * numV ys) = numV xs * numV ys := IntWalk.i64_in _ (by omega)
  have t1 : ((numV zs - numV xs * numV ys).tmod 9 == 0) = true := by rw [beq_iff_eq]; exact ntim_d hb
  have hcm : Hid (ntimB ys xs zs = true) := Lib.hid (ntim_comm hb)
  have hrt : Hid (∀ ds, numB ds = true → numV ds = numV xs * numV ys → ntimB xs ys ds = true) := Lib.hid (fun ds => ntim_right hb)
  go_wp2_with fail
  refine (impl_NumeralValue _ _ _ _ HZ.out (by omega)).mono ?_
  rintro e w3 ⟨rfl, b3⟩
  have B3 := Lib.hid (b3)
  clear b3
  go_wp2_with fail
  refine (impl_NumeralValue _ _ _ _ (HX.out.below B3.out) (by omega)).mono ?_
  rintro e w4 ⟨rfl, b4⟩
  have B4 := Lib.hid (bstep B3.out b4)
  clear b4
  go_wp2_with fail
  refine (impl_NumeralValue _ _ _ _ (HY.out.below B4.out) (by omega)).mono ?_
  rintro e w5 ⟨rfl, b5⟩
  have B5 := Lib.hid (bstep B4.out b5)
  clear b5
  go_wp2_with fail
  refine (impl_NumeralValue _ _ _ _ (HX.out.below B5.out) (by omega)).mono ?_
  rintro e w6 ⟨rfl, b6⟩
  have B6 := Lib.hid (bstep B5.out b6)
  clear b6
  go_wp2_with fail
  refine (impl_NumeralValue _ _ _ _ (HY.out.below B6.out) (by omega)).mono ?_
  rintro e w7 ⟨rfl, b7⟩
  have B7 := Lib.hid (bstep B6.out b7)
  clear b7
  go_wp2_with fail
  refine (impl_NumeralOf _ _).mono ?_
  rintro e w8 ⟨A8, c8, ds, ok, rfl, s8, l8, h8, b8⟩
  have B8 := Lib.hid (bstep B7.out b8)
  have H8 := Lib.hid h8
  clear b8 h8
  have lxe := exchL_7 (show ds.length ≤ 7 by omega) ((z1.length : Int) % 6)
  go_wp2_with fail
  refine (impl_NumeralExchange _ _ _ _ _ s8.rd (by omega)).mono ?_
  rintro e w9 ⟨A9, c9, rfl, s9, b9⟩
  have B9 := Lib.hid (bstep B8.out b9)
  have S9 := Lib.hid (s8.below b9)
  have E9 := Lib.hid s9
  clear b9 s8 s9
  go_wp2_with fail
  refine (impl_NinesTimes _ _ _ _ _ _ _ _ _ _ (HY.out.below B9.out) (HX.out.below B9.out) (HZ.out.below B9.out) (by omega) (by omega) (by omega)).mono ?_
  rintro e w10 ⟨rfl, b10⟩
  have B10 := Lib.hid (bstep B9.out b10)
  have S10 := Lib.hid (S9.out.below b10)
  have E10 := Lib.hid (E9.out.below b10)
  clear b10
  rw [hcm.out]
  cases ok
  · go_wp2_with fail
    go_ret
    exact ⟨rfl, bstep R2.out B10.out⟩
  · have hr := hrt.out ds (H8.out (by first | rfl | trivial)).1 (H8.out (by first | rfl | trivial)).2
    have HR := Lib.hid hr
    cases hq : exchB ds ((z1.length : Int) % 6)
    · clear hr
      go_wp2_with fail
      refine (impl_NinesTimes _ _ _ _ _ _ _ _ _ _ (HX.out.below B10.out) (HY.out.below B10.out) S10.out.rd (by omega) (by omega) (by omega)).mono ?_
      rintro e w11 ⟨rfl, b11⟩
      rw [HR.out]
      go_wp2_with fail
      go_ret
      exact ⟨rfl, bstep R2.out (bstep B10.out b11)⟩
    · have HE := Lib.hid (ntim_exch hr hq)
      clear hr
      go_wp2_with fail
      refine (impl_NinesTimes _ _ _ _ _ _ _ _ _ _ (HX.out.below B10.out) (HY.out.below B10.out) S10.out.rd (by omega) (by omega) (by omega)).mono ?_
      rintro e w11 ⟨rfl, b11⟩
      rw [HR.out]
      have B11 := Lib.hid (bstep B10.out b11)
      have E11 := Lib.hid (E10.out.below b11)
      clear b11
      go_wp2_with fail
      refine (impl_NinesTimes _ _ _ _ _ _ _ _ _ _ (HX.out.below B11.out) (HY.out.below B11.out) E11.out.rd (by omega) (by omega) (by omega)).mono ?_
      rintro e w12 ⟨rfl, b12⟩
      rw [HE.out]
      go_wp2_with fail
      go_ret
      exact ⟨rfl, bstep R2.out (bstep B11.out b12)⟩

/-! The row's step, after the kit's own shell of such a proof. -/
set_option linter.unusedVariables false in
set_option maxRecDepth 100000 in
theorem lifted_FnNinesTimes (os : Os) (started : os.Started) (H : Type) (enc : TypeId × Value → H) :
    ReturnsInHanded {} Try.checked os 6 .any (Rows.fnNinesTimesSpec.pre6 enc Try.prog Try.f6 Rows.fnNinesTimesRow.domain false) (Rows.fnNinesTimesSpec.post enc Try.prog Try.f6 false true false false) := by
  refine returnsInHanded_of_change (C := Try.checked) own started (by kernel_rfl) Try.func6
    (ChangeSpec.witness6 (enc := enc) (C := Try.checked) false ⟨#[], #[.slice none 0 0, .slice none 0 0], []⟩ 8 (by kernel_rfl) (by kernel_rfl) (by kernel_rfl) (by kernel_rfl)) ?_
  intro W base args ds gs before hval0 hW hcnd _
  have hval : ∀ (j : Nat) t v, Try.f6.params[j]? = some t → args[j]? = some v → Value.okWide Try.prog W .any base t v := hval0
  have hW' := hW
  obtain ⟨p, q, hA0, hV, rfl, hfz, hnd⟩ := hW
  have hA : DataW.TrodAll enc Try.prog W 0 (fun _ => true) true Try.f6.params.toList args.toList ds p := hA0
  rw [Try.params6] at hA hval
  obtain ⟨v0, vs0, d0, ds0, p0, q0, hargs, rfl, rfl, h0, r0⟩ := trodAll_cons hA
  obtain ⟨v1, vs1, d1, ds1, p1, q1, rfl, rfl, rfl, h1, r1⟩ := trodAll_cons r0
  obtain ⟨rfl, rfl, rfl⟩ := trodAll_nil r1
  obtain rfl : args = #[v0, v1] := by cases args; simp_all
  obtain ⟨rfl, rfl⟩ := trodVars_none hV
  obtain ⟨A0, len0, cap0, rfl⟩ := okWide_slice Try.underlying22 (hval 0 22 v0 rfl rfl)
  have k0 := h0
  have lt0 : ∀ x ∈ p0, x.block < W.heap.size := by obtain ⟨m, hm⟩ := k0; exact DataW.trod_lt m _ _ _ hm
  obtain ⟨z0, rfl, w0⟩ := row_open Try.underlying22 Try.underlying5 (by kernel_rfl) h0
  obtain ⟨A1, len1, cap1, rfl⟩ := okWide_slice Try.underlying22 (hval 1 22 v1 rfl rfl)
  have k1 := h1
  have lt1 : ∀ x ∈ p1, x.block < W.heap.size := by obtain ⟨m, hm⟩ := k1; exact DataW.trod_lt m _ _ _ hm
  obtain ⟨z1, rfl, w1⟩ := row_open Try.underlying22 Try.underlying5 (by kernel_rfl) h1
  clear hA0 hval0
  refine (walk_FnNinesTimes A0 cap0 z0 A1 cap1 z1 W w0 w1).mono fun e W' ⟨he, bel⟩ => ?_
  subst he
  exact ⟨_, rfl, _, _, _, [], _, [], hW', trodAll_mk1 (shut_bool Try.underlying4 _), (trodAll_cons_mk (Below.trod laidOut (by kernel_rfl) (of_decide_eq_true (by kernel_rfl)) k0 bel lt0) (trodAll_cons_mk (Below.trod laidOut (by kernel_rfl) (of_decide_eq_true (by kernel_rfl)) k1 bel lt1) trodAll_mk0)), rfl, bel.frame _, fun h => by cases h⟩

theorem over_FnNinesTimes : Rows.fnNinesTimesRow.holds Try.pinned (OpenSpec.ofChange Rows.fnNinesTimesSpec) :=
  OpenClaim.holds_of_wide 6 Try.f6 rfl rfl rfl rfl rfl rfl rfl ⟨rfl, rfl, rfl, rfl, rfl⟩ rfl rfl rfl rfl rfl (by kernel_rfl) Try.func6 (by kernel_rfl)
    (of_decide_eq_true (by kernel_rfl)) (by unfold Func.isWrapper; first | (rw [if_pos (by decide +kernel)]; kernel_rfl) | (rw [if_neg (by decide +kernel)]; exact ⟨rfl, rfl⟩))
    (fun os started H enc _ => lifted_FnNinesTimes os started H enc)

/-- The statement. -/
theorem holds_FnNinesTimes : Rows.FnNinesTimesSaid := over_FnNinesTimes
#print axioms holds_FnNinesTimes
end Go.Proofs.Ytceigfdmaeanaab
