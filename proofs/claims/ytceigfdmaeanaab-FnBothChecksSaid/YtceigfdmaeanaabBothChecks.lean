/- The law FnBothChecks returns true for every input: both checks together find more. No condition. -/
import Derived.Test.YtceigfdmaeanaabChkL
namespace Go.Proofs.Ytceigfdmaeanaab
open Go.ChangeShapes Go.WideShapes Go.ChangeAt Go.RowKit

set_option maxRecDepth 100000 in
set_option maxHeartbeats 2000000 in
theorem walk_FnBothChecks (A0 : Option Addr) (cap0 : Nat) (z0 : List Int) (w : World) (h0 : Came .u8 w A0 cap0 z0) :
    Calls Try.prog 4 #[.slice A0 z0.length cap0] w fun e w' => e = .returned (.bool true) ∧ Below w.heap.size w w' := by
  have hm := h0.ml
  by_cases hbig : 1048576 < z0.length
  · go_enter Try.func4, Try.ntmps4
    go_wp2
    go_ret
    exact ⟨rfl, Below.refl _ _⟩
  go_enter Try.func4, Try.ntmps4
  go_wp2_with fail
  refine (DrawElevensTimes _ _ _ _ h0).mono ?_
  rintro e w1 ⟨A, c, xs, B, d, ys, C, f, zs, rfl, hx1, hy1, hz1, lx, ly, lz, b1⟩
  go_wp2_with fail
  refine (impl_ElevensTimes _ _ _ _ _ _ _ _ _ _ hx1 hy1 hz1 (by omega) (by omega) (by omega)).mono ?_
  rintro e w2 ⟨rfl, b2⟩
  have R2 := Lib.hid (bstep b1 b2)
  have HX := Lib.hid (hx1.below b2)
  have HY := Lib.hid (hy1.below b2)
  have HZ := Lib.hid (hz1.below b2)
  clear hx1 hy1 hz1 b1 b2
  go_wp2_with fail
  refine (spec_ElevensTimes _ _ _ _ _ _ _ _ _ _ HX.out HY.out HZ.out (by omega) (by omega) (by omega)).mono ?_
  rintro e w' ⟨rfl, rfl⟩
  cases hb : etimB xs ys zs
  · go_wp2_with fail
    go_ret
    exact ⟨rfl, R2.out⟩
  obtain ⟨n1, n2, n3, _⟩ := etimB_t hb
  have va := numV_bd n1
  have vb := numV_bd n2
  have vc := numV_bd n3
  have ⟨p0, p1⟩ := prod_bd n1 n2
  have v1 : IntKind.i64.wrap (numV xs * numV ys) = numV xs * numV ys := IntWalk.i64_in _ (by omega)
  have HD := Lib.hid (etim_dvd hb)
  go_wp2_with fail
  refine (impl_NumeralValue _ _ _ _ HZ.out (by omega)).mono ?_
  rintro e w3 ⟨rfl, b3⟩
  have B3 := Lib.hid (b3)
  clear b3
  go_wp2_with fail
  refine (impl_NumeralValue _ _ _ _ (HX.out.below B3.out) (by omega)).mono ?_
  rintro e w4 ⟨rfl, b4⟩
  have B4 := Lib.hid (bstep B3.out b4)
  clear b4
  go_wp2_with fail
  refine (impl_NumeralValue _ _ _ _ (HY.out.below B4.out) (by omega)).mono ?_
  rintro e w5 ⟨rfl, b5⟩
  have B5 := Lib.hid (bstep B4.out b5)
  clear b5
  go_wp2_with fail
  refine (impl_NinesTimes _ _ _ _ _ _ _ _ _ _ (HX.out.below B5.out) (HY.out.below B5.out) (HZ.out.below B5.out) (by omega) (by omega) (by omega)).mono ?_
  rintro e w6 ⟨rfl, b6⟩
  cases hn : ntimB xs ys zs
  · go_wp2_with fail
    go_ret
    exact ⟨rfl, bstep R2.out (bstep B5.out b6)⟩
  · have h9 := ntim_dvd hn
    have h11 := HD.out
    have h99 : (99 : Int) ∣ numV zs - numV xs * numV ys := by omega
    have t1 : ((numV zs - numV xs * numV ys).tmod 99 == 0) = true := by rw [beq_iff_eq]; exact Int.tmod_eq_zero_of_dvd h99
    by_cases hz : numV zs - numV xs * numV ys = 0
    · have t2 : (numV zs - numV xs * numV ys == 0) = true := by rw [beq_iff_eq]; exact hz
      clear h9 h11 h99 hz
      go_wp2_with fail
      go_ret
      exact ⟨rfl, bstep R2.out (bstep B5.out b6)⟩
    have t2 : (numV zs - numV xs * numV ys == 0) = false := beq_eq_false_iff_ne.2 hz
    by_cases hp : 99 ≤ numV zs - numV xs * numV ys
    · have t3 : decide (99 ≤ numV zs - numV xs * numV ys) = true := by simpa using hp
      clear h9 h11 h99 hz hp
      go_wp2_with fail
      go_ret
      exact ⟨rfl, bstep R2.out (bstep B5.out b6)⟩
    · have t3 : decide (99 ≤ numV zs - numV xs * numV ys) = false := by simpa using hp
      have t4 : decide (numV zs - numV xs * numV ys ≤ -99) = true := by simp; omega
      clear h9 h11 h99 hz hp
      go_wp2_with fail
      go_ret
      exact ⟨rfl, bstep R2.out (bstep B5.out b6)⟩

/-! The row's step, after the kit's own shell of such a proof. -/
set_option linter.unusedVariables false in
set_option maxRecDepth 100000 in
theorem lifted_FnBothChecks (os : Os) (started : os.Started) (H : Type) (enc : TypeId × Value → H) :
    ReturnsInHanded {} Try.checked os 4 .any (Rows.fnBothChecksSpec.pre6 enc Try.prog Try.f4 Rows.fnBothChecksRow.domain false) (Rows.fnBothChecksSpec.post enc Try.prog Try.f4 false true false false) := by
  refine returnsInHanded_of_change (C := Try.checked) own started (by kernel_rfl) Try.func4
    (ChangeSpec.witness6 (enc := enc) (C := Try.checked) false ⟨#[], #[.slice none 0 0], []⟩ 8 (by kernel_rfl) (by kernel_rfl) (by kernel_rfl) (by kernel_rfl)) ?_
  intro W base args ds gs before hval0 hW hcnd _
  have hval : ∀ (j : Nat) t v, Try.f4.params[j]? = some t → args[j]? = some v → Value.okWide Try.prog W .any base t v := hval0
  have hW' := hW
  obtain ⟨p, q, hA0, hV, rfl, hfz, hnd⟩ := hW
  have hA : DataW.TrodAll enc Try.prog W 0 (fun _ => true) true Try.f4.params.toList args.toList ds p := hA0
  rw [Try.params4] at hA hval
  obtain ⟨v0, vs0, d0, ds0, p0, q0, hargs, rfl, rfl, h0, r0⟩ := trodAll_cons hA
  obtain ⟨rfl, rfl, rfl⟩ := trodAll_nil r0
  obtain rfl : args = #[v0] := by cases args; simp_all
  obtain ⟨rfl, rfl⟩ := trodVars_none hV
  obtain ⟨A0, len0, cap0, rfl⟩ := okWide_slice Try.underlying22 (hval 0 22 v0 rfl rfl)
  have k0 := h0
  have lt0 : ∀ x ∈ p0, x.block < W.heap.size := by obtain ⟨m, hm⟩ := k0; exact DataW.trod_lt m _ _ _ hm
  obtain ⟨z0, rfl, w0⟩ := row_open Try.underlying22 Try.underlying5 (by kernel_rfl) h0
  clear hA0 hval0
  refine (walk_FnBothChecks A0 cap0 z0 W w0).mono fun e W' ⟨he, bel⟩ => ?_
  subst he
  exact ⟨_, rfl, _, _, _, [], _, [], hW', trodAll_mk1 (shut_bool Try.underlying4 _), (trodAll_cons_mk (Below.trod laidOut (by kernel_rfl) (of_decide_eq_true (by kernel_rfl)) k0 bel lt0) trodAll_mk0), rfl, bel.frame _, fun h => by cases h⟩

theorem over_FnBothChecks : Rows.fnBothChecksRow.holds Try.pinned (OpenSpec.ofChange Rows.fnBothChecksSpec) :=
  OpenClaim.holds_of_wide 4 Try.f4 rfl rfl rfl rfl rfl rfl rfl ⟨rfl, rfl, rfl, rfl, rfl⟩ rfl rfl rfl rfl rfl (by kernel_rfl) Try.func4 (by kernel_rfl)
    (of_decide_eq_true (by kernel_rfl)) (by unfold Func.isWrapper; first | (rw [if_pos (by decide +kernel)]; kernel_rfl) | (rw [if_neg (by decide +kernel)]; exact ⟨rfl, rfl⟩))
    (fun os started H enc _ => lifted_FnBothChecks os started H enc)

/-- The statement. -/
theorem holds_FnBothChecks : Rows.FnBothChecksSaid := over_FnBothChecks
#print axioms holds_FnBothChecks
end Go.Proofs.Ytceigfdmaeanaab
