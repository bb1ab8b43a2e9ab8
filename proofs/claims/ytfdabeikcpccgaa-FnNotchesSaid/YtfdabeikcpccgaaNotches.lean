/- The law FnNotches returns true for every input: notches tell their worth. No condition. -/
import Derived.Test.YtfdabeikcpccgaaNotLaw
import Derived.Test.YtfdabeikcpccgaaDrawNo
import Derived.Test.YtfdabeikcpccgaaExactNotchesOf
namespace Go.Proofs.Ytfdabeikcpccgaa
open Go.ChangeShapes Go.WideShapes Go.ChangeAt Go.RowKit
open Go.ChangeMaps (open_string shut_string)

set_option maxRecDepth 100000 in
theorem walk_FnNotches (A0 : Option Addr) (cap0 : Nat) (z0 : List Int) (w : World) (h0 : Came .u8 w A0 cap0 z0) :
    Calls Try.prog 13 #[.slice A0 z0.length cap0] w fun e w' => e = .returned (.bool true) ∧ Below w.heap.size w w' := by
  have hm := h0.ml
  by_cases hbig : 1048576 < z0.length
  · go_enter Try.func13, Try.ntmps13
    go_wp2
    go_ret
    exact ⟨rfl, Below.refl _ _⟩
  · go_enter Try.func13, Try.ntmps13
    go_wp2_with fail
    refine (DrawNotchesOf _ _ _ _ h0).mono ?_
    rintro e w1 ⟨n, ⟨n0, n1⟩, rfl, b1⟩
    cases hn : inB n 0 9999
    · go_wp2_with fail
      refine (impl_NotchesOf_no _ _ hn).mono ?_
      rintro e w2 ⟨rfl, b2⟩
      go_wp2_with fail
      refine (spec_NotchesOf_no _ _ hn).mono ?_
      rintro e w3 ⟨rfl, b3⟩
      go_wp2_with fail
      go_ret
      exact ⟨rfl, bstep (bstep b1 b2) b3⟩
    · obtain ⟨x, rfl, hx⟩ := inB_nat hn
      clear hn n0 n1
      go_wp2_with fail
      refine (impl_NotchesOf_yes _ _ hx).mono ?_
      rintro e w2 ⟨rfl, b2⟩
      go_wp2_with fail
      refine (spec_NotchesOf_yes _ _ hx).mono ?_
      rintro e w3 ⟨rfl, b3⟩
      have HB := Lib.hid (bstep (bstep b1 b2) b3)
      clear b1 b2 b3
      go_wp2_with fail
      go_loopw [8, 9] (fun q i wr => ∃ (m s : Nat), i = .int .i64 m ∧ q = .int .i64 s ∧ m ≤ 9999 ∧ s + dsum m = dsum x ∧ wr = w3) (fun _ i _ => (intOf i).toNat)
      case atStart => exact ⟨x, 0, rfl, rfl, hx, by simp, rfl⟩
      case round =>
        obtain ⟨m, s, rfl, rfl, hm9, hs, rfl⟩ := hrel
        have HS := Lib.hid hs
        have hs36 : s ≤ 36 := by have := dsum_le x hx; omega
        clear hs
        by_cases hp : m = 0
        · subst hp
          have hq : dsum x = s := by have := HS.out; simp [dsum] at this; simp [dsum]; omega
          go_wp2_with fail
          refine (impl_NotchesWorth _ _ (by have := notL_dsum x; have := dsum_le x hx; omega)).mono ?_
          rintro e w4 ⟨rfl, b4⟩
          rw [notW_notL x hx]
          have hz : (str (notL x)).size = s := by rw [notL_dsum, hq]
          have hsz : ((str (notL x)).size == s) = true := beq_iff_eq.2 hz
          have hsi : (((str (notL x)).size : Int) == (s : Int)) = true := by rw [hz]; exact beq_iff_eq.2 rfl
          go_wp2_with fail
          refine (impl_NotchesValid _ _ (by have := notL_dsum x; have := dsum_le x hx; omega)).mono ?_
          rintro e w5 ⟨rfl, b5⟩
          rw [notB_notL x hx]
          go_wp2_with fail
          go_ret
          exact ⟨rfl, bstep (bstep HB.out b4) b5⟩
        · have hpos : 0 < m := by omega
          go_wp2_with fail
          go_roundw
          case rel => exact ⟨m / 10, s + m % 10, rfl, by go_num, by omega, by have := HS.out; have := dsum_step m hm9; omega, by first | rfl | trivial⟩
          case measure => simp [intOf]; omega

/-! The row's step, after the kit's own shell of such a proof. -/
set_option linter.unusedVariables false in
set_option maxRecDepth 100000 in
theorem lifted_FnNotches (os : Os) (started : os.Started) (H : Type) (enc : TypeId × Value → H) :
    ReturnsInHanded {} Try.checked os 13 .any (Rows.fnNotchesSpec.pre6 enc Try.prog Try.f13 Rows.fnNotchesRow.domain false) (Rows.fnNotchesSpec.post enc Try.prog Try.f13 false true false false) := by
  refine returnsInHanded_of_change (C := Try.checked) own started (by kernel_rfl) Try.func13
    (ChangeSpec.witness6 (enc := enc) (C := Try.checked) false ⟨#[], #[.slice none 0 0], []⟩ 8 (by kernel_rfl) (by kernel_rfl) (by kernel_rfl) (by kernel_rfl)) ?_
  intro W base args ds gs before hval0 hW hcnd _
  have hval : ∀ (j : Nat) t v, Try.f13.params[j]? = some t → args[j]? = some v → Value.okWide Try.prog W .any base t v := hval0
  have hW' := hW
  obtain ⟨p, q, hA0, hV, rfl, hfz, hnd⟩ := hW
  have hA : DataW.TrodAll enc Try.prog W 0 (fun _ => true) true Try.f13.params.toList args.toList ds p := hA0
  rw [Try.params13] at hA hval
  obtain ⟨v0, vs0, d0, ds0, p0, q0, hargs, rfl, rfl, h0, r0⟩ := trodAll_cons hA
  obtain ⟨rfl, rfl, rfl⟩ := trodAll_nil r0
  obtain rfl : args = #[v0] := by cases args; simp_all
  obtain ⟨rfl, rfl⟩ := trodVars_none hV
  obtain ⟨A0, len0, cap0, rfl⟩ := okWide_slice Try.underlying43 (hval 0 43 v0 rfl rfl)
  have k0 := h0
  have lt0 : ∀ x ∈ p0, x.block < W.heap.size := by obtain ⟨m, hm⟩ := k0; exact DataW.trod_lt m _ _ _ hm
  obtain ⟨z0, rfl, w0⟩ := row_open Try.underlying43 Try.underlying5 (by kernel_rfl) h0
  clear hA0 hval0
  refine (walk_FnNotches A0 cap0 z0 W w0).mono fun e W' ⟨he, bel⟩ => ?_
  subst he
  exact ⟨_, rfl, _, _, _, [], _, [], hW', trodAll_mk1 (shut_bool Try.underlying4 _), (trodAll_cons_mk (Below.trod laidOut (by kernel_rfl) (of_decide_eq_true (by kernel_rfl)) k0 bel lt0) trodAll_mk0), rfl, bel.frame _, fun h => by cases h⟩

theorem over_FnNotches : Rows.fnNotchesRow.holds Try.pinned (OpenSpec.ofChange Rows.fnNotchesSpec) :=
  OpenClaim.holds_of_wide 13 Try.f13 rfl rfl rfl rfl rfl rfl rfl ⟨rfl, rfl, rfl, rfl, rfl⟩ rfl rfl rfl rfl rfl (by kernel_rfl) Try.func13 (by kernel_rfl)
    (of_decide_eq_true (by kernel_rfl)) (by unfold Func.isWrapper; first | (rw [if_pos (by decide +kernel)]; kernel_rfl) | (rw [if_neg (by decide +kernel)]; exact ⟨rfl, rfl⟩))
    (fun os started H enc _ => lifted_FnNotches os started H enc)

/-- The statement. -/
theorem holds_FnNotches : Rows.FnNotchesSaid := over_FnNotches
#print axioms holds_FnNotches
end Go.Proofs.Ytfdabeikcpccgaa
