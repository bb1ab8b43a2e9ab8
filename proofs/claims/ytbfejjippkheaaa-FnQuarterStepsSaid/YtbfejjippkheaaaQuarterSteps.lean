/- The law FnQuarterSteps returns true for every input: steps make quarter squares. No condition. -/
import Derived.Test.YtbfejjippkheaaaSteps
import Derived.Test.YtbfejjippkheaaaDrawQ
namespace Go.Proofs.Ytbfejjippkheaaa
open Go.ChangeShapes Go.WideShapes Go.ChangeAt Go.RowKit
open Go.ChangeMaps (open_string shut_string)

theorem sq_split (n : Int) : ∃ m : Int, (n = 2 * m ∧ n * n = 4 * (m * m)) ∨ (n = 2 * m + 1 ∧ n * n = 4 * (m * m + m) + 1) := by
  refine ⟨n / 2, ?_⟩
  generalize hm : n / 2 = m
  rcases (show n = 2 * m ∨ n = 2 * m + 1 by omega) with h | h
  · left; refine ⟨h, ?_⟩; rw [h, Int.mul_assoc, Int.mul_left_comm m 2 m]; omega
  · right; refine ⟨h, ?_⟩
    rw [h, Int.mul_add, Int.add_mul, Int.mul_assoc, Int.mul_left_comm m 2 m]; omega
theorem quarter_2 (n : Int) : (n + 1) * (n + 1) / 4 = n * n / 4 + (n + 1) / 2 := by
  have e : (n + 1) * (n + 1) = n * n + 2 * n + 1 := by rw [Int.mul_add, Int.add_mul]; omega
  rw [e]
  obtain ⟨m, ⟨h1, h2⟩ | ⟨h1, h2⟩⟩ := sq_split n <;> omega
theorem qst_nth (N j : Nat) (h : j < N) : nth (qst N) j = ((j : Int) + 1) / 2 := by
  have e : nth (qst N) j = qstep j := by simp [nth, qst, h]
  rw [e, qstep, quarter_2]; omega

theorem sumOf (N : Nat) (A : Option Addr) (c : Nat) (w : World) (hN : N ≤ 100) (hr : Rd .i64 w A (qst N)) :
    Calls Try.prog 29 #[.slice A N c] w fun e w' => e = .returned (.int .i64 ((N : Int) * (N : Int) / 4)) ∧ w = w' := by
  go_enter Try.func29, Try.ntmps29
  go_wp2
  go_loop [3, 4] (fun s i => ∃ j : Nat, j ≤ N ∧ i = .int .i64 j ∧ s = .int .i64 ((j : Int) * (j : Int) / 4)) (fun _ i => N - (intOf i).toNat)
  case atStart => exact ⟨0, Nat.zero_le _, rfl, rfl⟩
  case round =>
    obtain ⟨j, hj, rfl, rfl⟩ := hrel
    have ⟨s0, s1⟩ := sq_bd j 100 (by omega) (by omega)
    by_cases hlt : j < N
    · obtain ⟨b, off, rfl, hbl, hc⟩ := hr.at (i := j) (by rw [qst_len]; exact hlt)
      rw [qst_nth N j hlt] at hc
      have hq := Lib.hid (quarter_2 j)
      go_wp2
      go_round
      case rel => exact ⟨j + 1, by omega, by go_num, by rw [← hq.out]; go_num⟩
      case measure => simp [intOf]; omega
    · obtain rfl : j = N := by omega
      go_wp2
      go_ret
      exact ⟨rfl, rfl⟩

set_option maxRecDepth 100000 in
theorem walk_FnQuarterSteps (A0 : Option Addr) (cap0 : Nat) (z0 : List Int) (w : World) (h0 : Came .u8 w A0 cap0 z0) :
    Calls Try.prog 10 #[.slice A0 z0.length cap0] w fun e w' => e = .returned (.bool true) ∧ Below w.heap.size w w' := by
  have hm := h0.ml
  by_cases hbig : 1048576 < z0.length
  · go_enter Try.func10, Try.ntmps10
    go_wp2
    go_ret
    exact ⟨rfl, Below.refl _ _⟩
  · go_enter Try.func10, Try.ntmps10
    go_wp2_with fail
    refine (DrawQuarterSteps _ _ _ _ h0).mono ?_
    rintro e w1 ⟨n, ⟨n0, n1⟩, rfl, b1⟩
    go_wp2_with fail
    refine (impl_QuarterSteps _ _).mono ?_
    rintro e w2 ⟨A2, c2, rfl, s2, b2⟩
    have r2 := bstep b1 b2
    go_wp2_with fail
    refine (spec_QuarterSteps _ _).mono ?_
    rintro e w3 ⟨A3, c3, rfl, s3, b3⟩
    have r3 := bstep r2 b3
    have X3 := s2.below b3
    have hl := qs_le n
    cases hn : inB n 0 100
    · go_wp2_with fail
      refine (sameInts_same _ _ _ _ _ _ X3.rd s3.rd (by omega)).mono ?_
      rintro e w' ⟨rfl, n4, rfl⟩
      have X4 := X3.drewN n4
      have W4 := s3.drewN n4
      go_wp2_with fail
      refine (sameInts_same _ _ _ _ _ _ X4.rd W4.rd (by omega)).mono ?_
      rintro e w' ⟨rfl, n5, rfl⟩
      go_wp2_with fail
      go_ret
      exact ⟨rfl, r3.drewN _⟩
    · have ⟨m0, m1⟩ := inB_t hn
      obtain ⟨N, rfl⟩ := Int.eq_ofNat_of_zero_le m0
      have HV := Lib.hid (show qs (N : Int) = qst N by simp [qs, hn])
      go_wp2_with fail
      refine (sameInts_same _ _ _ _ _ _ X3.rd s3.rd (by omega)).mono ?_
      rintro e w' ⟨rfl, n4, rfl⟩
      have X4 := (X3.drewN n4).rd
      have r4 := r3.drewN n4
      rw [HV.out] at X4
      rw [HV.out, qst_len]
      clear HV hl X3 s3 s2
      go_wp2_with fail
      go_loop [8] (fun i => ∃ j : Nat, j ≤ N ∧ i = .int .i64 j) (fun i => N - (intOf i).toNat)
      case atStart => exact ⟨0, Nat.zero_le _, rfl⟩
      case round =>
        obtain ⟨j, hj, rfl⟩ := hrel
        by_cases hlt : j < N
        · obtain ⟨b, off, rfl, hbl, hc⟩ := X4.at (i := j) (by rw [qst_len]; exact hlt)
          rw [qst_nth N j hlt] at hc
          go_wp2_with fail
          go_round
          case rel => exact ⟨j + 1, by omega, by go_num⟩
          case measure => simp [intOf]; omega
        · go_wp2_with fail
          refine (sumOf _ _ _ _ (by omega) X4).mono ?_
          rintro e w' ⟨rfl, rfl⟩
          have hq : qOf (N : Int) = (N : Int) * (N : Int) / 4 := by simp [qOf, inB_of (n := (N : Int)) (lo := 0) (hi := 200000) (by omega) (by omega)]
          have HQ := Lib.hid hq
          clear hq
          go_wp2_with fail
          refine (impl_QuarterOf _ _).mono ?_
          rintro e w' ⟨rfl, rfl⟩
          rw [HQ.out]
          go_wp2_with fail
          go_ret
          exact ⟨rfl, r4⟩

/-! The row's step, after the kit's own shell of such a proof. -/
set_option linter.unusedVariables false in
set_option maxRecDepth 100000 in
theorem lifted_FnQuarterSteps (os : Os) (started : os.Started) (H : Type) (enc : TypeId × Value → H) :
    ReturnsInHanded {} Try.checked os 10 .any (Rows.fnQuarterStepsSpec.pre6 enc Try.prog Try.f10 Rows.fnQuarterStepsRow.domain false) (Rows.fnQuarterStepsSpec.post enc Try.prog Try.f10 false true false false) := by
  refine returnsInHanded_of_change (C := Try.checked) own started (by kernel_rfl) Try.func10
    (ChangeSpec.witness6 (enc := enc) (C := Try.checked) false ⟨#[], #[.slice none 0 0], []⟩ 8 (by kernel_rfl) (by kernel_rfl) (by kernel_rfl) (by kernel_rfl)) ?_
  intro W base args ds gs before hval0 hW hcnd _
  have hval : ∀ (j : Nat) t v, Try.f10.params[j]? = some t → args[j]? = some v → Value.okWide Try.prog W .any base t v := hval0
  have hW' := hW
  obtain ⟨p, q, hA0, hV, rfl, hfz, hnd⟩ := hW
  have hA : DataW.TrodAll enc Try.prog W 0 (fun _ => true) true Try.f10.params.toList args.toList ds p := hA0
  rw [Try.params10] at hA hval
  obtain ⟨v0, vs0, d0, ds0, p0, q0, hargs, rfl, rfl, h0, r0⟩ := trodAll_cons hA
  obtain ⟨rfl, rfl, rfl⟩ := trodAll_nil r0
  obtain rfl : args = #[v0] := by cases args; simp_all
  obtain ⟨rfl, rfl⟩ := trodVars_none hV
  obtain ⟨A0, len0, cap0, rfl⟩ := okWide_slice Try.underlying26 (hval 0 26 v0 rfl rfl)
  have k0 := h0
  have lt0 : ∀ x ∈ p0, x.block < W.heap.size := by obtain ⟨m, hm⟩ := k0; exact DataW.trod_lt m _ _ _ hm
  obtain ⟨z0, rfl, w0⟩ := row_open Try.underlying26 Try.underlying5 (by kernel_rfl) h0
  clear hA0 hval0
  refine (walk_FnQuarterSteps A0 cap0 z0 W w0).mono fun e W' ⟨he, bel⟩ => ?_
  subst he
  exact ⟨_, rfl, _, _, _, [], _, [], hW', trodAll_mk1 (shut_bool Try.underlying4 _), (trodAll_cons_mk (Below.trod laidOut (by kernel_rfl) (of_decide_eq_true (by kernel_rfl)) k0 bel lt0) trodAll_mk0), rfl, bel.frame _, fun h => by cases h⟩

theorem over_FnQuarterSteps : Rows.fnQuarterStepsRow.holds Try.pinned (OpenSpec.ofChange Rows.fnQuarterStepsSpec) :=
  OpenClaim.holds_of_wide 10 Try.f10 rfl rfl rfl rfl rfl rfl rfl ⟨rfl, rfl, rfl, rfl, rfl⟩ rfl rfl rfl rfl rfl (by kernel_rfl) Try.func10 (by kernel_rfl)
    (of_decide_eq_true (by kernel_rfl)) (by unfold Func.isWrapper; first | (rw [if_pos (by decide +kernel)]; kernel_rfl) | (rw [if_neg (by decide +kernel)]; exact ⟨rfl, rfl⟩))
    (fun os started H enc _ => lifted_FnQuarterSteps os started H enc)

/-- The statement. -/
theorem holds_FnQuarterSteps : Rows.FnQuarterStepsSaid := over_FnQuarterSteps
#print axioms holds_FnQuarterSteps
end Go.Proofs.Ytbfejjippkheaaa
