/- The law FnQuarter returns true for every input: quarter squares grow by halves. No condition. -/
import Derived.Test.YtbfejjippkheaaaInts
import Derived.Test.YtbfejjippkheaaaDrawQ
namespace Go.Proofs.Ytbfejjippkheaaa
open Go.ChangeShapes Go.WideShapes Go.ChangeAt Go.RowKit
open Go.ChangeMaps (open_string shut_string)

theorem sq_split (n : Int) : ∃ m : Int, (n = 2 * m ∧ n * n = 4 * (m * m)) ∨ (n = 2 * m + 1 ∧ n * n = 4 * (m * m + m) + 1) := by
  refine ⟨n / 2, ?_⟩
  generalize hm : n / 2 = m
  rcases (show n = 2 * m ∨ n = 2 * m + 1 by omega) with h | h
  · left; refine ⟨h, ?_⟩; rw [h, Int.mul_assoc, Int.mul_left_comm m 2 m]; omega
  · right; refine ⟨h, ?_⟩
    rw [h, Int.mul_add, Int.add_mul, Int.mul_assoc, Int.mul_left_comm m 2 m]; omega
theorem quarter_1 (n : Int) : 4 * (n * n / 4) = n * n - n % 2 := by
  obtain ⟨m, ⟨h1, h2⟩ | ⟨h1, h2⟩⟩ := sq_split n <;> omega
theorem quarter_2 (n : Int) : (n + 1) * (n + 1) / 4 = n * n / 4 + (n + 1) / 2 := by
  have e : (n + 1) * (n + 1) = n * n + 2 * n + 1 := by rw [Int.mul_add, Int.add_mul]; omega
  rw [e]
  obtain ⟨m, ⟨h1, h2⟩ | ⟨h1, h2⟩⟩ := sq_split n <;> omega

set_option maxRecDepth 100000 in
theorem walk_FnQuarter (A0 : Option Addr) (cap0 : Nat) (z0 : List Int) (w : World) (h0 : Came .u8 w A0 cap0 z0) :
    Calls Try.prog 7 #[.slice A0 z0.length cap0] w fun e w' => e = .returned (.bool true) ∧ Below w.heap.size w w' := by
  have hm := h0.ml
  by_cases hbig : 1048576 < z0.length
  · go_enter Try.func7, Try.ntmps7
    go_wp2
    go_ret
    exact ⟨rfl, Below.refl _ _⟩
  · go_enter Try.func7, Try.ntmps7
    go_wp2_with fail
    refine (DrawQuarterOf _ _ _ _ h0).mono ?_
    rintro e w1 ⟨n, ⟨n0, n1⟩, rfl, b1⟩
    cases hn : inB n 0 200000
    · have hq : qOf n = -1 := by simp [qOf, hn]
      go_wp2_with fail
      refine (impl_QuarterOf _ _).mono ?_
      rintro e w' ⟨rfl, rfl⟩
      rw [hq]
      go_wp2_with fail
      refine (spec_QuarterOf _ _).mono ?_
      rintro e w' ⟨rfl, rfl⟩
      rw [hq]
      go_wp2_with fail
      go_ret
      exact ⟨rfl, b1⟩
    · have ⟨m0, m1⟩ := inB_t hn
      have hq : qOf n = n * n / 4 := by simp [qOf, hn]
      have HQ := Lib.hid hq
      clear hq
      have ⟨s0, s1⟩ := sq_bd n 200000 m0 m1
      have e1 : (4 * (n * n / 4) == n * n - n % 2) = true := beq_iff_eq.2 (quarter_1 n)
      go_wp2_with fail
      refine (impl_QuarterOf _ _).mono ?_
      rintro e w' ⟨rfl, rfl⟩
      rw [HQ.out]
      go_wp2_with fail
      refine (spec_QuarterOf _ _).mono ?_
      rintro e w' ⟨rfl, rfl⟩
      rw [HQ.out]
      go_wp2_with fail
      refine (impl_QuarterOf _ _).mono ?_
      rintro e w' ⟨rfl, rfl⟩
      by_cases hx : n = 200000
      · subst hx
        rw [show qOf (200000 + 1) = -1 by simp [qOf, inB]]
        go_wp2_with fail
        go_ret
        exact ⟨rfl, b1⟩
      · have d1 : (n == 200000) = false := beq_eq_false_iff_ne.2 hx
        rw [show qOf (n + 1) = (n + 1) * (n + 1) / 4 by rw [qOf, inB_of (by omega) (by omega)]; rfl]
        have e2 : ((n + 1) * (n + 1) / 4 == n * n / 4 + (n + 1) / 2) = true := beq_iff_eq.2 (quarter_2 n)
        clear hx
        go_wp2_with fail
        go_ret
        exact ⟨rfl, b1⟩

/-! The row's step, after the kit's own shell of such a proof. -/
set_option linter.unusedVariables false in
set_option maxRecDepth 100000 in
theorem lifted_FnQuarter (os : Os) (started : os.Started) (H : Type) (enc : TypeId × Value → H) :
    ReturnsInHanded {} Try.checked os 7 .any (Rows.fnQuarterSpec.pre6 enc Try.prog Try.f7 Rows.fnQuarterRow.domain false) (Rows.fnQuarterSpec.post enc Try.prog Try.f7 false true false false) := by
  refine returnsInHanded_of_change (C := Try.checked) own started (by kernel_rfl) Try.func7
    (ChangeSpec.witness6 (enc := enc) (C := Try.checked) false ⟨#[], #[.slice none 0 0], []⟩ 8 (by kernel_rfl) (by kernel_rfl) (by kernel_rfl) (by kernel_rfl)) ?_
  intro W base args ds gs before hval0 hW hcnd _
  have hval : ∀ (j : Nat) t v, Try.f7.params[j]? = some t → args[j]? = some v → Value.okWide Try.prog W .any base t v := hval0
  have hW' := hW
  obtain ⟨p, q, hA0, hV, rfl, hfz, hnd⟩ := hW
  have hA : DataW.TrodAll enc Try.prog W 0 (fun _ => true) true Try.f7.params.toList args.toList ds p := hA0
  rw [Try.params7] at hA hval
  obtain ⟨v0, vs0, d0, ds0, p0, q0, hargs, rfl, rfl, h0, r0⟩ := trodAll_cons hA
  obtain ⟨rfl, rfl, rfl⟩ := trodAll_nil r0
  obtain rfl : args = #[v0] := by cases args; simp_all
  obtain ⟨rfl, rfl⟩ := trodVars_none hV
  obtain ⟨A0, len0, cap0, rfl⟩ := okWide_slice Try.underlying26 (hval 0 26 v0 rfl rfl)
  have k0 := h0
  have lt0 : ∀ x ∈ p0, x.block < W.heap.size := by obtain ⟨m, hm⟩ := k0; exact DataW.trod_lt m _ _ _ hm
  obtain ⟨z0, rfl, w0⟩ := row_open Try.underlying26 Try.underlying5 (by kernel_rfl) h0
  clear hA0 hval0
  refine (walk_FnQuarter A0 cap0 z0 W w0).mono fun e W' ⟨he, bel⟩ => ?_
  subst he
  exact ⟨_, rfl, _, _, _, [], _, [], hW', trodAll_mk1 (shut_bool Try.underlying4 _), (trodAll_cons_mk (Below.trod laidOut (by kernel_rfl) (of_decide_eq_true (by kernel_rfl)) k0 bel lt0) trodAll_mk0), rfl, bel.frame _, fun h => by cases h⟩

theorem over_FnQuarter : Rows.fnQuarterRow.holds Try.pinned (OpenSpec.ofChange Rows.fnQuarterSpec) :=
  OpenClaim.holds_of_wide 7 Try.f7 rfl rfl rfl rfl rfl rfl rfl ⟨rfl, rfl, rfl, rfl, rfl⟩ rfl rfl rfl rfl rfl (by kernel_rfl) Try.func7 (by kernel_rfl)
    (of_decide_eq_true (by kernel_rfl)) (by unfold Func.isWrapper; first | (rw [if_pos (by decide +kernel)]; kernel_rfl) | (rw [if_neg (by decide +kernel)]; exact ⟨rfl, rfl⟩))
    (fun os started H enc _ => lifted_FnQuarter os started H enc)

/-- The statement. -/
theorem holds_FnQuarter : Rows.FnQuarterSaid := over_FnQuarter
#print axioms holds_FnQuarter
end Go.Proofs.Ytbfejjippkheaaa
