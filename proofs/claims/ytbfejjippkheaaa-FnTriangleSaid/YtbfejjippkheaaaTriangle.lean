/- The law FnTriangle returns true for every input: triangles grow by their number. No condition. -/
import Derived.Test.YtbfejjippkheaaaInts
import Derived.Test.YtbfejjippkheaaaTwo
namespace Go.Proofs.Ytbfejjippkheaaa
open Go.ChangeShapes Go.WideShapes Go.ChangeAt Go.RowKit
open Go.ChangeMaps (open_string shut_string)

theorem tri_1 (n : Int) : 2 * (n * (n + 1) / 2) = n * (n + 1) := by
  have e : n * (n + 1) = n * n + n := by rw [Int.mul_add, Int.mul_one]
  have h : (n * n + n) % 2 = 0 := by
    rcases (show n % 2 = 0 ∨ n % 2 = 1 by omega) with h | h
    · rw [Int.add_emod, Int.mul_emod, h]; rfl
    · rw [Int.add_emod, Int.mul_emod, h]; rfl
  rw [e]; omega
theorem tri_2 (n : Int) : (n + 1) * (n + 1 + 1) / 2 = n * (n + 1) / 2 + n + 1 := by
  have h1 := tri_1 n
  have h2 := tri_1 (n + 1)
  have e : (n + 1) * (n + 1 + 1) = n * (n + 1) + 2 * (n + 1) := by rw [Int.mul_comm n (n + 1), ← Int.mul_comm (n + 1) 2, ← Int.mul_add]; congr 1; omega
  omega
theorem tri_3 (n : Int) : (n + 1) * (n + 1 + 1) / 2 + n * (n + 1) / 2 = (n + 1) * (n + 1) := by
  have h1 := tri_1 n
  have h2 := tri_2 n
  have e : (n + 1) * (n + 1) = n * (n + 1) + (n + 1) := by rw [Int.add_mul, Int.one_mul]
  omega

set_option maxRecDepth 100000 in
set_option maxHeartbeats 400000 in
theorem walk_FnTriangle (A0 : Option Addr) (cap0 : Nat) (z0 : List Int) (w : World) (h0 : Came .u8 w A0 cap0 z0) :
    Calls Try.prog 8 #[.slice A0 z0.length cap0] w fun e w' => e = .returned (.bool true) ∧ Below w.heap.size w w' := by
  have hm := h0.ml
  by_cases hbig : 1048576 < z0.length
  · go_enter Try.func8, Try.ntmps8
    go_wp2
    go_ret
    exact ⟨rfl, Below.refl _ _⟩
  · go_enter Try.func8, Try.ntmps8
    go_wp2_with fail
    refine (DrawTriangleOf _ _ _ _ h0).mono ?_
    rintro e w1 ⟨n, ⟨n0, n1⟩, rfl, b1⟩
    cases hn : inB n 0 100000
    · have hq : tOf n = -1 := by simp [tOf, hn]
      go_wp2_with fail
      refine (impl_TriangleOf _ _).mono ?_
      rintro e w' ⟨rfl, rfl⟩
      rw [hq]
      go_wp2_with fail
      refine (spec_TriangleOf _ _).mono ?_
      rintro e w' ⟨rfl, rfl⟩
      rw [hq]
      go_wp2_with fail
      go_ret
      exact ⟨rfl, b1⟩
    · have ⟨m0, m1⟩ := inB_t hn
      have p0 : 0 ≤ n * (n + 1) := Int.mul_nonneg m0 (by omega)
      have p1 : n * (n + 1) ≤ 100000 * 100001 := Int.mul_le_mul (by omega) (by omega) (by omega) (by omega)
      have s0 : 0 ≤ (n + 1) * (n + 1) := Int.mul_nonneg (by omega) (by omega)
      have s1 : (n + 1) * (n + 1) ≤ 100001 * 100001 := Int.mul_le_mul (by omega) (by omega) (by omega) (by omega)
      obtain ⟨t, ht⟩ : ∃ t, t = n * (n + 1) / 2 := ⟨_, rfl⟩
      have hq : tOf n = t := by rw [ht]; simp [tOf, hn]
      have t0 : 0 ≤ t := by omega
      have t1 : t ≤ 5000050000 := by omega
      have e1 : (2 * t == n * (n + 1)) = true := by rw [beq_iff_eq, ht]; exact tri_1 n
      have HT := Lib.hid ht
      have HQ := Lib.hid hq
      clear hq ht
      go_wp2_with fail
      refine (impl_TriangleOf _ _).mono ?_
      rintro e w' ⟨rfl, rfl⟩
      rw [HQ.out]
      go_wp2_with fail
      refine (spec_TriangleOf _ _).mono ?_
      rintro e w' ⟨rfl, rfl⟩
      rw [HQ.out]
      go_wp2_with fail
      refine (impl_TriangleOf _ _).mono ?_
      rintro e w' ⟨rfl, rfl⟩
      by_cases hx : n = 100000
      · subst hx
        rw [show tOf (100000 + 1) = -1 by simp [tOf, inB]]
        have ht2 : t = 5000050000 := by rw [HT.out]; rfl
        clear HT HQ e1 p0 p1 s0 s1
        subst ht2
        go_wp2_with fail
        go_ret
        exact ⟨rfl, b1⟩
      · have d1 : (n == 100000) = false := beq_eq_false_iff_ne.2 hx
        obtain ⟨u, hu⟩ : ∃ u, u = (n + 1) * (n + 1 + 1) / 2 := ⟨_, rfl⟩
        have hq : tOf (n + 1) = u := by rw [hu, tOf, inB_of (by omega) (by omega)]; rfl
        rw [hq]
        have e2 : (u == t + n + 1) = true := by rw [beq_iff_eq, hu, HT.out]; exact tri_2 n
        have e3 : (u + t == (n + 1) * (n + 1)) = true := by rw [beq_iff_eq, hu, HT.out]; exact tri_3 n
        have u0 : 0 ≤ u := by have := beq_iff_eq.1 e2; omega
        have u1 : u ≤ 5000150001 := by have := beq_iff_eq.1 e2; omega
        clear hx hu hq
        go_wp2_with fail
        go_ret
        exact ⟨rfl, b1⟩

/-! The row's step, after the kit's own shell of such a proof. -/
set_option linter.unusedVariables false in
set_option maxRecDepth 100000 in
theorem lifted_FnTriangle (os : Os) (started : os.Started) (H : Type) (enc : TypeId × Value → H) :
    ReturnsInHanded {} Try.checked os 8 .any (Rows.fnTriangleSpec.pre6 enc Try.prog Try.f8 Rows.fnTriangleRow.domain false) (Rows.fnTriangleSpec.post enc Try.prog Try.f8 false true false false) := by
  refine returnsInHanded_of_change (C := Try.checked) own started (by kernel_rfl) Try.func8
    (ChangeSpec.witness6 (enc := enc) (C := Try.checked) false ⟨#[], #[.slice none 0 0], []⟩ 8 (by kernel_rfl) (by kernel_rfl) (by kernel_rfl) (by kernel_rfl)) ?_
  intro W base args ds gs before hval0 hW hcnd _
  have hval : ∀ (j : Nat) t v, Try.f8.params[j]? = some t → args[j]? = some v → Value.okWide Try.prog W .any base t v := hval0
  have hW' := hW
  obtain ⟨p, q, hA0, hV, rfl, hfz, hnd⟩ := hW
  have hA : DataW.TrodAll enc Try.prog W 0 (fun _ => true) true Try.f8.params.toList args.toList ds p := hA0
  rw [Try.params8] at hA hval
  obtain ⟨v0, vs0, d0, ds0, p0, q0, hargs, rfl, rfl, h0, r0⟩ := trodAll_cons hA
  obtain ⟨rfl, rfl, rfl⟩ := trodAll_nil r0
  obtain rfl : args = #[v0] := by cases args; simp_all
  obtain ⟨rfl, rfl⟩ := trodVars_none hV
  obtain ⟨A0, len0, cap0, rfl⟩ := okWide_slice Try.underlying26 (hval 0 26 v0 rfl rfl)
  have k0 := h0
  have lt0 : ∀ x ∈ p0, x.block < W.heap.size := by obtain ⟨m, hm⟩ := k0; exact DataW.trod_lt m _ _ _ hm
  obtain ⟨z0, rfl, w0⟩ := row_open Try.underlying26 Try.underlying5 (by kernel_rfl) h0
  clear hA0 hval0
  refine (walk_FnTriangle A0 cap0 z0 W w0).mono fun e W' ⟨he, bel⟩ => ?_
  subst he
  exact ⟨_, rfl, _, _, _, [], _, [], hW', trodAll_mk1 (shut_bool Try.underlying4 _), (trodAll_cons_mk (Below.trod laidOut (by kernel_rfl) (of_decide_eq_true (by kernel_rfl)) k0 bel lt0) trodAll_mk0), rfl, bel.frame _, fun h => by cases h⟩

theorem over_FnTriangle : Rows.fnTriangleRow.holds Try.pinned (OpenSpec.ofChange Rows.fnTriangleSpec) :=
  OpenClaim.holds_of_wide 8 Try.f8 rfl rfl rfl rfl rfl rfl rfl ⟨rfl, rfl, rfl, rfl, rfl⟩ rfl rfl rfl rfl rfl (by kernel_rfl) Try.func8 (by kernel_rfl)
    (of_decide_eq_true (by kernel_rfl)) (by unfold Func.isWrapper; first | (rw [if_pos (by decide +kernel)]; kernel_rfl) | (rw [if_neg (by decide +kernel)]; exact ⟨rfl, rfl⟩))
    (fun os started H enc _ => lifted_FnTriangle os started H enc)

/-- The statement. -/
theorem holds_FnTriangle : Rows.FnTriangleSaid := over_FnTriangle
#print axioms holds_FnTriangle
end Go.Proofs.Ytbfejjippkheaaa
