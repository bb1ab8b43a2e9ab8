/- The law FnQuarterTimes returns true for every input: quarter squares multiply. No condition. -/
import Derived.Test.YtbfejjippkheaaaInts
import Derived.Test.YtbfejjippkheaaaTwo
import Derived.Test.YtbfejjippkheaaaDup
namespace Go.Proofs.Ytbfejjippkheaaa
open Go.ChangeShapes Go.WideShapes Go.ChangeAt Go.RowKit
open Go.ChangeMaps (open_string shut_string)

theorem tri_1 (n : Int) : 2 * (n * (n + 1) / 2) = n * (n + 1) := by
  have e : n * (n + 1) = n * n + n := by rw [Int.mul_add, Int.mul_one]
  have h : (n * n + n) % 2 = 0 := by
    rcases (show n % 2 = 0 ∨ n % 2 = 1 by omega) with h | h
    · rw [Int.add_emod, Int.mul_emod, h]; rfl
    · rw [Int.add_emod, Int.mul_emod, h]; rfl
  rw [e]; omega
theorem qT_mul {a b : Int} (h : (inB a 0 100000 && inB b 0 100000) = true) : qT a b = a * b := by
  have e1 : (a + b) * (a + b) = a * a + 2 * (a * b) + b * b := by
    rw [Int.add_mul, Int.mul_add, Int.mul_add, Int.mul_comm b a]; omega
  have e2 : (a - b) * (a - b) = a * a - 2 * (a * b) + b * b := by
    rw [Int.sub_mul, Int.mul_sub, Int.mul_sub, Int.mul_comm b a]; omega
  unfold qT
  rw [if_pos h, e1, e2]
  omega
theorem tT_mul {a b : Int} (h : (inB a 0 100000 && inB b 0 100000) = true) : tT a b = a * b := by
  have e1 : (a + b) * (a + b + 1) = a * (a + 1) + b * (b + 1) + 2 * (a * b) := by
    rw [Int.mul_add, Int.mul_one, Int.mul_add a, Int.mul_one, Int.mul_add b, Int.mul_one, Int.add_mul, Int.mul_add, Int.mul_add, Int.mul_comm b a]; omega
  have h1 := tri_1 a
  have h2 := tri_1 b
  unfold tT
  rw [if_pos h, e1]
  omega

theorem DrawQuarterTimes (A : Option Addr) (c : Nat) (zs : List Int) (w : World) (h : Came .u8 w A c zs) :
    Calls Try.prog 30 #[.slice A zs.length c] w fun e w' => ∃ x y : Int, (-1 ≤ x ∧ x ≤ 100001 ∧ -1 ≤ y ∧ y ≤ 100001) ∧ e = .returned (.tuple #[.int .i64 x, .int .i64 y]) ∧ Below w.heap.size w w' := by
  go_enter Try.func30, Try.ntmps30
  go_wp2_with fail
  refine (l6Open _ _ _ _ h).mono ?_
  rintro e w1 ⟨rfl, r1, b1⟩
  go_wp2_with fail
  refine (l91Two _ _ _ r1 (by omega)).mono ?_
  rintro e w2 ⟨x, y, hxy, rfl, r2, g2⟩
  go_wp2_with fail
  go_ret2
  exact ⟨x, y, ⟨hxy.1, hxy.2.1, by omega, by omega⟩, rfl, grown_below b1 g2 (Nat.le_refl _)⟩

set_option maxRecDepth 100000 in
set_option maxHeartbeats 400000 in
theorem walk_FnQuarterTimes (A0 : Option Addr) (cap0 : Nat) (z0 : List Int) (w : World) (h0 : Came .u8 w A0 cap0 z0) :
    Calls Try.prog 11 #[.slice A0 z0.length cap0] w fun e w' => e = .returned (.bool true) ∧ Below w.heap.size w w' := by
  have hm := h0.ml
  by_cases hbig : 1048576 < z0.length
  · go_enter Try.func11, Try.ntmps11
    go_wp2
    go_ret
    exact ⟨rfl, Below.refl _ _⟩
  go_enter Try.func11, Try.ntmps11
  go_wp2_with fail
  refine (DrawQuarterTimes _ _ _ _ h0).mono ?_
  rintro e w1 ⟨a, b, ⟨a0, a1, b0, b1'⟩, rfl, b1⟩
  go_wp2_with fail
  refine (impl_QuarterTimes _ _ _).mono ?_
  rintro e w' ⟨rfl, rfl⟩
  go_wp2_with fail
  refine (spec_QuarterTimes _ _ _).mono ?_
  rintro e w' ⟨rfl, rfl⟩
  cases hin : inB a 0 100000 && inB b 0 100000
  · rw [show qT a b = -1 by simp [qT, hin]]
    go_wp2_with fail
    go_ret
    exact ⟨rfl, b1⟩
  · have hin2 : (inB b 0 100000 && inB a 0 100000) = true := by rw [Bool.and_comm]; exact hin
    rw [qT_mul hin]
    have HT := Lib.hid (tT_mul hin)
    have HQ2 : Hid (qT b a = a * b) := Lib.hid (by rw [qT_mul hin2, Int.mul_comm])
    have hin3 : inB a 0 100000 = true ∧ inB b 0 100000 = true := by simpa using hin
    have ⟨m0, m1⟩ := inB_t hin3.1
    have ⟨n0, n1⟩ := inB_t hin3.2
    clear hin hin2 hin3 a0 a1 b0 b1'
    obtain ⟨A, rfl⟩ := Int.eq_ofNat_of_zero_le m0
    obtain ⟨B, rfl⟩ := Int.eq_ofNat_of_zero_le n0
    obtain ⟨p, hp⟩ : ∃ p : Int, (A : Int) * (B : Int) = p := ⟨_, rfl⟩
    have HD : Hid (((B * A : Nat) : Int) = p) := Lib.hid (by rw [← hp, Int.natCast_mul, Int.mul_comm])
    have p0 : 0 ≤ p := by rw [← hp]; exact Int.mul_nonneg m0 n0
    have p1 : p ≤ 10000000000 := by
      rw [← hp]
      show (A : Int) * (B : Int) ≤ 100000 * 100000
      exact Int.mul_le_mul m1 n1 n0 (by omega)
    rw [hp] at HT HQ2 ⊢
    have hpw : IntKind.i64.wrap ((A : Int) * (B : Int)) = p := by rw [hp]; exact IntWalk.i64_in _ (by omega)
    have HP := Lib.hid hp
    clear hp
    have q0 : ¬ p < 0 := by omega
    have HB := Lib.hid b1
    clear b1
    by_cases ha : A = 0
    · subst ha
      obtain rfl : p = 0 := by rw [← HP.out]; simp
      have HT0 : Hid (tT 0 (B : Int) = 0) := Lib.hid HT.out
      have HQ0 : Hid (qT (B : Int) 0 = 0) := Lib.hid HQ2.out
      clear HT HQ2 HD HP hpw q0 p0 p1
      go_wp2_with fail
      refine (impl_TriangleTimes _ _ _).mono ?_
      rintro e w' ⟨rfl, rfl⟩
      rw [HT0.out]
      go_wp2_with fail
      refine (impl_QuarterTimes _ _ _).mono ?_
      rintro e w' ⟨rfl, rfl⟩
      rw [HQ0.out]
      go_wp2_with fail
      go_ret
      exact ⟨rfl, HB.out⟩
    have ha0 : ((A : Int) == 0) = false := beq_eq_false_iff_ne.2 (by omega)
    by_cases hb : B = 0
    · subst hb
      obtain rfl : p = 0 := by rw [← HP.out]; simp
      have HT0 : Hid (tT (A : Int) 0 = 0) := Lib.hid HT.out
      have HQ0 : Hid (qT 0 (A : Int) = 0) := Lib.hid HQ2.out
      clear HT HQ2 HD HP hpw q0 p0 p1
      go_wp2_with fail
      refine (impl_TriangleTimes _ _ _).mono ?_
      rintro e w' ⟨rfl, rfl⟩
      rw [HT0.out]
      go_wp2_with fail
      refine (impl_QuarterTimes _ _ _).mono ?_
      rintro e w' ⟨rfl, rfl⟩
      rw [HQ0.out]
      go_wp2_with fail
      go_ret
      exact ⟨rfl, HB.out⟩
    have hb0 : ((B : Int) == 0) = false := beq_eq_false_iff_ne.2 (by omega)
    have HDT := Lib.hid (DupTimes A B w1 (by simp [facB]; omega) (by simp [facB]; omega))
    go_wp2_with fail
    refine (impl_TriangleTimes _ _ _).mono ?_
    rintro e w' ⟨rfl, rfl⟩
    rw [HT.out]
    go_wp2_with fail
    refine HDT.out.mono ?_
    rintro e w2 ⟨rfl, b2⟩
    rw [HD.out]
    have HB2 := Lib.hid (HB.out.trans (b2.mono HB.out.size))
    clear b2
    go_wp2_with fail
    refine (impl_QuarterTimes _ _ _).mono ?_
    rintro e w' ⟨rfl, rfl⟩
    rw [HQ2.out]
    go_wp2_with fail
    go_ret
    exact ⟨rfl, HB2.out⟩

/-! The row's step, after the kit's own shell of such a proof. -/
set_option linter.unusedVariables false in
set_option maxRecDepth 100000 in
theorem lifted_FnQuarterTimes (os : Os) (started : os.Started) (H : Type) (enc : TypeId × Value → H) :
    ReturnsInHanded {} Try.checked os 11 .any (Rows.fnQuarterTimesSpec.pre6 enc Try.prog Try.f11 Rows.fnQuarterTimesRow.domain false) (Rows.fnQuarterTimesSpec.post enc Try.prog Try.f11 false true false false) := by
  refine returnsInHanded_of_change (C := Try.checked) own started (by kernel_rfl) Try.func11
    (ChangeSpec.witness6 (enc := enc) (C := Try.checked) false ⟨#[], #[.slice none 0 0], []⟩ 8 (by kernel_rfl) (by kernel_rfl) (by kernel_rfl) (by kernel_rfl)) ?_
  intro W base args ds gs before hval0 hW hcnd _
  have hval : ∀ (j : Nat) t v, Try.f11.params[j]? = some t → args[j]? = some v → Value.okWide Try.prog W .any base t v := hval0
  have hW' := hW
  obtain ⟨p, q, hA0, hV, rfl, hfz, hnd⟩ := hW
  have hA : DataW.TrodAll enc Try.prog W 0 (fun _ => true) true Try.f11.params.toList args.toList ds p := hA0
  rw [Try.params11] at hA hval
  obtain ⟨v0, vs0, d0, ds0, p0, q0, hargs, rfl, rfl, h0, r0⟩ := trodAll_cons hA
  obtain ⟨rfl, rfl, rfl⟩ := trodAll_nil r0
  obtain rfl : args = #[v0] := by cases args; simp_all
  obtain ⟨rfl, rfl⟩ := trodVars_none hV
  obtain ⟨A0, len0, cap0, rfl⟩ := okWide_slice Try.underlying26 (hval 0 26 v0 rfl rfl)
  have k0 := h0
  have lt0 : ∀ x ∈ p0, x.block < W.heap.size := by obtain ⟨m, hm⟩ := k0; exact DataW.trod_lt m _ _ _ hm
  obtain ⟨z0, rfl, w0⟩ := row_open Try.underlying26 Try.underlying5 (by kernel_rfl) h0
  clear hA0 hval0
  refine (walk_FnQuarterTimes A0 cap0 z0 W w0).mono fun e W' ⟨he, bel⟩ => ?_
  subst he
  exact ⟨_, rfl, _, _, _, [], _, [], hW', trodAll_mk1 (shut_bool Try.underlying4 _), (trodAll_cons_mk (Below.trod laidOut (by kernel_rfl) (of_decide_eq_true (by kernel_rfl)) k0 bel lt0) trodAll_mk0), rfl, bel.frame _, fun h => by cases h⟩

theorem over_FnQuarterTimes : Rows.fnQuarterTimesRow.holds Try.pinned (OpenSpec.ofChange Rows.fnQuarterTimesSpec) :=
  OpenClaim.holds_of_wide 11 Try.f11 rfl rfl rfl rfl rfl rfl rfl ⟨rfl, rfl, rfl, rfl, rfl⟩ rfl rfl rfl rfl rfl (by kernel_rfl) Try.func11 (by kernel_rfl)
    (of_decide_eq_true (by kernel_rfl)) (by unfold Func.isWrapper; first | (rw [if_pos (by decide +kernel)]; kernel_rfl) | (rw [if_neg (by decide +kernel)]; exact ⟨rfl, rfl⟩))
    (fun os started H enc _ => lifted_FnQuarterTimes os started H enc)

/-- The statement. -/
theorem holds_FnQuarterTimes : Rows.FnQuarterTimesSaid := over_FnQuarterTimes
#print axioms holds_FnQuarterTimes
end Go.Proofs.Ytbfejjippkheaaa
