/- Contracts of the plain functions on integers: quarter squares and triangles, of the program and of the reference. -/
import Derived.Test.YtbfejjippkheaaaKit
import Derived.Test.YtbfejjippkheaaaIn
namespace Go.Proofs.Ytbfejjippkheaaa
open Go.RowKit

/-- The quarter square, with its range. -/
def qOf (n : Int) : Int := if inB n 0 200000 then n * n / 4 else -1

theorem sq_bd (n : Int) (k : Int) (h0 : 0 ≤ n) (h1 : n ≤ k) : 0 ≤ n * n ∧ n * n ≤ k * k :=
  ⟨Int.mul_nonneg h0 h0, Int.mul_le_mul h1 h1 h0 (by omega)⟩

theorem spec_QuarterOf (n : Int) (w : World) :
    Calls Try.prog 12 #[.int .i64 n] w fun e w' => e = .returned (.int .i64 (qOf n)) ∧ w = w' := by
  cases h : inB n 0 200000
  · have hv : qOf n = -1 := by simp [qOf, h]
    rw [hv]; clear hv
    go_enter Try.func12, Try.ntmps12
    go_wp2_with (go_at_call 32; refine (l6In _ _ _ _).mono ?_; rintro e w' ⟨rfl, rfl⟩)
    go_ret
    exact ⟨rfl, rfl⟩
  · have hv : qOf n = n * n / 4 := by simp [qOf, h]
    rw [hv]; clear hv
    have ⟨h0, h1⟩ := inB_t h
    have ⟨hb0, hb1⟩ := sq_bd n 200000 (by omega) (by omega)
    go_enter Try.func12, Try.ntmps12
    go_wp2_with (go_at_call 32; refine (l6In _ _ _ _).mono ?_; rintro e w' ⟨rfl, rfl⟩)
    go_ret
    exact ⟨rfl, rfl⟩

theorem spec_QuarterOf_in (n : Int) (w : World) (h0 : 0 ≤ n) (h1 : n ≤ 200000) :
    Calls Try.prog 12 #[.int .i64 n] w fun e w' => e = .returned (.int .i64 (n * n / 4)) ∧ w = w' := by
  have := spec_QuarterOf n w
  rwa [show qOf n = n * n / 4 from by rw [qOf, inB_of h0 h1]; rfl] at this

theorem impl_QuarterOf (n : Int) (w : World) :
    Calls Try.prog 13 #[.int .i64 n] w fun e w' => e = .returned (.int .i64 (qOf n)) ∧ w = w' := by
  by_cases h0 : n < 0
  · have hv : qOf n = -1 := by simp [qOf, inB_lo h0]
    rw [hv]; clear hv
    go_enter Try.func13, Try.ntmps13
    go_wp2
    go_ret
    exact ⟨rfl, rfl⟩
  · by_cases h1 : 200000 < n
    · have hv : qOf n = -1 := by simp [qOf, inB_hi h1]
      rw [hv]; clear hv
      go_enter Try.func13, Try.ntmps13
      go_wp2
      go_ret
      exact ⟨rfl, rfl⟩
    · have hv : qOf n = n * n / 4 := by simp [qOf, inB_of (n := n) (lo := 0) (hi := 200000) (by omega) (by omega)]
      rw [hv]; clear hv
      have ⟨hb0, hb1⟩ := sq_bd n 200000 (by omega) (by omega)
      go_enter Try.func13, Try.ntmps13
      go_wp2
      go_ret
      exact ⟨rfl, rfl⟩

theorem sq_abs (n k : Int) (h0 : -k ≤ n) (h1 : n ≤ k) : 0 ≤ n * n ∧ n * n ≤ k * k := by
  rcases Int.le_total 0 n with h | h
  · exact sq_bd n k h h1
  · have := sq_bd (-n) k (by omega) (by omega)
    rwa [Int.neg_mul_neg] at this

theorem quarter (n : Int) (w : World) (h0 : -200000 ≤ n) (h1 : n ≤ 200000) :
    Calls Try.prog 33 #[.int .i64 n] w fun e w' => e = .returned (.int .i64 (n * n / 4)) ∧ w = w' := by
  have ⟨hb0, hb1⟩ := sq_abs n 200000 h0 h1
  go_enter Try.func33, Try.ntmps33
  go_wp2
  go_ret
  exact ⟨rfl, rfl⟩

theorem inTable (n : Int) (w : World) :
    Calls Try.prog 35 #[.int .i64 n] w fun e w' => e = .returned (.bool (inB n 0 100000)) ∧ w = w' := by
  by_cases h0 : n < 0
  · rw [inB_lo h0]
    go_enter Try.func35, Try.ntmps35
    go_wp2
    go_ret
    exact ⟨rfl, rfl⟩
  · by_cases h1 : 100000 < n
    · rw [inB_hi h1]
      have hd : decide (n ≤ 100000) = false := by simp; omega
      go_enter Try.func35, Try.ntmps35
      go_wp2
      go_ret
      exact ⟨rfl, rfl⟩
    · rw [inB_of (by omega) (by omega)]
      go_enter Try.func35, Try.ntmps35
      go_wp2
      go_ret
      exact ⟨rfl, rfl⟩

theorem l4Two (a b : Int) (w : World) :
    Calls Try.prog 37 #[.int .i64 a, .int .i64 b] w fun e w' => e = .returned (.bool (inB a 0 100000 && inB b 0 100000)) ∧ w = w' := by
  cases h0 : inB a 0 100000
  · go_enter Try.func37, Try.ntmps37
    go_wp2_with (go_at_call 32; refine (l6In _ _ _ _).mono ?_; rintro e w' ⟨rfl, rfl⟩)
    go_ret
    exact ⟨rfl, rfl⟩
  · go_enter Try.func37, Try.ntmps37
    go_wp2_with (go_at_call 32; refine (l6In _ _ _ _).mono ?_; rintro e w' ⟨rfl, rfl⟩)
    go_ret
    exact ⟨rfl, rfl⟩

/-- The sum of the integers from 1 to n, with its range. -/
def tOf (n : Int) : Int := if inB n 0 100000 then n * (n + 1) / 2 else -1

theorem tri_bd (n k : Int) (h0 : 0 ≤ n) (h1 : n ≤ k) : 0 ≤ n * (n + 1) ∧ n * (n + 1) ≤ k * (k + 1) :=
  ⟨Int.mul_nonneg h0 (by omega), Int.mul_le_mul h1 (by omega) (by omega) (by omega)⟩

theorem triangle (n : Int) (w : World) (h0 : 0 ≤ n) (h1 : n ≤ 200000) :
    Calls Try.prog 36 #[.int .i64 n] w fun e w' => e = .returned (.int .i64 (n * (n + 1) / 2)) ∧ w = w' := by
  have ⟨hb0, hb1⟩ := tri_bd n 200000 h0 h1
  go_enter Try.func36, Try.ntmps36
  go_wp2
  go_ret
  exact ⟨rfl, rfl⟩
theorem l4Triangle (n : Int) (w : World) (h0 : 0 ≤ n) (h1 : n ≤ 200000) :
    Calls Try.prog 34 #[.int .i64 n] w fun e w' => e = .returned (.int .i64 (n * (n + 1) / 2)) ∧ w = w' := by
  have ⟨hb0, hb1⟩ := tri_bd n 200000 h0 h1
  go_enter Try.func34, Try.ntmps34
  go_wp2
  go_ret
  exact ⟨rfl, rfl⟩

theorem spec_TriangleOf (n : Int) (w : World) :
    Calls Try.prog 14 #[.int .i64 n] w fun e w' => e = .returned (.int .i64 (tOf n)) ∧ w = w' := by
  cases h : inB n 0 100000
  · have hv : tOf n = -1 := by simp [tOf, h]
    rw [hv]; clear hv
    go_enter Try.func14, Try.ntmps14
    go_wp2_with (go_at_call 32; refine (l6In _ _ _ _).mono ?_; rintro e w' ⟨rfl, rfl⟩)
    go_ret
    exact ⟨rfl, rfl⟩
  · have hv : tOf n = n * (n + 1) / 2 := by simp [tOf, h]
    rw [hv]; clear hv
    have ⟨h0, h1⟩ := inB_t h
    go_enter Try.func14, Try.ntmps14
    go_wp2_with (first
      | (go_at_call 32; refine (l6In _ _ _ _).mono ?_; rintro e w' ⟨rfl, rfl⟩)
      | (go_at_call 34; refine (l4Triangle _ _ (by omega) (by omega)).mono ?_; rintro e w' ⟨rfl, rfl⟩))
    go_ret
    exact ⟨rfl, rfl⟩

theorem impl_TriangleOf (n : Int) (w : World) :
    Calls Try.prog 15 #[.int .i64 n] w fun e w' => e = .returned (.int .i64 (tOf n)) ∧ w = w' := by
  cases h : inB n 0 100000
  · have hv : tOf n = -1 := by simp [tOf, h]
    rw [hv]; clear hv
    go_enter Try.func15, Try.ntmps15
    go_wp2_with (go_at_call 35; refine (inTable _ _).mono ?_; rintro e w' ⟨rfl, rfl⟩)
    go_ret
    exact ⟨rfl, rfl⟩
  · have hv : tOf n = n * (n + 1) / 2 := by simp [tOf, h]
    rw [hv]; clear hv
    have ⟨h0, h1⟩ := inB_t h
    go_enter Try.func15, Try.ntmps15
    go_wp2_with (first
      | (go_at_call 35; refine (inTable _ _).mono ?_; rintro e w' ⟨rfl, rfl⟩)
      | (go_at_call 36; refine (triangle _ _ (by omega) (by omega)).mono ?_; rintro e w' ⟨rfl, rfl⟩))
    go_ret
    exact ⟨rfl, rfl⟩

/-- The product by triangles. -/
def tT (a b : Int) : Int := if inB a 0 100000 && inB b 0 100000 then (a + b) * (a + b + 1) / 2 - a * (a + 1) / 2 - b * (b + 1) / 2 else -1

theorem spec_TriangleTimes (a b : Int) (w : World) :
    Calls Try.prog 16 #[.int .i64 a, .int .i64 b] w fun e w' => e = .returned (.int .i64 (tT a b)) ∧ w = w' := by
  cases h : inB a 0 100000 && inB b 0 100000
  · have hv : tT a b = -1 := by simp [tT, h]
    rw [hv]; clear hv
    go_enter Try.func16, Try.ntmps16
    go_wp2_with (go_at_call 37; refine (l4Two _ _ _).mono ?_; rintro e w' ⟨rfl, rfl⟩)
    go_ret
    exact ⟨rfl, rfl⟩
  · have hv : tT a b = (a + b) * (a + b + 1) / 2 - a * (a + 1) / 2 - b * (b + 1) / 2 := by simp only [tT, h]; rfl
    rw [hv]; clear hv
    rw [Bool.and_eq_true] at h
    obtain ⟨ha, hb⟩ := h
    have ⟨a0, a1⟩ := inB_t ha
    have ⟨b0, b1⟩ := inB_t hb
    have ⟨q1, q2⟩ := tri_bd (a + b) 200000 (by omega) (by omega)
    have ⟨q3, q4⟩ := tri_bd a 100000 (by omega) (by omega)
    have ⟨q5, q6⟩ := tri_bd b 100000 (by omega) (by omega)
    go_enter Try.func16, Try.ntmps16
    go_wp2_with (first
      | (go_at_call 37; refine (l4Two _ _ _).mono ?_; rintro e w' ⟨rfl, rfl⟩)
      | (go_at_call 34; refine (l4Triangle _ _ (by omega) (by omega)).mono ?_; rintro e w' ⟨rfl, rfl⟩))
    go_ret
    exact ⟨rfl, rfl⟩

theorem impl_TriangleTimes (a b : Int) (w : World) :
    Calls Try.prog 17 #[.int .i64 a, .int .i64 b] w fun e w' => e = .returned (.int .i64 (tT a b)) ∧ w = w' := by
  cases ha : inB a 0 100000
  · have hv : tT a b = -1 := by simp [tT, ha]
    rw [hv]; clear hv
    go_enter Try.func17, Try.ntmps17
    go_wp2_with (go_at_call 35; refine (inTable _ _).mono ?_; rintro e w' ⟨rfl, rfl⟩)
    go_ret
    exact ⟨rfl, rfl⟩
  cases hb : inB b 0 100000
  · have hv : tT a b = -1 := by simp [tT, hb]
    rw [hv]; clear hv
    go_enter Try.func17, Try.ntmps17
    go_wp2_with (go_at_call 35; refine (inTable _ _).mono ?_; rintro e w' ⟨rfl, rfl⟩)
    go_ret
    exact ⟨rfl, rfl⟩
  · have hv : tT a b = (a + b) * (a + b + 1) / 2 - a * (a + 1) / 2 - b * (b + 1) / 2 := by simp only [tT, ha, hb]; rfl
    rw [hv]; clear hv
    have ⟨a0, a1⟩ := inB_t ha
    have ⟨b0, b1⟩ := inB_t hb
    have ⟨q1, q2⟩ := tri_bd (a + b) 200000 (by omega) (by omega)
    have ⟨q3, q4⟩ := tri_bd a 100000 (by omega) (by omega)
    have ⟨q5, q6⟩ := tri_bd b 100000 (by omega) (by omega)
    go_enter Try.func17, Try.ntmps17
    go_wp2_with (first
      | (go_at_call 35; refine (inTable _ _).mono ?_; rintro e w' ⟨rfl, rfl⟩)
      | (go_at_call 36; refine (triangle _ _ (by omega) (by omega)).mono ?_; rintro e w' ⟨rfl, rfl⟩))
    go_ret
    exact ⟨rfl, rfl⟩

/-- The product by quarter squares. -/
def qT (a b : Int) : Int := if inB a 0 100000 && inB b 0 100000 then (a + b) * (a + b) / 4 - (a - b) * (a - b) / 4 else -1

theorem spec_QuarterTimes (a b : Int) (w : World) :
    Calls Try.prog 18 #[.int .i64 a, .int .i64 b] w fun e w' => e = .returned (.int .i64 (qT a b)) ∧ w = w' := by
  cases h : inB a 0 100000 && inB b 0 100000
  · have hv : qT a b = -1 := by simp [qT, h]
    rw [hv]; clear hv
    go_enter Try.func18, Try.ntmps18
    go_wp2_with (go_at_call 37; refine (l4Two _ _ _).mono ?_; rintro e w' ⟨rfl, rfl⟩)
    go_ret
    exact ⟨rfl, rfl⟩
  · have hv : qT a b = (a + b) * (a + b) / 4 - (a - b) * (a - b) / 4 := by simp only [qT, h]; rfl
    rw [hv]; clear hv
    rw [Bool.and_eq_true] at h
    obtain ⟨ha, hb⟩ := h
    have ⟨a0, a1⟩ := inB_t ha
    have ⟨b0, b1⟩ := inB_t hb
    have ⟨q1, q2⟩ := sq_bd (a + b) 200000 (by omega) (by omega)
    have ⟨q3, q4⟩ := sq_abs (a - b) 100000 (by omega) (by omega)
    rcases Int.lt_trichotomy a b with hab | hab | hab
    · have ⟨q5, q6⟩ := sq_bd (b - a) 100000 (by omega) (by omega)
      go_enter Try.func18, Try.ntmps18
      go_wp2_with (first
        | (go_at_call 37; refine (l4Two _ _ _).mono ?_; rintro e w' ⟨rfl, rfl⟩)
        | (go_at_call 12; refine (spec_QuarterOf_in _ _ (by omega) (by omega)).mono ?_; rintro e w' ⟨rfl, rfl⟩))
      go_ret
      exact ⟨ret_int (by rw [← Int.neg_mul_neg (a - b) (a - b), show -(a - b) = b - a from by omega]), rfl⟩
    · subst hab
      go_enter Try.func18, Try.ntmps18
      go_wp2_with (first
        | (go_at_call 37; refine (l4Two _ _ _).mono ?_; rintro e w' ⟨rfl, rfl⟩)
        | (go_at_call 12; refine (spec_QuarterOf_in _ _ (by omega) (by omega)).mono ?_; rintro e w' ⟨rfl, rfl⟩))
      go_ret
      exact ⟨ret_int (by simp), rfl⟩
    · go_enter Try.func18, Try.ntmps18
      go_wp2_with (first
        | (go_at_call 37; refine (l4Two _ _ _).mono ?_; rintro e w' ⟨rfl, rfl⟩)
        | (go_at_call 12; refine (spec_QuarterOf_in _ _ (by omega) (by omega)).mono ?_; rintro e w' ⟨rfl, rfl⟩))
      go_ret
      exact ⟨rfl, rfl⟩

theorem impl_QuarterTimes (a b : Int) (w : World) :
    Calls Try.prog 19 #[.int .i64 a, .int .i64 b] w fun e w' => e = .returned (.int .i64 (qT a b)) ∧ w = w' := by
  cases ha : inB a 0 100000
  · have hv : qT a b = -1 := by simp [qT, ha]
    rw [hv]; clear hv
    go_enter Try.func19, Try.ntmps19
    go_wp2_with (go_at_call 35; refine (inTable _ _).mono ?_; rintro e w' ⟨rfl, rfl⟩)
    go_ret
    exact ⟨rfl, rfl⟩
  cases hb : inB b 0 100000
  · have hv : qT a b = -1 := by simp [qT, hb]
    rw [hv]; clear hv
    go_enter Try.func19, Try.ntmps19
    go_wp2_with (go_at_call 35; refine (inTable _ _).mono ?_; rintro e w' ⟨rfl, rfl⟩)
    go_ret
    exact ⟨rfl, rfl⟩
  · have hv : qT a b = (a + b) * (a + b) / 4 - (a - b) * (a - b) / 4 := by simp only [qT, ha, hb]; rfl
    rw [hv]; clear hv
    have ⟨a0, a1⟩ := inB_t ha
    have ⟨b0, b1⟩ := inB_t hb
    have ⟨q1, q2⟩ := sq_bd (a + b) 200000 (by omega) (by omega)
    have ⟨q3, q4⟩ := sq_abs (a - b) 100000 (by omega) (by omega)
    go_enter Try.func19, Try.ntmps19
    go_wp2_with (first
      | (go_at_call 35; refine (inTable _ _).mono ?_; rintro e w' ⟨rfl, rfl⟩)
      | (go_at_call 33; refine (quarter _ _ (by omega) (by omega)).mono ?_; rintro e w' ⟨rfl, rfl⟩))
    go_ret
    exact ⟨rfl, rfl⟩
end Go.Proofs.Ytbfejjippkheaaa
