/- Contracts of what the laws on tallies call: sizes, copies, TallyMatches. -/
import Derived.Test.YtfdabeikcpccgaaNotS
import Derived.Test.YtfdabeikcpccgaaOwn
namespace Go.Proofs.Ytfdabeikcpccgaa
open Go.RowKit

/-- Two people, not the same. -/
def twoB (a b : Int) : Bool := inB a 0 4 && inB b 0 4 && (a != b)

theorem l6yTwo (a b : Int) (w : World) :
    Calls Try.prog 46 #[.int .i64 a, .int .i64 b] w fun e w' => e = .returned (.bool (twoB a b)) ∧ w = w' := by
  cases h1 : inB a 0 4
  · have HB : Hid (twoB a b = false) := Lib.hid (by simp [twoB, h1])
    go_enter Try.func46, Try.ntmps46
    go_wp2_with fail
    refine (l6In _ _ _ _).mono ?_
    rintro e w' ⟨rfl, rfl⟩
    rw [h1]
    go_wp2_with fail
    go_ret
    exact ⟨ret_bool HB.out.symm, rfl⟩
  · cases h2 : inB b 0 4
    · have HB : Hid (twoB a b = false) := Lib.hid (by simp [twoB, h2])
      go_enter Try.func46, Try.ntmps46
      go_wp2_with fail
      refine (l6In _ _ _ _).mono ?_
      rintro e w' ⟨rfl, rfl⟩
      rw [h1]
      go_wp2_with fail
      refine (l6In _ _ _ _).mono ?_
      rintro e w' ⟨rfl, rfl⟩
      rw [h2]
      go_wp2_with fail
      go_ret
      exact ⟨ret_bool HB.out.symm, rfl⟩
    · have HB : Hid (twoB a b = (a != b)) := Lib.hid (by simp [twoB, h1, h2])
      go_enter Try.func46, Try.ntmps46
      go_wp2_with fail
      refine (l6In _ _ _ _).mono ?_
      rintro e w' ⟨rfl, rfl⟩
      rw [h1]
      go_wp2_with fail
      refine (l6In _ _ _ _).mono ?_
      rintro e w' ⟨rfl, rfl⟩
      rw [h2]
      go_wp2_with fail
      go_ret
      exact ⟨ret_bool HB.out.symm, rfl⟩

set_option maxRecDepth 100000 in
theorem different (a b : Int) (w : World) :
    Calls Try.prog 47 #[.agg #[.int .i64 a, .int .i64 b]] w fun e w' => e = .returned (.bool (twoB a b)) ∧ Below w.heap.size w w' := by
  have be : ∀ o, Below w.heap.size w (w.alloc o) := fun o => (Below.refl _ _).alloc (Nat.le_refl _) _
  have HBE := Lib.hid be
  clear be
  by_cases h1 : a < 0
  · have HB : Hid (twoB a b = false) := Lib.hid (by simp [twoB, inB_lo h1])
    have d1 : decide (0 ≤ a) = false := by simp; omega
    go_enter Try.func47, Try.ntmps47
    go_wp2
    go_ret
    exact ⟨ret_bool HB.out.symm, HBE.out _⟩
  by_cases h2 : 4 < a
  · have HB : Hid (twoB a b = false) := Lib.hid (by simp [twoB, inB_hi h2])
    have d1 : decide (a < 5) = false := by simp; omega
    go_enter Try.func47, Try.ntmps47
    go_wp2
    go_ret
    exact ⟨ret_bool HB.out.symm, HBE.out _⟩
  by_cases h3 : b < 0
  · have HB : Hid (twoB a b = false) := Lib.hid (by simp [twoB, inB_lo h3])
    have d1 : decide (0 ≤ b) = false := by simp; omega
    have a1 : 0 ≤ a := by omega
    have a2 : a < 5 := by omega
    go_enter Try.func47, Try.ntmps47
    go_wp2
    go_ret
    exact ⟨ret_bool HB.out.symm, HBE.out _⟩
  by_cases h4 : 4 < b
  · have HB : Hid (twoB a b = false) := Lib.hid (by simp [twoB, inB_hi h4])
    have d1 : decide (b < 5) = false := by simp; omega
    have a1 : 0 ≤ a := by omega
    have a2 : a < 5 := by omega
    have a3 : 0 ≤ b := by omega
    go_enter Try.func47, Try.ntmps47
    go_wp2
    go_ret
    exact ⟨ret_bool HB.out.symm, HBE.out _⟩
  have HB : Hid (twoB a b = (a != b)) := Lib.hid (by rw [twoB, inB_of (by omega) (by omega), inB_of (by omega) (by omega)]; simp)
  have a1 : 0 ≤ a := by omega
  have a2 : a < 5 := by omega
  have a3 : 0 ≤ b := by omega
  have a4 : b < 5 := by omega
  clear h1 h2 h3 h4
  go_enter Try.func47, Try.ntmps47
  go_wp2
  go_ret
  exact ⟨ret_bool HB.out.symm, HBE.out _⟩

/-- A tally by value. -/
def talV (d c : Int) (s f : ByteArray) : Value := .agg #[.int .i64 d, .int .i64 c, .string s, .string f]

theorem szTally (d c L : Int) (s f : ByteArray) (w : World) (hs : s.size ≤ 9223372036854775807) (hf : f.size ≤ 9223372036854775807) (h0 : 0 ≤ L) (h1 : L ≤ 1048576) :
    Calls Try.prog 18 #[.agg #[.int .i64 d, .int .i64 c, .string s, .string f], .int .i64 L] w fun e w' => e = .returned (.int .i64 (if (s.size : Int) + f.size ≤ L then L - s.size - f.size else -1)) ∧ Below w.heap.size w w' := by
  have HBE := Lib.hid (fun o => (Below.refl w.heap.size w).alloc (Nat.le_refl _) o)
  by_cases h2 : (s.size : Int) ≤ L
  · by_cases h3 : (s.size : Int) + f.size ≤ L
    · rw [if_pos h3]
      go_enter Try.func18, Try.ntmps18
      go_wp2
      go_ret
      exact ⟨rfl, HBE.out _⟩
    · rw [if_neg h3]
      have h4 : L - s.size - f.size < 0 := by omega
      go_enter Try.func18, Try.ntmps18
      go_wp2
      go_ret
      exact ⟨rfl, HBE.out _⟩
  · rw [if_neg (by omega)]
    have h4 : L - s.size < 0 := by omega
    go_enter Try.func18, Try.ntmps18
    go_wp2
    go_ret
    exact ⟨rfl, HBE.out _⟩

theorem toTally (d c : Int) (s f : ByteArray) (w : World) :
    Calls Try.prog 20 #[.agg #[.int .i64 d, .int .i64 c, .string s, .string f]] w fun e w' => e = .returned (.agg #[.int .i64 d, .int .i64 c, .string s, .string f]) ∧ Below w.heap.size w w' := by
  have HBE := Lib.hid (fun o o1 o2 => (((Below.refl w.heap.size w).alloc (Nat.le_refl _) o).alloc (by simp) o1).alloc (by simp; omega) o2)
  go_enter Try.func20, Try.ntmps20
  go_wp2
  refine bodyPost_ret (v := .agg #[.int .i64 d, .int .i64 c, .string s, .string f]) (by simp [results, Try.results20, go_sem]) rfl ?_
  exact ⟨rfl, HBE.out _ _ _⟩

set_option maxRecDepth 100000 in
theorem spec_TallyMatches (d c : Int) (s f : ByteArray) (w : World) (hs : s.size ≤ 1048576) :
    Calls Try.prog 19 #[.agg #[.int .i64 d, .int .i64 c, .string s, .string f]] w fun e w' => e = .returned (.bool (twoB d c && notB s && (s.toList == f.toList))) ∧ Below w.heap.size w w' := by
  have HBE := Lib.hid (fun o => (Below.refl w.heap.size w).alloc (Nat.le_refl _) o)
  cases h1 : twoB d c
  · go_enter Try.func19, Try.ntmps19
    go_wp2_with fail
    refine (l6yTwo _ _ _).mono ?_
    rintro e w' ⟨rfl, rfl⟩
    rw [h1]
    go_wp2_with fail
    go_ret
    exact ⟨rfl, HBE.out _⟩
  cases h2 : notB s
  · go_enter Try.func19, Try.ntmps19
    go_wp2_with fail
    refine (l6yTwo _ _ _).mono ?_
    rintro e w' ⟨rfl, rfl⟩
    rw [h1]
    go_wp2_with fail
    refine (spec_NotchesValid _ _ hs).mono ?_
    rintro e w' ⟨rfl, n, rfl⟩
    rw [h2]
    go_wp2_with fail
    go_ret
    exact ⟨rfl, (HBE.out _).drewN n⟩
  go_enter Try.func19, Try.ntmps19
  go_wp2_with fail
  refine (l6yTwo _ _ _).mono ?_
  rintro e w' ⟨rfl, rfl⟩
  rw [h1]
  go_wp2_with fail
  refine (spec_NotchesValid _ _ hs).mono ?_
  rintro e w' ⟨rfl, n, rfl⟩
  rw [h2]
  go_wp2_with fail
  go_ret
  exact ⟨rfl, (HBE.out _).drewN n⟩
end Go.Proofs.Ytfdabeikcpccgaa
