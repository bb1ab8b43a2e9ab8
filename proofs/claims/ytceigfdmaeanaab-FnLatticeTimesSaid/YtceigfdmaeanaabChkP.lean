/- Plain facts on sums of digits, sums with signs, and places that differ. -/
import Derived.Test.YtceigfdmaeanaabNum
namespace Go.Proofs.Ytceigfdmaeanaab

def sumTo (zs : List Int) (j : Nat) : Int := (zs.take j).sum
theorem sumTo_succ (zs : List Int) (j : Nat) (h : j < zs.length) : sumTo zs (j + 1) = sumTo zs j + nth zs j := by
  simp [sumTo, take_nth h]
theorem sumTo_bd {zs : List Int} (h : numB zs = true) (j : Nat) : 0 ≤ sumTo zs j ∧ sumTo zs j ≤ 54 := by
  have key : ∀ j, j ≤ zs.length → 0 ≤ sumTo zs j ∧ sumTo zs j ≤ 9 * j := by
    intro j
    induction j with
    | zero => intro _; simp [sumTo]
    | succ j ih =>
      intro hj
      rw [sumTo_succ zs j (by omega)]
      have := ih (by omega)
      have := numB_digit h j
      omega
  have hl := (numB_t h).2.1
  by_cases hj : j ≤ zs.length
  · have := key j hj; omega
  · have e : sumTo zs j = sumTo zs zs.length := by simp [sumTo, List.take_of_length_le (show zs.length ≤ j by omega)]
    rw [e]
    have := key _ (Nat.le_refl _); omega
def ninesV (zs : List Int) : Int := if numB zs then sumTo zs zs.length % 9 else -1
theorem ninesV_no {zs : List Int} (h : numB zs = false) : ninesV zs = -1 := by simp [ninesV, h]
theorem ninesV_yes {zs : List Int} (h : numB zs = true) : ninesV zs = sumTo zs zs.length % 9 := by simp [ninesV, h]

/-- The digit at i with its sign: the last one with plus. -/
def sg (zs : List Int) (i : Nat) : Int := if (zs.length - 1 - i) % 2 = 0 then nth zs i else - nth zs i
def altTo (zs : List Int) (j : Nat) : Int := ((List.range j).map (sg zs)).sum
theorem altTo_succ (zs : List Int) (j : Nat) : altTo zs (j + 1) = altTo zs j + sg zs j := by simp [altTo, List.range_succ]
theorem sg_bd {zs : List Int} (h : numB zs = true) (i : Nat) : -9 ≤ sg zs i ∧ sg zs i ≤ 9 := by
  have := numB_digit h i
  unfold sg; split <;> omega
theorem altTo_bd {zs : List Int} (h : numB zs = true) (j : Nat) : -(9 * (j : Int)) ≤ altTo zs j ∧ altTo zs j ≤ 9 * j := by
  induction j with
  | zero => simp [altTo]
  | succ j ih => rw [altTo_succ]; have := sg_bd h j; omega
def elevV (zs : List Int) : Int := if numB zs then altTo zs zs.length % 11 else -1
theorem elevV_no {zs : List Int} (h : numB zs = false) : elevV zs = -1 := by simp [elevV, h]
theorem elevV_yes {zs : List Int} (h : numB zs = true) : elevV zs = altTo zs zs.length % 11 := by simp [elevV, h]
theorem tmod11 (x : Int) : (x.tmod 11 + 11) % 11 = x % 11 := by
  rcases Int.le_total 0 x with h | h
  · rw [Int.tmod_eq_emod_of_nonneg h]; omega
  · have e : x.tmod 11 = -((-x) % 11) := by
      have := Int.neg_tmod (-x) 11
      rw [Int.neg_neg] at this
      rw [this, Int.tmod_eq_emod_of_nonneg (by omega)]
    rw [e]; omega
theorem tmod11' (x : Int) : x.tmod 11 % 11 = x % 11 := by
  rw [← tmod11 x]; omega
theorem tmod11_bd (x : Int) : -11 < x.tmod 11 ∧ x.tmod 11 < 11 := by
  rcases Int.le_total 0 x with h | h
  · rw [Int.tmod_eq_emod_of_nonneg h]; omega
  · have e : x.tmod 11 = -((-x) % 11) := by
      have := Int.neg_tmod (-x) 11
      rw [Int.neg_neg] at this
      rw [this, Int.tmod_eq_emod_of_nonneg (by omega)]
    rw [e]; omega

/-- How many of the first j places differ. -/
def farTo (xs ys : List Int) (j : Nat) : Int := (((List.range j).filter fun i => decide (nth xs i ≠ nth ys i)).length : Int)
theorem farTo_succ_ne {xs ys : List Int} {j : Nat} (h : nth xs j ≠ nth ys j) : farTo xs ys (j + 1) = farTo xs ys j + 1 := by
  simp [farTo, List.range_succ, h]
theorem farTo_succ_eq {xs ys : List Int} {j : Nat} (h : nth xs j = nth ys j) : farTo xs ys (j + 1) = farTo xs ys j := by
  simp [farTo, List.range_succ, h]
theorem farTo_bd (xs ys : List Int) (j : Nat) : 0 ≤ farTo xs ys j ∧ farTo xs ys j ≤ j := by
  have := List.length_filter_le (fun i => decide (nth xs i ≠ nth ys i)) (List.range j)
  simp only [List.length_range] at this
  unfold farTo
  omega
def farB (xs ys : List Int) : Bool := numB xs && numB ys && decide (xs.length = ys.length)
def farV (xs ys : List Int) : Int := if farB xs ys then farTo xs ys xs.length else -1
end Go.Proofs.Ytceigfdmaeanaab
