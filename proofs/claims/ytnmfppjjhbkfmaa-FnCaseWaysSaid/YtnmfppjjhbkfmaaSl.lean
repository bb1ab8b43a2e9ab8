/- Contracts of the laws' own helpers on slices of integers. -/
import Derived.Test.YtnmfppjjhbkfmaaKit
namespace Go.Proofs.Ytnmfppjjhbkfmaa
open Go.RowKit

/-- Two lists are equal. -/
def eqB (xs ys : List Int) : Bool := decide (xs = ys)
theorem eqB_t {xs ys : List Int} (h : xs = ys) : eqB xs ys = true := by simp [eqB, h]
theorem eqB_f {xs ys : List Int} (h : xs ≠ ys) : eqB xs ys = false := by simp [eqB, h]
theorem eqB_iff {xs ys : List Int} : eqB xs ys = true ↔ xs = ys := by simp [eqB]
theorem eqB_len {xs ys : List Int} (h : xs.length ≠ ys.length) : eqB xs ys = false := eqB_f (fun e => h (by rw [e]))
theorem eqB_at {xs ys : List Int} {k : Nat} (h : nth xs k ≠ nth ys k) : eqB xs ys = false := eqB_f (fun e => h (by rw [e]))

end Go.Proofs.Ytnmfppjjhbkfmaa
