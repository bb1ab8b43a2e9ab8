/- Powers of ten. -/
import Derived.Test.YtceigfdmaeanaabIn
import Derived.IntWalk
namespace Go.Proofs.Ytceigfdmaeanaab
open Go.RowKit

def p10 : Nat → Int
  | 0 => 1
  | k + 1 => p10 k * 10
theorem p10_pos : ∀ k, 1 ≤ p10 k
  | 0 => by simp [p10]
  | k + 1 => by have := p10_pos k; simp only [p10]; omega
theorem p10_mono {i j : Nat} (h : i ≤ j) : p10 i ≤ p10 j := by
  induction j with
  | zero => obtain rfl : i = 0 := by omega
            exact Int.le_refl _
  | succ j ih =>
    rcases Nat.lt_or_ge i (j + 1) with h1 | h1
    · have := ih (by omega); have := p10_pos j; simp only [p10]; omega
    · obtain rfl : i = j + 1 := by omega
      exact Int.le_refl _
theorem p10_bd {k : Nat} (h : k ≤ 6) : 1 ≤ p10 k ∧ p10 k ≤ 1000000 := ⟨p10_pos k, by have := p10_mono h; simpa [p10] using this⟩

end Go.Proofs.Ytceigfdmaeanaab
