/- Powers of ten. -/
import Derived.Test.YtfdbhaojdccomaaDoorIn
import Derived.IntWalk
namespace Go.Proofs.YtfdbhaojdccomaaDoor
open Go.RowKit

def p10 : Nat → Int
  | 0 => 1
  | k + 1 => p10 k * 10
theorem p10_pos : ∀ k, 1 ≤ p10 k
  | 0 => by simp [p10]
  | k + 1 => by have := p10_pos k; simp only [p10]; omega
theorem p10_mono {i j : Nat} (h : i ≤ j) : p10 i ≤ p10 j := by
  induction j with
  | zero => obtain rfl : i = 0 := by omega
            exact Int.le_refl _
  | succ j ih =>
    rcases Nat.lt_or_ge i (j + 1) with h1 | h1
    · have := ih (by omega); have := p10_pos j; simp only [p10]; omega
    · obtain rfl : i = j + 1 := by omega
      exact Int.le_refl _
theorem p10_bd {k : Nat} (h : k ≤ 6) : 1 ≤ p10 k ∧ p10 k ≤ 1000000 := ⟨p10_pos k, by have := p10_mono h; simpa [p10] using this⟩

theorem powerOfTen (n : Nat) (h : n ≤ 6) (w : World) :
    Calls Tryd.prog 28 #[.int .i64 (n : Int)] w fun e w' => e = .returned (.int .i64 (p10 n)) ∧ w = w' := by
  go_enter Tryd.func28, Tryd.ntmps28
  go_wp2
  go_loop [0, 3] (fun m q => ∃ k : Nat, k ≤ n ∧ m = .int .i64 (k : Int) ∧ q = .int .i64 (p10 (n - k))) (fun m _ => (intOf m).toNat)
  case atStart => exact ⟨n, Nat.le_refl _, rfl, by simp [p10]⟩
  case round =>
    obtain ⟨k, hk, rfl, rfl⟩ := hrel
    have ⟨b0, b1⟩ := p10_bd (k := n - k) (by omega)
    rcases k with _ | k
    · go_wp2
      go_ret
      exact ⟨rfl, rfl⟩
    · have ⟨c0, c1⟩ := p10_bd (k := n - (k + 1) + 1) (by omega)
      have HP : Hid (p10 (n - k) = p10 (n - (k + 1)) * 10) := Lib.hid (by rw [show n - k = n - (k + 1) + 1 by omega]; rfl)
      rw [p10] at c0 c1
      go_wp2
      go_round
      case rel => exact ⟨k, by omega, by go_num, by rw [HP.out]⟩
      case measure => simp [intOf]
theorem l5Ten (n : Nat) (h : n ≤ 6) (w : World) :
    Calls Tryd.prog 27 #[.int .i64 (n : Int)] w fun e w' => e = .returned (.int .i64 (p10 n)) ∧ w = w' := by
  go_enter Tryd.func27, Tryd.ntmps27
  go_wp2
  go_loop [3, 4] (fun q m => ∃ k : Nat, k ≤ n ∧ m = .int .i64 (k : Int) ∧ q = .int .i64 (p10 k)) (fun _ m => n - (intOf m).toNat)
  case atStart => exact ⟨0, Nat.zero_le _, rfl, rfl⟩
  case round =>
    obtain ⟨k, hk, rfl, rfl⟩ := hrel
    have ⟨b0, b1⟩ := p10_bd (k := k) (by omega)
    by_cases hlt : k < n
    · have HP : Hid (p10 (k + 1) = 10 * p10 k) := Lib.hid (by rw [p10]; omega)
      go_wp2
      go_round
      case rel => exact ⟨k + 1, by omega, by go_num, by rw [HP.out]⟩
      case measure => simp [intOf]; omega
    · go_wp2
      go_ret
      obtain rfl : k = n := by omega
      exact ⟨rfl, rfl⟩
end Go.Proofs.YtfdbhaojdccomaaDoor
