/- A value's frame: its value, its digits. -/
import Derived.Test.YtfdbhaojdccomaaDoorFrOfS
import Derived.Test.YtfdbhaojdccomaaDoorNumOfD
namespace Go.Proofs.YtfdbhaojdccomaaDoor

theorem dg_of (v : Int) {n k : Nat} (h : k < n) : dg (ofH v n) (ofL v n) k = v / p10 k % 10 := by
  rw [dg, ofH_nth v h, ofL_nth v h]
  omega
theorem mod_step (v q : Int) (hq : 1 ≤ q) : v % (q * 10) = v % q + v / q % 10 * q := by
  have h1 : v / (q * 10) = v / q / 10 := (Int.ediv_ediv_of_nonneg (by omega)).symm
  have e1 := Int.emod_def v (q * 10)
  have e2 := Int.emod_def v q
  have e3 := Int.emod_def (v / q) 10
  rw [e1, h1, e2, e3]
  generalize v / q = a
  generalize a / 10 = b
  rw [Int.sub_mul, Int.mul_comm a q, Int.mul_assoc q 10 b, Int.mul_comm (10 * b) q]
  omega
theorem fvU_of (v : Int) (n : Nat) : ∀ k, k ≤ n → fvU (ofH v n) (ofL v n) k = v % p10 k
  | 0, _ => by simp [fvU, p10]
  | k + 1, h => by
    rw [fvU, fvU_of v n k (by omega), dg_of v (by omega)]
    have := mod_step v (p10 k) (p10_pos k)
    simp only [p10]
    first
      | exact this.symm
      | rw [Int.mul_comm 10 (p10 k)]; exact this.symm
theorem fval_of {v : Int} {n : Nat} (n1 : 1 ≤ n) (n6 : n ≤ 6) (h0 : 0 ≤ v) (h1 : v < p10 n) : fval (ofH v n) (ofL v n) = v := by
  rw [fval, if_pos (ok_frB (ofV_ok v n1 n6)), ofH_len, fvU_of v n n (Nat.le_refl _), Int.emod_eq_of_lt h0 h1]
/-- A digit of the numeral. -/
theorem dl_at {v : Int} {n k : Nat} (h : k < n) : nth (dl v n n) (n - 1 - k) = v / p10 k % 10 := by
  rw [dl_nth v (by omega), if_pos (by omega), show n - 1 - (n - 1 - k) = k by omega]
theorem dig_zero {v : Int} {m k : Nat} (h0 : 0 ≤ v) (h1 : v < p10 m) (h : m ≤ k) : v / p10 k % 10 = 0 := by
  rw [Int.ediv_eq_zero_of_lt h0 (Int.lt_of_lt_of_le h1 (p10_mono h))]
  rfl
end Go.Proofs.YtfdbhaojdccomaaDoor
