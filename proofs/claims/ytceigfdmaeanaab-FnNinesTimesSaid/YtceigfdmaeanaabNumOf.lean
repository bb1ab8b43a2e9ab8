/- The contract of the program's NumeralOf. -/
import Derived.Test.YtceigfdmaeanaabNinM
import Derived.Test.YtceigfdmaeanaabPow
namespace Go.Proofs.Ytceigfdmaeanaab
open Go.RowKit

/-- The last j digits of v, in n places. -/
def dl (v : Int) (n j : Nat) : List Int := (List.range n).map fun i => if n - j ≤ i then v / p10 (n - 1 - i) % 10 else 0
theorem dl_len (v : Int) (n j : Nat) : (dl v n j).length = n := by simp [dl]
theorem dl_nth (v : Int) {n j i : Nat} (h : i < n) : nth (dl v n j) i = if n - j ≤ i then v / p10 (n - 1 - i) % 10 else 0 := by simp [nth, dl, h]
theorem dl_zero (v : Int) (n : Nat) : dl v n 0 = List.replicate n 0 := by
  apply nth_ext
  · simp [dl_len]
  · intro i hi
    rw [dl_len] at hi
    rw [dl_nth v hi, if_neg (by omega)]
    simp [nth, hi]
theorem dl_set (v : Int) {n j : Nat} (h : j < n) : (dl v n j).set (n - 1 - j) (v / p10 j % 10) = dl v n (j + 1) := by
  apply nth_ext
  · simp [dl_len]
  · intro i hi
    rw [List.length_set, dl_len] at hi
    rw [nth_set (by rw [dl_len]; exact hi), dl_nth v hi, dl_nth v hi]
    by_cases e : n - 1 - j = i
    · subst e
      rw [if_pos rfl, if_pos (by omega), show n - 1 - (n - 1 - j) = j by omega]
    · rw [if_neg e]
      by_cases e2 : n - j ≤ i
      · rw [if_pos e2, if_pos (by omega)]
      · rw [if_neg e2, if_neg (by omega)]
theorem p10_div (v : Int) (k : Nat) : v / p10 (k + 1) = v / p10 k / 10 := by
  have hp := p10_pos k
  simp only [p10]
  rw [← Int.ediv_ediv_of_nonneg (by omega)]
theorem valTo_dl {v : Int} {n : Nat} (h0 : 0 ≤ v) (h1 : v < p10 n) : ∀ k, k ≤ n → valTo (dl v n n) k = v / p10 (n - k)
  | 0, _ => by simp only [valTo, Nat.sub_zero]; rw [Int.ediv_eq_zero_of_lt h0 h1]
  | k + 1, h => by
    rw [valTo, valTo_dl h0 h1 k (by omega), dl_nth v (by omega), if_pos (by omega), show n - k = (n - (k + 1)) + 1 by omega, p10_div, show n - 1 - k = n - (k + 1) by omega]
    have := Int.ediv_nonneg h0 (show 0 ≤ p10 (n - (k + 1)) by have := p10_pos (n - (k + 1)); omega)
    omega
theorem dl_num {v : Int} {n : Nat} (n1 : 1 ≤ n) (n6 : n ≤ 6) : numB (dl v n n) = true := by
  refine numB_of_nth (by rw [dl_len]; exact n1) (by rw [dl_len]; exact n6) fun i hi => ?_
  rw [dl_len] at hi
  rw [dl_nth v hi, if_pos (by omega)]
  omega
theorem dl_val {v : Int} {n : Nat} (n1 : 1 ≤ n) (n6 : n ≤ 6) (h0 : 0 ≤ v) (h1 : v < p10 n) : numV (dl v n n) = v := by
  rw [numV, if_pos (dl_num n1 n6), dl_len, valTo_dl h0 h1 n (Nat.le_refl _), Nat.sub_self]
  simp [p10]

/-- The numeral of a value, or none. -/
def NumOf (v : Int) (w : World) (e : Ending) (w' : World) : Prop := ∃ A c ds ok, e = .returned (.tuple #[.slice A ds.length c, .bool ok]) ∧ Sl w' w.heap.size A c ds ∧ ds.length ≤ 6 ∧ (ok = true → numB ds = true ∧ numV ds = v) ∧ Below w.heap.size w w'

set_option maxRecDepth 100000 in
set_option maxHeartbeats 1000000 in
theorem impl_NumeralOf (v : Int) (w : World) : Calls Try.prog 22 #[.int .i64 v] w (NumOf v w) := by
  by_cases h0 : v < 0
  · go_enter Try.func22, Try.ntmps22
    go_wp2
    go_ret2
    exact ⟨none, 0, [], false, rfl, Sl.nil_ _ _, by simp, fun h => (by cases h), Below.refl _ _⟩
  have d0 : decide (v < 0) = false := by simpa using h0
  by_cases h1 : 1000000 ≤ v
  · go_enter Try.func22, Try.ntmps22
    go_wp2
    go_ret2
    exact ⟨none, 0, [], false, rfl, Sl.nil_ _ _, by simp, fun h => (by cases h), Below.refl _ _⟩
  have d1 : decide (1000000 ≤ v) = false := by simpa using h1
  have v0 : 0 ≤ v := by omega
  have v1 : v < 1000000 := by omega
  go_enter Try.func22, Try.ntmps22
  go_wp2_with fail
  clear d0 d1
  go_loop [4, 5] (fun s q => ∃ n : Nat, 1 ≤ n ∧ n ≤ 6 ∧ s = .int .i64 n ∧ q = .int .i64 (v / p10 n)) (fun _ q => (intOf q).toNat)
  case atStart => exact ⟨1, by omega, by omega, rfl, by simp [p10]⟩
  case round =>
    obtain ⟨n, n1, n6, rfl, rfl⟩ := hrel
    have hp := p10_pos n
    have q0 : 0 ≤ v / p10 n := Int.ediv_nonneg v0 (by omega)
    have q1 : v / p10 n ≤ v := Int.ediv_le_self _ v0
    by_cases hc : 0 < v / p10 n
    · have n5 : n ≤ 5 := by
        rcases Nat.lt_or_ge n 6 with h | h
        · omega
        · exfalso
          obtain rfl : n = 6 := by omega
          rw [show p10 6 = 1000000 from rfl, Int.ediv_eq_zero_of_lt v0 v1] at hc
          omega
      have HN : Hid (v / p10 (n + 1) = v / p10 n / 10) := Lib.hid (p10_div v n)
      go_wp2_with fail
      go_round
      case rel => exact ⟨n + 1, by omega, by omega, by go_num, by rw [HN.out]⟩
      case measure => simp [intOf]; omega
    · have hz : v < p10 n := by
        rcases Int.lt_or_le v (p10 n) with h | h
        · exact h
        · exfalso
          have := Int.le_ediv_of_mul_le (show 0 < p10 n by omega) (show 1 * p10 n ≤ v by omega)
          omega
      go_wp2_with (at_make; refine wp_mkN _ _ rfl rfl _ w.heap.size n rfl rfl (by omega) (by omega) ?_; intro w0 hs0 hg0)
      have HS0 := Lib.hid hs0
      have HB0 := Lib.hid ((Below.refl w.heap.size w).grown hg0 (Nat.le_refl _) (fun _ hk => by cases hk))
      clear hs0 hg0
      go_loopw [0, 7] (fun q i wz => ∃ j : Nat, j ≤ n ∧ i = .int .i64 ((n : Int) - 1 - j) ∧ q = .int .i64 (v / p10 j) ∧ Sl wz w.heap.size (some ⟨w.heap.size, 0, none⟩) n (dl v n j) ∧ Below w.heap.size w wz) (fun _ i _ => (intOf i + 1).toNat)
      case atStart => exact ⟨0, Nat.zero_le _, by simp, by simp [p10], by rw [dl_zero]; exact HS0.out, HB0.out⟩
      case round =>
        obtain ⟨j, hj, rfl, rfl, hs, hb⟩ := hrel
        have hpj := p10_pos j
        have q2 : 0 ≤ v / p10 j := Int.ediv_nonneg v0 (by omega)
        have q3 : v / p10 j ≤ v := Int.ediv_le_self _ v0
        by_cases hlt : j < n
        · obtain ⟨K, hK⟩ : ∃ K : Nat, n = K + 1 + j := ⟨n - 1 - j, by omega⟩
          have ek : (n : Int) - 1 - (j : Int) = (K : Int) := by omega
          rw [ek]
          have kl : K < n := by omega
          have HSet := Lib.hid (dl_set v hlt)
          have hcell := hs.cell (j := K) (by rw [dl_len]; exact kl)
          have hf := hs.free K
          have hgl := (hs.lt w.heap.size rfl).2
          have HS := Lib.hid (hs.set_ K (v / p10 j % 10))
          have HB := Lib.hid (hb.setCell (p := ⟨w.heap.size, K, none⟩) (Nat.le_refl _) (.int .i64 (v / p10 j % 10)))
          have HD : Hid (v / p10 (j + 1) = v / p10 j / 10) := Lib.hid (p10_div v j)
          have HK := Lib.hid hK
          clear hK ek
          go_wp2_with fail
          go_roundw
          case rel => exact ⟨j + 1, by omega, by have := HK.out; go_num, by rw [HD.out], by rw [← HSet.out, show n - 1 - j = K by have := HK.out; omega]; exact HS.out, HB.out⟩
          case measure => have := HK.out; simp [intOf]
        · obtain rfl : j = n := by omega
          have ek : (j : Int) - 1 - (j : Int) = -1 := by omega
          rw [ek]
          clear ek
          go_wp2_with fail
          go_ret2
          exact ⟨some ⟨w.heap.size, 0, none⟩, j, dl v j j, true, by rw [dl_len]; rfl, hs, by rw [dl_len]; exact n6, fun _ => ⟨dl_num n1 n6, dl_val n1 n6 v0 hz⟩, hb⟩
end Go.Proofs.Ytceigfdmaeanaab
