/- The contract of the program's NumeralOf: the digits of a value. -/
import Derived.Test.YtfdbhaojdccomaaDoorOwn
import Derived.Test.YtfdbhaojdccomaaDoorPow
namespace Go.Proofs.YtfdbhaojdccomaaDoor
open Go.RowKit

theorem nth_setD {zs : List Int} {i j : Nat} {z : Int} (hj : j < zs.length) : nth (zs.set i z) j = if i = j then z else nth zs j := by
  by_cases h : i = j
  · subst h; simp [nth, hj]
  · simp [nth, h]
/-- The last j digits of v, in n places. -/
def dl (v : Int) (n j : Nat) : List Int := (List.range n).map fun i => if n - j ≤ i then v / p10 (n - 1 - i) % 10 else 0
theorem dl_len (v : Int) (n j : Nat) : (dl v n j).length = n := by simp [dl]
theorem dl_nth (v : Int) {n j i : Nat} (h : i < n) : nth (dl v n j) i = if n - j ≤ i then v / p10 (n - 1 - i) % 10 else 0 := by simp [nth, dl, h]
theorem dl_zero (v : Int) (n : Nat) : dl v n 0 = List.replicate n 0 := by
  apply nth_ext
  · simp [dl_len]
  · intro i hi
    rw [dl_len] at hi
    rw [dl_nth v hi, if_neg (by omega)]
    simp [nth, hi]
theorem dl_set (v : Int) {n j : Nat} (h : j < n) : (dl v n j).set (n - 1 - j) (v / p10 j % 10) = dl v n (j + 1) := by
  apply nth_ext
  · simp [dl_len]
  · intro i hi
    rw [List.length_set, dl_len] at hi
    rw [nth_setD (by rw [dl_len]; exact hi), dl_nth v hi, dl_nth v hi]
    by_cases e : n - 1 - j = i
    · subst e
      rw [if_pos rfl, if_pos (by omega), show n - 1 - (n - 1 - j) = j by omega]
    · rw [if_neg e]
      by_cases e2 : n - j ≤ i
      · rw [if_pos e2, if_pos (by omega)]
      · rw [if_neg e2, if_neg (by omega)]
theorem p10_div (v : Int) (k : Nat) : v / p10 (k + 1) = v / p10 k / 10 := by
  have hp := p10_pos k
  simp only [p10]
  rw [← Int.ediv_ediv_of_nonneg (by omega)]
/-- The digits of a value. -/
def NumDig (v : Int) (w : World) (e : Ending) (w' : World) : Prop := ∃ A c n, e = .returned (.tuple #[.slice A n c, .bool true]) ∧ 1 ≤ n ∧ n ≤ 6 ∧ v < p10 n ∧ Sl w' w.heap.size A c (dl v n n) ∧ Below w.heap.size w w'

set_option maxRecDepth 100000 in
set_option maxHeartbeats 1000000 in
theorem impl_NumeralOf (v : Int) (w : World) (v0 : 0 ≤ v) (v1 : v < 1000000) : Calls Tryd.prog 14 #[.int .i64 v] w (NumDig v w) := by
  have d0 : decide (v < 0) = false := by simp; omega
  have d1 : decide (1000000 ≤ v) = false := by simp; omega
  go_enter Tryd.func14, Tryd.ntmps14
  go_wp2_with fail
  clear d0 d1
  go_loop [4, 5] (fun s q => ∃ n : Nat, 1 ≤ n ∧ n ≤ 6 ∧ s = .int .i64 n ∧ q = .int .i64 (v / p10 n)) (fun _ q => (intOf q).toNat)
  case atStart => exact ⟨1, by omega, by omega, rfl, by simp [p10]⟩
  case round =>
    obtain ⟨n, n1, n6, rfl, rfl⟩ := hrel
    have hp := p10_pos n
    have q0 : 0 ≤ v / p10 n := Int.ediv_nonneg v0 (by omega)
    have q1 : v / p10 n ≤ v := Int.ediv_le_self _ v0
    by_cases hc : 0 < v / p10 n
    · have n5 : n ≤ 5 := by
        rcases Nat.lt_or_ge n 6 with h | h
        · omega
        · exfalso
          obtain rfl : n = 6 := by omega
          rw [show p10 6 = 1000000 from rfl, Int.ediv_eq_zero_of_lt v0 v1] at hc
          omega
      have HN : Hid (v / p10 (n + 1) = v / p10 n / 10) := Lib.hid (p10_div v n)
      go_wp2_with fail
      go_round
      case rel => exact ⟨n + 1, by omega, by omega, by go_num, by rw [HN.out]⟩
      case measure => simp [intOf]; omega
    · have hz : v < p10 n := by
        rcases Int.lt_or_le v (p10 n) with h | h
        · exact h
        · exfalso
          have := Int.le_ediv_of_mul_le (show 0 < p10 n by omega) (show 1 * p10 n ≤ v by omega)
          omega
      go_wp2_with (at_make; refine wp_mkN _ _ rfl rfl _ w.heap.size n rfl rfl (by omega) (by omega) ?_; intro w0 hs0 hg0)
      have HS0 := Lib.hid hs0
      have HB0 := Lib.hid ((Below.refl w.heap.size w).grown hg0 (Nat.le_refl _) (fun _ hk => by cases hk))
      clear hs0 hg0
      go_loopw [0, 7] (fun q i wz => ∃ j : Nat, j ≤ n ∧ i = .int .i64 ((n : Int) - 1 - j) ∧ q = .int .i64 (v / p10 j) ∧ Sl wz w.heap.size (some ⟨w.heap.size, 0, none⟩) n (dl v n j) ∧ Below w.heap.size w wz) (fun _ i _ => (intOf i + 1).toNat)
      case atStart => exact ⟨0, Nat.zero_le _, by simp, by simp [p10], by rw [dl_zero]; exact HS0.out, HB0.out⟩
      case round =>
        obtain ⟨j, hj, rfl, rfl, hs, hb⟩ := hrel
        have hpj := p10_pos j
        have q2 : 0 ≤ v / p10 j := Int.ediv_nonneg v0 (by omega)
        have q3 : v / p10 j ≤ v := Int.ediv_le_self _ v0
        by_cases hlt : j < n
        · obtain ⟨K, hK⟩ : ∃ K : Nat, n = K + 1 + j := ⟨n - 1 - j, by omega⟩
          have ek : (n : Int) - 1 - (j : Int) = (K : Int) := by omega
          rw [ek]
          have kl : K < n := by omega
          have HSet := Lib.hid (dl_set v hlt)
          have hcell := hs.cell (j := K) (by rw [dl_len]; exact kl)
          have hf := hs.free K
          have hgl := (hs.lt w.heap.size rfl).2
          have HS := Lib.hid (hs.set_ K (v / p10 j % 10))
          have HB := Lib.hid (hb.setCell (p := ⟨w.heap.size, K, none⟩) (Nat.le_refl _) (.int .i64 (v / p10 j % 10)))
          have HD : Hid (v / p10 (j + 1) = v / p10 j / 10) := Lib.hid (p10_div v j)
          have HK := Lib.hid hK
          clear hK ek
          go_wp2_with fail
          go_roundw
          case rel => exact ⟨j + 1, by omega, by have := HK.out; go_num, by rw [HD.out], by rw [← HSet.out, show n - 1 - j = K by have := HK.out; omega]; exact HS.out, HB.out⟩
          case measure => have := HK.out; simp [intOf]
        · obtain rfl : j = n := by omega
          have ek : (j : Int) - 1 - (j : Int) = -1 := by omega
          rw [ek]
          clear ek
          go_wp2_with fail
          go_ret2
          exact ⟨some ⟨w.heap.size, 0, none⟩, j, j, rfl, n1, n6, hz, hs, hb⟩
end Go.Proofs.YtfdbhaojdccomaaDoor
