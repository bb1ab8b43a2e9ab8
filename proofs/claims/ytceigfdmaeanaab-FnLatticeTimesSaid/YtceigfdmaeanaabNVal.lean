/- Contracts of digitAt, digitsValue, NumeralValue. -/
import Derived.Test.YtceigfdmaeanaabChk
import Derived.IntWalk
namespace Go.Proofs.Ytceigfdmaeanaab
open Go.RowKit

/-- The value of the first digits. -/
def valTo (zs : List Int) : Nat → Int
  | 0 => 0
  | j + 1 => valTo zs j * 10 + nth zs j
def numV (zs : List Int) : Int := if numB zs then valTo zs zs.length else -1
theorem valTo_bd {zs : List Int} (h : numB zs = true) : ∀ j, j ≤ 6 → 0 ≤ valTo zs j ∧ valTo zs j < 10 ^ j
  | 0, _ => by simp [valTo]
  | j + 1, hj => by
    have := valTo_bd h j (by omega)
    have := numB_digit h j
    simp only [valTo, Int.pow_succ]; omega
theorem valTo_bd6 {zs : List Int} (h : numB zs = true) {j : Nat} (hj : j ≤ 6) : 0 ≤ valTo zs j ∧ valTo zs j < 1000000 := by
  have h1 := valTo_bd h j hj
  have h2 : (10 : Int) ^ j ≤ 10 ^ 6 := by
    rcases (show j = 0 ∨ j = 1 ∨ j = 2 ∨ j = 3 ∨ j = 4 ∨ j = 5 ∨ j = 6 by omega) with rfl | rfl | rfl | rfl | rfl | rfl | rfl <;> decide
  have h3 : (10 : Int) ^ 6 = 1000000 := by decide
  omega

theorem digs_at {zs : List Int} {k : Nat} (h : k < zs.length) : (digs zs)[k]? = some (UInt8.ofNat (48 + (nth zs k).toNat)) := by
  simp only [digs, digsTo, List.take_length, List.getElem?_map, nth_lt h, Option.map_some]

theorem digitAt (zs : List Int) (k : Nat) (hk : k < zs.length) (d0 : 0 ≤ nth zs k) (d9 : nth zs k ≤ 9) (w : World) :
    Calls Try.prog 61 #[.string ⟨(digs zs).toArray⟩, .int .i64 (k : Int)] w fun e w' => e = .returned (.int .i64 (nth zs k)) ∧ w = w' := by
  have hl : (digs zs).length = zs.length := by rw [digs, digsTo_len _ _ (Nat.le_refl _)]
  have hs : (ByteArray.mk (digs zs).toArray).size = zs.length := by simp [ByteArray.size, hl]
  have hg := digs_at hk
  go_enter Try.func61, Try.ntmps61
  go_wp2_with fail
  go_ret
  refine ⟨ret_int ?_, rfl⟩
  have hkl : k < (digs zs).length := by omega
  have e : (ByteArray.mk (digs zs).toArray)[k]'(by rw [hs]; exact hk) = (digs zs)[k] := rfl
  have e2 : (digs zs)[k] = UInt8.ofNat (48 + (nth zs k).toNat) := by
    rw [List.getElem?_eq_getElem hkl] at hg
    injection hg
  have e3 := digit_byte _ d0 d9
  rw [e, e2]
  omega

theorem digitsValue (zs : List Int) (hn : numB zs = true) (w : World) :
    Calls Try.prog 47 #[.string ⟨(digs zs).toArray⟩] w fun e w' => e = .returned (.int .i64 (valTo zs zs.length)) ∧ w = w' := by
  have ⟨l1, l6, _⟩ := numB_t hn
  have hl : (digs zs).length = zs.length := by rw [digs, digsTo_len _ _ (Nat.le_refl _)]
  have hs : (ByteArray.mk (digs zs).toArray).size = zs.length := by simp [ByteArray.size, hl]
  clear hl
  go_enter Try.func47, Try.ntmps47
  go_wp2
  go_loop [3, 4] (fun q i => ∃ j : Nat, j ≤ zs.length ∧ i = .int .i64 j ∧ q = .int .i64 (valTo zs j)) (fun _ i => zs.length - (intOf i).toNat)
  case atStart => exact ⟨0, Nat.zero_le _, rfl, rfl⟩
  case round =>
    obtain ⟨j, hj, rfl, rfl⟩ := hrel
    have ⟨v0, v1⟩ := valTo_bd6 hn (j := j) (by omega)
    have ⟨d0, d9⟩ := numB_digit hn j
    by_cases hlt : j < zs.length
    · have HS : Hid (valTo zs (j + 1) = valTo zs j * 10 + nth zs j) := Lib.hid rfl
      go_wp2_with fail
      refine (digitAt zs j hlt d0 d9 w).mono ?_
      rintro e w' ⟨rfl, rfl⟩
      go_wp2_with fail
      go_round
      case rel => exact ⟨j + 1, by omega, by go_num, by rw [HS.out]⟩
      case measure => simp [intOf]; omega
    · obtain rfl : j = zs.length := by omega
      go_wp2_with fail
      go_ret
      exact ⟨rfl, rfl⟩

theorem impl_NumeralValue (A : Option Addr) (c : Nat) (zs : List Int) (w : World) (hr : Rd .i64 w A zs) (hl : zs.length ≤ 4194304) :
    Calls Try.prog 17 #[.slice A zs.length c] w fun e w' => e = .returned (.int .i64 (numV zs)) ∧ Below w.heap.size w w' := by
  cases hn : numB zs
  · have HV : Hid (numV zs = -1) := Lib.hid (by simp [numV, hn])
    go_enter Try.func17, Try.ntmps17
    go_wp2_with fail
    refine (digitsOf _ _ _ _ hr hl).mono ?_
    rintro e w1 ⟨s, rfl, _, b1⟩
    rw [hn]
    go_wp2_with fail
    go_ret
    exact ⟨ret_int HV.out.symm, b1⟩
  · have HV : Hid (numV zs = valTo zs zs.length) := Lib.hid (by simp [numV, hn])
    go_enter Try.func17, Try.ntmps17
    go_wp2_with fail
    refine (digitsOf _ _ _ _ hr hl).mono ?_
    rintro e w1 ⟨s, rfl, hs, b1⟩
    obtain rfl := hs hn
    rw [hn]
    go_wp2_with fail
    refine (digitsValue zs hn _).mono ?_
    rintro e w' ⟨rfl, rfl⟩
    go_wp2_with fail
    go_ret
    exact ⟨ret_int HV.out.symm, b1⟩
end Go.Proofs.Ytceigfdmaeanaab
