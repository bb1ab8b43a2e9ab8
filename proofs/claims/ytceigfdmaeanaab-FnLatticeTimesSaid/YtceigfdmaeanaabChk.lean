/- Contracts of the checks by nines and elevens, and of the distance of numerals. -/
import Derived.Test.YtceigfdmaeanaabChkP
namespace Go.Proofs.Ytceigfdmaeanaab
open Go.RowKit

/-- Whatever reads old memory reads as it did. -/
def RetB (w : World) (v : Value) (e : Ending) (w' : World) : Prop := e = .returned v ∧ Below w.heap.size w w'

theorem spec_l1Sum (A : Option Addr) (c : Nat) (zs : List Int) (w : World) (hr : Rd .i64 w A zs) (hn : numB zs = true) :
    Calls Try.prog 62 #[.slice A zs.length c] w fun e w' => e = .returned (.int .i64 (sumTo zs zs.length)) ∧ w = w' := by
  have hl := (numB_t hn).2.1
  go_enter Try.func62, Try.ntmps62
  go_wp2
  go_loop [3, 4] (fun s i => ∃ j : Nat, j ≤ zs.length ∧ i = .int .i64 j ∧ s = .int .i64 (sumTo zs j)) (fun _ i => zs.length - (intOf i).toNat)
  case atStart => exact ⟨0, Nat.zero_le _, rfl, by simp [sumTo]⟩
  case round =>
    obtain ⟨j, hj, rfl, rfl⟩ := hrel
    by_cases hlt : j < zs.length
    · obtain ⟨b, off, rfl, hbl, hc⟩ := hr.at hlt
      have ⟨s0, s1⟩ := sumTo_bd hn j
      have ⟨d0, d1⟩ := numB_digit hn j
      have hs := Lib.hid (sumTo_succ zs j hlt)
      go_wp2
      go_round
      case rel => exact ⟨j + 1, by omega, by go_num, by rw [hs.out]⟩
      case measure => simp [intOf]; omega
    · obtain rfl : j = zs.length := by omega
      go_wp2
      go_ret
      exact ⟨rfl, rfl⟩

theorem spec_NinesOf (A : Option Addr) (c : Nat) (zs : List Int) (w : World) (hr : Rd .i64 w A zs) (hl : zs.length ≤ 4194304) :
    Calls Try.prog 49 #[.slice A zs.length c] w fun e w' => e = .returned (.int .i64 (ninesV zs)) ∧ w = w' := by
  cases hn : numB zs
  · rw [ninesV_no hn]
    go_enter Try.func49, Try.ntmps49
    go_wp2_with (go_at_call 38; refine (spec_NumeralValid _ _ _ _ hr hl).mono ?_; rintro e w' ⟨rfl, rfl⟩)
    go_ret
    exact ⟨rfl, rfl⟩
  · have hv := Lib.hid (ninesV_yes hn)
    have ⟨s0, s1⟩ := sumTo_bd hn zs.length
    go_enter Try.func49, Try.ntmps49
    go_wp2_with (first
      | (go_at_call 38; refine (spec_NumeralValid _ _ _ _ hr hl).mono ?_; rintro e w' ⟨rfl, rfl⟩)
      | (go_at_call 62; refine (spec_l1Sum _ _ _ _ hr hn).mono ?_; rintro e w' ⟨rfl, rfl⟩))
    go_ret
    exact ⟨ret_int hv.out.symm, rfl⟩

theorem impl_NinesOf (A : Option Addr) (c : Nat) (zs : List Int) (w : World) (hr : Rd .i64 w A zs) (hl : zs.length ≤ 4194304) :
    Calls Try.prog 66 #[.slice A zs.length c] w (RetB w (.int .i64 (ninesV zs))) := by
  cases hn : numB zs
  · rw [ninesV_no hn]
    go_enter Try.func66, Try.ntmps66
    go_wp2_with (go_at_call 37; refine (impl_NumeralValid _ _ _ _ hr hl).mono ?_; rintro e w1 ⟨rfl, hb⟩)
    go_ret
    exact ⟨rfl, hb⟩
  · have hl6 := (numB_t hn).2.1
    go_enter Try.func66, Try.ntmps66
    go_wp2_with (go_at_call 37; refine (impl_NumeralValid _ _ _ _ hr hl).mono ?_; rintro e w1 ⟨rfl, hb⟩)
    go_loop [3, 11] (fun s i => ∃ j : Nat, j ≤ zs.length ∧ i = .int .i64 j ∧ s = .int .i64 (sumTo zs j)) (fun _ i => zs.length - (intOf i).toNat)
    case atStart => exact ⟨0, Nat.zero_le _, rfl, by simp [sumTo]⟩
    case round =>
      obtain ⟨j, hj, rfl, rfl⟩ := hrel
      have ⟨s0, s1⟩ := sumTo_bd hn j
      by_cases hlt : j < zs.length
      · obtain ⟨b, off, rfl, hbl, hc⟩ := (hr.below hb).at hlt
        have ⟨d0, d1⟩ := numB_digit hn j
        have hs := Lib.hid (sumTo_succ zs j hlt)
        go_wp2
        go_round
        case rel => exact ⟨j + 1, by omega, by go_num, by rw [hs.out]⟩
        case measure => simp [intOf]; omega
      · obtain rfl : j = zs.length := by omega
        go_wp2
        go_ret
        exact ⟨ret_int (ninesV_yes hn).symm, hb⟩

theorem spec_ElevensOf (A : Option Addr) (c : Nat) (zs : List Int) (w : World) (hr : Rd .i64 w A zs) (hl : zs.length ≤ 4194304) :
    Calls Try.prog 45 #[.slice A zs.length c] w fun e w' => e = .returned (.int .i64 (elevV zs)) ∧ w = w' := by
  cases hn : numB zs
  · rw [elevV_no hn]
    go_enter Try.func45, Try.ntmps45
    go_wp2_with (go_at_call 38; refine (spec_NumeralValid _ _ _ _ hr hl).mono ?_; rintro e w' ⟨rfl, rfl⟩)
    go_ret
    exact ⟨rfl, rfl⟩
  · have hl6 := (numB_t hn).2.1
    have hv := Lib.hid (elevV_yes hn)
    go_enter Try.func45, Try.ntmps45
    go_wp2_with (go_at_call 38; refine (spec_NumeralValid _ _ _ _ hr hl).mono ?_; rintro e w' ⟨rfl, rfl⟩)
    go_loop [3, 4] (fun s i => ∃ j : Nat, j ≤ zs.length ∧ i = .int .i64 j ∧ s = .int .i64 (altTo zs j)) (fun _ i => zs.length - (intOf i).toNat)
    case atStart => exact ⟨0, Nat.zero_le _, rfl, by simp [altTo]⟩
    case round =>
      obtain ⟨j, hj, rfl, rfl⟩ := hrel
      have ⟨s0, s1⟩ := altTo_bd hn j
      by_cases hlt : j < zs.length
      · obtain ⟨b, off, rfl, hbl, hc⟩ := hr.at hlt
        have ⟨d0, d1⟩ := numB_digit hn j
        have hs := Lib.hid (altTo_succ zs j)
        by_cases hp : (zs.length - 1 - j) % 2 = 0
        · have hg := Lib.hid (show sg zs j = nth zs j by simp [sg, hp])
          have ht : (((zs.length : Int) - 1 - j) % 2 == 0) = true := by simp; omega
          clear hp
          go_wp2
          go_round
          case rel => exact ⟨j + 1, by omega, by go_num, by rw [hs.out, hg.out]⟩
          case measure => simp [intOf]; omega
        · have hg := Lib.hid (show sg zs j = - nth zs j by simp only [sg, if_neg hp])
          have ht : (((zs.length : Int) - 1 - j) % 2 == 0) = false := by simp; omega
          clear hp
          go_wp2
          go_round
          case rel => exact ⟨j + 1, by omega, by go_num, by rw [hs.out, hg.out]; rfl⟩
          case measure => simp [intOf]; omega
      · obtain rfl : j = zs.length := by omega
        have ⟨t0, t1⟩ := tmod11_bd (altTo zs zs.length)
        go_wp2
        go_ret
        exact ⟨ret_int (by rw [hv.out]; exact tmod11' _), rfl⟩

/-- The sign at the place ahead of j. -/
def sgn (zs : List Int) (j : Nat) : Int := if (zs.length - j) % 2 = 0 then 1 else -1
theorem sgn_cases (zs : List Int) (j : Nat) : sgn zs j = 1 ∨ sgn zs j = -1 := by unfold sgn; split <;> simp
theorem sgn_down (zs : List Int) (j : Nat) (h : j + 1 ≤ zs.length) : sgn zs j = - sgn zs (j + 1) := by
  unfold sgn
  by_cases hp : (zs.length - j) % 2 = 0
  · rw [if_pos hp, if_neg (by omega)]; rfl
  · rw [if_neg hp, if_pos (by omega)]
theorem sgn_mul (zs : List Int) (j : Nat) : sgn zs (j + 1) * nth zs j = sg zs j := by
  unfold sgn sg
  rw [show zs.length - (j + 1) = zs.length - 1 - j from by omega]
  split <;> simp
theorem sgn_mul_bd {zs : List Int} (h : numB zs = true) (j : Nat) : -9 ≤ sgn zs (j + 1) * nth zs j ∧ sgn zs (j + 1) * nth zs j ≤ 9 := by
  rw [sgn_mul]; exact sg_bd h j

theorem impl_ElevensOf (A : Option Addr) (c : Nat) (zs : List Int) (w : World) (hr : Rd .i64 w A zs) (hl : zs.length ≤ 4194304) :
    Calls Try.prog 67 #[.slice A zs.length c] w (RetB w (.int .i64 (elevV zs))) := by
  cases hn : numB zs
  · rw [elevV_no hn]
    go_enter Try.func67, Try.ntmps67
    go_wp2_with (go_at_call 37; refine (impl_NumeralValid _ _ _ _ hr hl).mono ?_; rintro e w1 ⟨rfl, hb⟩)
    go_ret
    exact ⟨rfl, hb⟩
  · have hl6 := (numB_t hn).2.1
    have hl1 := (numB_t hn).1
    go_enter Try.func67, Try.ntmps67
    go_wp2_with (go_at_call 37; refine (impl_NumeralValid _ _ _ _ hr hl).mono ?_; rintro e w1 ⟨rfl, hb⟩)
    go_loop [3, 4, 5] (fun s g i => ∃ j : Nat, j ≤ zs.length ∧ i = .int .i64 ((j : Int) - 1) ∧ g = .int .i64 (sgn zs j) ∧ s = .int .i64 (altTo zs zs.length - altTo zs j)) (fun _ _ i => (intOf i + 1).toNat)
    case atStart => exact ⟨zs.length, Nat.le_refl _, rfl, by simp [sgn], by simp⟩
    case round =>
      obtain ⟨j, hj, rfl, rfl, rfl⟩ := hrel
      have ⟨s0, s1⟩ := altTo_bd hn j
      have ⟨q0, q1⟩ := altTo_bd hn zs.length
      match j, hj, s0, s1 with
      | j + 1, hj, s0, s1 =>
        obtain ⟨b, off, rfl, hbl, hc⟩ := (hr.below hb).at (i := j) (by omega)
        have ⟨d0, d1⟩ := numB_digit hn j
        have ⟨p0, p1⟩ := sgn_mul_bd hn j
        have hs := Lib.hid (altTo_succ zs j)
        have hm := Lib.hid (sgn_mul zs j)
        have hd := Lib.hid (sgn_down zs j (by omega))
        have ⟨g0, g1⟩ : -1 ≤ sgn zs (j + 1) ∧ sgn zs (j + 1) ≤ 1 := by rcases sgn_cases zs (j + 1) with h | h <;> omega
        rw [show (((j + 1 : Nat) : Int) - 1) = (j : Int) from by omega]
        go_wp2
        go_round
        case rel => exact ⟨j, by omega, by go_num, by rw [hd.out], by rw [hm.out, hs.out]; go_num⟩
        case measure => simp [intOf]
      | 0, hj, s0, s1 =>
        have e0 : altTo zs 0 = 0 := rfl
        rw [e0, Int.sub_zero]
        have ⟨t0, t1⟩ := tmod11_bd (altTo zs zs.length)
        rw [show (((0 : Nat) : Int) - 1) = -1 from by omega]
        clear e0
        go_wp2
        go_ret
        exact ⟨ret_int (by rw [elevV_yes hn]; exact tmod11' _), hb⟩
end Go.Proofs.Ytceigfdmaeanaab
