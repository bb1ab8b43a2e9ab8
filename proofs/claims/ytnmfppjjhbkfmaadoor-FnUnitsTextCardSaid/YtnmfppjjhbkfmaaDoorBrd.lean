/- Boards: the reference's BoardValid and BoardText. -/
import Derived.Test.YtnmfppjjhbkfmaaDoorDec
namespace Go.Proofs.YtnmfppjjhbkfmaaDoor
open Go.RowKit

/-- A board. -/
def brdB (zs : List Int) : Bool := decide (zs.length = 10) && (List.range zs.length).all fun i => inB (nth zs i) 0 20
theorem brdB_t {zs : List Int} (h : brdB zs = true) : zs.length = 10 ∧ ∀ i, i < 10 → 0 ≤ nth zs i ∧ nth zs i ≤ 20 := by
  simp only [brdB, Bool.and_eq_true, decide_eq_true_eq, List.all_eq_true, List.mem_range] at h
  exact ⟨h.1, fun i hi => inB_t (h.2 i (by omega))⟩
theorem brdB_no {zs : List Int} {i : Nat} (hi : i < zs.length) (h : inB (nth zs i) 0 20 = false) : brdB zs = false := by
  have : ((List.range zs.length).all fun i => inB (nth zs i) 0 20) = false := by
    rw [List.all_eq_false]
    exact ⟨i, List.mem_range.2 hi, by simp [h]⟩
  simp [brdB, this]
theorem brdB_all {zs : List Int} (h : ∀ i, i < zs.length → inB (nth zs i) 0 20 = true) : brdB zs = decide (zs.length = 10) := by
  have : ((List.range zs.length).all fun i => inB (nth zs i) 0 20) = true := by
    rw [List.all_eq_true]
    intro i hi
    exact h i (List.mem_range.1 hi)
  simp [brdB, this]

/-- The text of the first j places, from the last on. -/
def btx (zs : List Int) : Nat → List UInt8
  | 0 => []
  | j + 1 => btx zs j ++ dec2 (nth zs (9 - j)).toNat ++ (if j < 9 then [124] else [])
theorem btx_len (zs : List Int) : ∀ j, (btx zs j).length ≤ 3 * j
  | 0 => by simp [btx]
  | j + 1 => by
    have := btx_len zs j
    have := (dec2_len (nth zs (9 - j)).toNat).2
    rw [btx, List.length_append, List.length_append]
    split <;> simp <;> omega
def btxt (zs : List Int) : ByteArray := if brdB zs then dtx (btx zs 10) else dtx []

theorem ret_str {a b : ByteArray} (h : a = b) : Ending.returned (.string a) = .returned (.string b) := by rw [h]

set_option maxRecDepth 100000 in
theorem spec_BoardValid (A : Option Addr) (c : Nat) (zs : List Int) (w : World) (hr : Rd .i64 w A zs) (hl : zs.length ≤ 4194304) :
    Calls Tryd.prog 20 #[.slice A zs.length c] w fun e w' => e = .returned (.bool (brdB zs)) ∧ w = w' := by
  go_enter Tryd.func20, Tryd.ntmps20
  go_wp2
  go_loop [3] (fun i => ∃ j : Nat, j ≤ zs.length ∧ i = .int .i64 (j : Int) ∧ Hid (∀ k, k < j → inB (nth zs k) 0 20 = true)) (fun i => zs.length - (intOf i).toNat)
  case atStart => exact ⟨0, Nat.zero_le _, rfl, Lib.hid (fun k hk => by omega)⟩
  case round =>
    obtain ⟨j, hj, rfl, HK⟩ := hrel
    by_cases hlt : j < zs.length
    · obtain ⟨b, off, rfl, hbl, hc⟩ := hr.at hlt
      cases hin : inB (nth zs j) 0 20
      · have HF := Lib.hid (brdB_no hlt hin)
        go_wp2_with fail
        refine (l6In _ _ _ _).mono ?_
        rintro e w' ⟨rfl, rfl⟩
        rw [hin]
        go_wp2_with fail
        go_ret
        exact ⟨ret_bool HF.out.symm, rfl⟩
      · have HK2 : Hid (∀ k, k < j + 1 → inB (nth zs k) 0 20 = true) := Lib.hid (fun k hk => by
          rcases Nat.lt_or_ge k j with h1 | h1
          · exact HK.out k h1
          · obtain rfl : k = j := by omega
            exact hin)
        go_wp2_with fail
        refine (l6In _ _ _ _).mono ?_
        rintro e w' ⟨rfl, rfl⟩
        rw [hin]
        clear hin
        go_wp2_with fail
        go_round
        case rel => exact ⟨j + 1, by omega, by go_num, HK2⟩
        case measure => simp [intOf]; omega
    · obtain rfl : j = zs.length := by omega
      have HF := Lib.hid (brdB_all HK.out)
      go_wp2_with fail
      go_ret
      exact ⟨ret_bool (by rw [HF.out]; by_cases h : zs.length = 10 <;> simp [h] <;> omega), rfl⟩

set_option maxRecDepth 100000 in
set_option maxHeartbeats 1000000 in
theorem spec_BoardText (A : Option Addr) (c : Nat) (zs : List Int) (w : World) (hr : Rd .i64 w A zs) (hl : zs.length ≤ 4194304) :
    Calls Tryd.prog 10 #[.slice A zs.length c] w fun e w' => e = .returned (.string (btxt zs)) ∧ Below w.heap.size w w' := by
  have w7 : IntKind.i64.wrap ((zs.length : Int) - 1) = (zs.length : Int) - 1 := IntWalk.i64_in _ (by omega)
  cases hf : brdB zs
  · have HF : Hid (btxt zs = dtx []) := Lib.hid (by simp [btxt, hf])
    by_cases hz : zs.length = 0
    · obtain rfl : zs = [] := List.eq_nil_of_length_eq_zero hz
      clear w7 hz
      go_enter Tryd.func10, Tryd.ntmps10
      go_wp2_with fail
      go_loopw [3, 4] (fun q i wr => q = .string (dtx []) ∧ i = .int .i64 (-1) ∧ Below w.heap.size w wr) (fun _ i _ => (intOf i).toNat)
      case atStart => exact ⟨rfl, rfl, Below.refl _ _⟩
      case round =>
        obtain ⟨rfl, rfl, hb⟩ := hrel
        go_wp2_with fail
        go_ret
        exact ⟨ret_str HF.out.symm, hb⟩
    · have z0 : 0 ≤ (zs.length : Int) - 1 := by omega
      go_enter Tryd.func10, Tryd.ntmps10
      go_wp2_with fail
      go_loopw [3, 4] (fun q i wr => q = .string (dtx []) ∧ i = .int .i64 ((zs.length : Int) - 1) ∧ wr = w) (fun _ i _ => (intOf i).toNat)
      case atStart => exact ⟨rfl, rfl, rfl⟩
      case round =>
        obtain ⟨rfl, rfl, rfl⟩ := hrel
        go_wp2_with fail
        refine (spec_BoardValid _ _ _ _ hr hl).mono ?_
        rintro e w1 ⟨rfl, rfl⟩
        rw [hf]
        go_wp2_with fail
        go_ret
        exact ⟨ret_str HF.out.symm, Below.refl _ _⟩
  · obtain ⟨h10, hall⟩ := brdB_t hf
    have HALL := Lib.hid hall
    have H10 := Lib.hid h10
    have HF : Hid (btxt zs = dtx (btx zs 10)) := Lib.hid (by simp [btxt, hf])
    have hzi : (zs.length : Int) = 10 := by omega
    have HZI := Lib.hid hzi
    clear hall h10 hzi
    go_enter Tryd.func10, Tryd.ntmps10
    go_wp2_with fail
    go_loopw [3, 4] (fun q i wr => ∃ j : Nat, j ≤ 10 ∧ i = .int .i64 (9 - (j : Int)) ∧ q = .string (dtx (btx zs j)) ∧ Below w.heap.size w wr) (fun _ i _ => (intOf i + 1).toNat)
    case atStart => exact ⟨0, Nat.zero_le _, by have := HZI.out; simp only [Value.int.injEq, true_and]; omega, rfl, Below.refl _ _⟩
    case round =>
      obtain ⟨j, hj, rfl, rfl, hb⟩ := hrel
      by_cases hlt : j < 10
      · obtain ⟨k, hk⟩ : ∃ k : Nat, (9 : Int) - (j : Int) = (k : Int) := ⟨9 - j, by omega⟩
        have hkn : 9 - j = k := by omega
        have hkl : k < zs.length := by rw [H10.out]; omega
        have ⟨d0, d1⟩ := HALL.out k (by omega)
        obtain ⟨m, hm⟩ : ∃ m : Nat, nth zs k = (m : Int) := ⟨(nth zs k).toNat, by omega⟩
        have hm20 : m ≤ 20 := by omega
        have hrb := hr.below hb
        obtain ⟨b, off, rfl, hbl, hc⟩ := hrb.at hkl
        rw [hm] at hc
        have hbt : btx zs (j + 1) = btx zs j ++ dec2 m ++ (if j < 9 then [124] else []) := by rw [btx, hkn, hm]; rfl
        have HBT := Lib.hid hbt
        have l1 := btx_len zs j
        have l2 := (dec2_len m).2
        have y1 : ¬ (9223372036854775807 < (dtx (btx zs j)).size + (dtx (dec2 m)).size) := by rw [dtx_size, dtx_size]; omega
        have hA1 := dtx_app (btx zs j) (dec2 m)
        have y2 : ¬ (9223372036854775807 < (dtx (btx zs j ++ dec2 m)).size + ({ data := #[124] } : ByteArray).size) := by rw [dtx_size, List.length_append]; simp only [ByteArray.size]; simp; omega
        have HA2 := Lib.hid (dtx_app (btx zs j ++ dec2 m) [124])
        have w8 : IntKind.i64.wrap (9 - (j : Int) - 1) = 9 - (j : Int) - 1 := IntWalk.i64_in _ (by omega)
        have w9 : IntKind.i64.wrap ((k : Int) - 1) = (k : Int) - 1 := IntWalk.i64_in _ (by omega)
        have HK := Lib.hid hk
        have HKN := Lib.hid hkn
        clear hbt l1 l2 d0 d1 hm hkn
        have z0 : 0 ≤ (k : Int) := by omega
        rw [hk]
        clear hk
        by_cases h9 : j < 9
        · have hk1 : 0 < k := by have := HKN.out; omega
          have HB9 : Hid (btx zs (j + 1) = btx zs j ++ dec2 m ++ [124]) := Lib.hid (by rw [HBT.out, if_pos h9])
          go_wp2_with fail
          refine (spec_BoardValid _ _ _ _ hrb hl).mono ?_
          rintro e w1 ⟨rfl, rfl⟩
          rw [hf]
          go_wp2_with fail
          refine (l6Dec m _ (by omega)).mono ?_
          rintro e w3 ⟨rfl, q3⟩
          have HB3 := Lib.hid (bstep hb q3)
          clear q3 hc hrb hb
          go_wp2_with fail
          go_roundw
          case rel => exact ⟨j + 1, by omega, by have h9 := HK.out; simp only [Value.int.injEq, true_and]; omega, by rw [HB9.out, ← HA2.out] <;> rfl, HB3.out⟩
          case measure => have h9 := HK.out; simp [intOf] <;> omega
        · have hk1 : k = 0 := by have := HKN.out; omega
          subst hk1
          simp only [Nat.add_zero] at hc
          have HB9 : Hid (btx zs (j + 1) = btx zs j ++ dec2 m) := Lib.hid (by rw [HBT.out, if_neg h9, List.append_nil])
          go_wp2_with fail
          refine (spec_BoardValid _ _ _ _ hrb hl).mono ?_
          rintro e w1 ⟨rfl, rfl⟩
          rw [hf]
          go_wp2_with fail
          refine (l6Dec m _ (by omega)).mono ?_
          rintro e w3 ⟨rfl, q3⟩
          have HB3 := Lib.hid (bstep hb q3)
          clear q3 hc hrb hb
          go_wp2_with fail
          go_roundw
          case rel => exact ⟨j + 1, by omega, by have h9 := HK.out; simp only [Value.int.injEq, true_and]; omega, by rw [HB9.out] <;> first | rfl | trivial, HB3.out⟩
          case measure => have h9 := HK.out; simp [intOf]
      · obtain rfl : j = 10 := by omega
        go_wp2_with fail
        go_ret
        exact ⟨ret_str HF.out.symm, hb⟩
end Go.Proofs.YtnmfppjjhbkfmaaDoor
