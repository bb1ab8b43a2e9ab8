/- Units: the reference's UnitsValid and UnitsText. -/
import Derived.Test.YtnmfppjjhbkfmaaDoorUDec
namespace Go.Proofs.YtnmfppjjhbkfmaaDoor
open Go.RowKit

/-- The number ahead of place i. -/
def lastN (zs : List Int) (i : Nat) : Int := if i = 0 then 1 else nth zs (i - 1)
/-- The first i numbers are denominators in order. -/
def ascTo (zs : List Int) (i : Nat) : Bool := (List.range i).all fun k => inB (nth zs k) (lastN zs k + 1) 1000000000
def untB (zs : List Int) : Bool := decide (zs.length ≤ 8) && ascTo zs zs.length
theorem ascTo_iff {zs : List Int} {i : Nat} : ascTo zs i = true ↔ ∀ k, k < i → lastN zs k + 1 ≤ nth zs k ∧ nth zs k ≤ 1000000000 := by
  simp only [ascTo, List.all_eq_true, List.mem_range]
  constructor
  · intro h k hk
    exact inB_t (h k hk)
  · intro h k hk
    exact inB_of (h k hk).1 (h k hk).2
theorem untB_no {zs : List Int} {i : Nat} (hi : i < zs.length) (h : inB (nth zs i) (lastN zs i + 1) 1000000000 = false) : untB zs = false := by
  have : ascTo zs zs.length = false := by
    rw [ascTo, List.all_eq_false]
    exact ⟨i, List.mem_range.2 hi, by simp [h]⟩
  simp [untB, this]
theorem asc_low {zs : List Int} {n : Nat} (h : ∀ k, k < n → lastN zs k + 1 ≤ nth zs k ∧ nth zs k ≤ 1000000000) : ∀ k, k < n → 2 ≤ nth zs k
  | 0, hk => by
    have := (h 0 hk).1
    simp [lastN] at this
    omega
  | k + 1, hk => by
    have h1 := asc_low h k (by omega)
    have := (h (k + 1) hk).1
    simp [lastN] at this
    omega

/-- The text of the first j units. -/
def utx (zs : List Int) : Nat → List UInt8
  | 0 => []
  | j + 1 => utx zs j ++ (if 0 < j then [32, 43, 32] else []) ++ [49, 47] ++ Lib.decDigits (nth zs j).toNat
theorem utx_len {zs : List Int} (h : ∀ k, k < zs.length → nth zs k ≤ 1000000000) : ∀ j, j ≤ zs.length → (utx zs j).length ≤ 15 * j
  | 0, _ => by simp [utx]
  | j + 1, hj => by
    have := utx_len h j (by omega)
    have := decD_len 9 (nth zs j).toNat (by have := h j (by omega); omega)
    rw [utx, List.length_append, List.length_append, List.length_append]
    split <;> simp <;> omega
def utxt (zs : List Int) : ByteArray := if untB zs then (if zs = [] then dtx [48] else dtx (utx zs zs.length)) else dtx []

theorem ret_strU {a b : ByteArray} (h : a = b) : Ending.returned (.string a) = .returned (.string b) := by rw [h]

set_option maxRecDepth 100000 in
theorem spec_UnitsValid (A : Option Addr) (c : Nat) (zs : List Int) (w : World) (hr : Rd .i64 w A zs) (hl : zs.length ≤ 4194304) :
    Calls Tryd.prog 16 #[.slice A zs.length c] w fun e w' => e = .returned (.bool (untB zs)) ∧ w = w' := by
  go_enter Tryd.func16, Tryd.ntmps16
  go_wp2_with fail
  go_loop [3, 4] (fun q i => ∃ j : Nat, j ≤ zs.length ∧ i = .int .i64 (j : Int) ∧ q = .int .i64 (lastN zs j) ∧ Hid (∀ k, k < j → lastN zs k + 1 ≤ nth zs k ∧ nth zs k ≤ 1000000000)) (fun _ i => zs.length - (intOf i).toNat)
  case atStart => exact ⟨0, Nat.zero_le _, rfl, rfl, Lib.hid (fun k hk => by omega)⟩
  case round =>
    obtain ⟨j, hj, rfl, rfl, HK⟩ := hrel
    have lb : 1 ≤ lastN zs j ∧ lastN zs j ≤ 1000000000 := by
      unfold lastN
      by_cases h0 : j = 0
      · rw [if_pos h0]; omega
      · rw [if_neg h0]
        have := asc_low HK.out (j - 1) (by omega)
        have := (HK.out (j - 1) (by omega)).2
        omega
    obtain ⟨l0, l1⟩ := lb
    by_cases hlt : j < zs.length
    · obtain ⟨b, off, rfl, hbl, hc⟩ := hr.at hlt
      have HS : Hid (lastN zs (j + 1) = nth zs j) := Lib.hid (by simp [lastN])
      have wA : IntKind.i64.wrap (lastN zs j + 1) = lastN zs j + 1 := IntWalk.i64_in _ (by omega)
      cases hin : inB (nth zs j) (lastN zs j + 1) 1000000000
      · have HF := Lib.hid (untB_no hlt hin)
        go_wp2_with fail
        refine (l6In _ _ _ _).mono ?_
        rintro e w' ⟨rfl, rfl⟩
        rw [hin]
        go_wp2_with fail
        go_ret
        exact ⟨ret_bool HF.out.symm, rfl⟩
      · have HK2 : Hid (∀ k, k < j + 1 → lastN zs k + 1 ≤ nth zs k ∧ nth zs k ≤ 1000000000) := Lib.hid (fun k hk => by
          rcases Nat.lt_or_ge k j with h1 | h1
          · exact HK.out k h1
          · obtain rfl : k = j := by omega
            exact inB_t hin)
        go_wp2_with fail
        refine (l6In _ _ _ _).mono ?_
        rintro e w' ⟨rfl, rfl⟩
        rw [hin]
        clear hin
        go_wp2_with fail
        go_round
        case rel => exact ⟨j + 1, by omega, by go_num, by rw [HS.out], HK2⟩
        case measure => simp [intOf]; omega
    · obtain rfl : j = zs.length := by omega
      have HF : Hid (ascTo zs zs.length = true) := Lib.hid (ascTo_iff.2 HK.out)
      go_wp2_with fail
      go_ret
      exact ⟨ret_bool (by rw [untB, HF.out, Bool.and_true]; by_cases h : zs.length ≤ 8 <;> simp [h] <;> omega), rfl⟩

set_option maxRecDepth 100000 in
set_option maxHeartbeats 1000000 in
theorem spec_UnitsText (A : Option Addr) (c : Nat) (zs : List Int) (w : World) (hr : Rd .i64 w A zs) (hl : zs.length ≤ 4194304) :
    Calls Tryd.prog 7 #[.slice A zs.length c] w fun e w' => e = .returned (.string (utxt zs)) ∧ Below w.heap.size w w' := by
  cases hf : untB zs
  · have HF : Hid (utxt zs = dtx []) := Lib.hid (by simp [utxt, hf])
    go_enter Tryd.func7, Tryd.ntmps7
    go_wp2_with fail
    refine (spec_UnitsValid _ _ _ _ hr hl).mono ?_
    rintro e w' ⟨rfl, rfl⟩
    rw [hf]
    go_wp2_with fail
    go_ret
    exact ⟨ret_strU HF.out.symm, Below.refl _ _⟩
  · by_cases hz : zs = []
    · subst hz
      have HF : Hid (utxt [] = dtx [48]) := Lib.hid (by simp [utxt, hf])
      have hcall := spec_UnitsValid A c [] w hr hl
      rw [hf] at hcall
      have HC := Lib.hid hcall
      clear hcall hf
      go_enter Tryd.func7, Tryd.ntmps7
      go_wp2_with fail
      refine HC.out.mono ?_
      rintro e w' ⟨rfl, rfl⟩
      go_wp2_with fail
      go_ret
      exact ⟨ret_strU HF.out.symm, Below.refl _ _⟩
    · have HF : Hid (utxt zs = dtx (utx zs zs.length)) := Lib.hid (by simp [utxt, hf, hz])
      have hb : zs.length ≤ 8 ∧ ascTo zs zs.length = true := by simpa [untB] using hf
      have hasc := ascTo_iff.1 hb.2
      have HA := Lib.hid hasc
      have HL := Lib.hid (fun j hj => utx_len (zs := zs) (fun k hk => (hasc k hk).2) j hj)
      have hl8 := hb.1
      have hpos : 0 < zs.length := List.length_pos_iff.2 hz
      have hcall := spec_UnitsValid A c zs w hr hl
      rw [hf] at hcall
      have HC := Lib.hid hcall
      clear hcall hf hb hasc hz
      go_enter Tryd.func7, Tryd.ntmps7
      go_wp2_with fail
      refine HC.out.mono ?_
      rintro e w' ⟨rfl, rfl⟩
      have hd0 : ((zs.length : Int) == 0) = false := by
        rw [beq_eq_false_iff_ne]; omega
      go_wp2_with fail
      go_loopw [3, 4] (fun q i wr => ∃ j : Nat, j ≤ zs.length ∧ i = .int .i64 (j : Int) ∧ q = .string (dtx (utx zs j)) ∧ Below w.heap.size w wr) (fun _ i _ => zs.length - (intOf i).toNat)
      case atStart => exact ⟨0, Nat.zero_le _, rfl, rfl, Below.refl _ _⟩
      case round =>
        obtain ⟨j, hj, rfl, rfl, hb⟩ := hrel
        by_cases hlt : j < zs.length
        · have hrb := hr.below hb
          obtain ⟨b, off, rfl, hbl, hc⟩ := hrb.at hlt
          have hlow := asc_low HA.out j hlt
          have hup := (HA.out j hlt).2
          obtain ⟨m, hm⟩ : ∃ m : Nat, nth zs j = (m : Int) := ⟨(nth zs j).toNat, by omega⟩
          have hm9 : m ≤ 2000000000 := by omega
          rw [hm] at hc
          have HUT : Hid (utx zs (j + 1) = utx zs j ++ (if 0 < j then [32, 43, 32] else []) ++ [49, 47] ++ Lib.decDigits m) := Lib.hid (by rw [utx, hm]; rfl)
          have hul := HL.out j hj
          have hdl := decD_len 9 m (by omega)
          obtain ⟨D, hD⟩ : ∃ D, Lib.decDigits m = D := ⟨_, rfl⟩
          have HCD : Hid (∀ w, Calls Tryd.prog 17 #[.int .i64 (m : Int)] w fun e w' => e = .returned (.string (dtx D)) ∧ Below w.heap.size w w') := Lib.hid (fun w => hD ▸ l6DecU m w hm9)
          rw [hD] at HUT hdl
          clear hD
          obtain ⟨U, hU⟩ : ∃ U, utx zs j = U := ⟨_, rfl⟩
          rw [hU] at HUT hul ⊢
          clear hU hlow hup hm
          have y1 : ¬ (9223372036854775807 < (dtx U).size + ({ data := #[32, 43, 32] } : ByteArray).size) := by rw [dtx_size]; simp only [ByteArray.size]; simp; omega
          obtain ⟨V, hV, hVl, a1⟩ : ∃ V : List UInt8, V = U ++ [32, 43, 32] ∧ V.length ≤ 150 ∧ dtx U ++ { data := #[32, 43, 32] } = dtx V := ⟨_, rfl, by rw [List.length_append]; simp; omega, dtx_app U [32, 43, 32]⟩
          have HV := Lib.hid hV
          clear hV
          have step : ∀ V : List UInt8, V.length ≤ 150 → ∃ V2 V3 : List UInt8, V2 = V ++ [49, 47] ∧ V3 = V2 ++ D ∧ (¬ (9223372036854775807 < (dtx V).size + ({ data := #[49, 47] } : ByteArray).size)) ∧ (¬ (9223372036854775807 < (dtx V2).size + (dtx D).size)) ∧ dtx V ++ { data := #[49, 47] } = dtx V2 ∧ dtx V2 ++ dtx D = dtx V3 := fun V hV => by
            refine ⟨_, _, rfl, rfl, ?_, ?_, dtx_app V [49, 47], dtx_app _ _⟩
            · rw [dtx_size]; simp only [ByteArray.size]; simp; omega
            · rw [dtx_size, dtx_size, List.length_append]; simp; omega
          by_cases h0 : 0 < j
          · have j0 : (0 : Int) < (j : Int) := by omega
            obtain ⟨V2, V3, e2, e3, y2, y3, a2, a3⟩ := step V hVl
            have HB9 : Hid (utx zs (j + 1) = V3) := Lib.hid (by rw [HUT.out, if_pos h0, e3, e2, HV.out])
            clear step e2 e3
            go_wp2_with fail
            refine (HCD.out _).mono ?_
            rintro e w3 ⟨rfl, q3⟩
            have HB3 := Lib.hid (bstep hb q3)
            clear q3 hc hrb hb
            go_wp2_with fail
            go_roundw
            case rel => exact ⟨j + 1, by omega, by go_num, by rw [HB9.out], HB3.out⟩
            case measure => simp [intOf]; omega
          · have j0 : ¬ (0 : Int) < (j : Int) := by omega
            obtain ⟨V2, V3, e2, e3, y2, y3, a2, a3⟩ := step U (by omega)
            have HB9 : Hid (utx zs (j + 1) = V3) := Lib.hid (by rw [HUT.out, if_neg h0, e3, e2, List.append_nil])
            clear step e2 e3
            go_wp2_with fail
            refine (HCD.out _).mono ?_
            rintro e w3 ⟨rfl, q3⟩
            have HB3 := Lib.hid (bstep hb q3)
            clear q3 hc hrb hb
            go_wp2_with fail
            go_roundw
            case rel => exact ⟨j + 1, by omega, by go_num, by rw [HB9.out], HB3.out⟩
            case measure => simp [intOf]; omega
        · obtain rfl : j = zs.length := by omega
          go_wp2_with fail
          go_ret
          exact ⟨ret_strU HF.out.symm, hb⟩
end Go.Proofs.YtnmfppjjhbkfmaaDoor
