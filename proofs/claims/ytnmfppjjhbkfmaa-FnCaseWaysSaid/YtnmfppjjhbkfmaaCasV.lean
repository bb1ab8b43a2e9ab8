/- Cases of rods in memory; CaseValid, hasSide, l3Has, digitAt. -/
import Derived.Test.YtnmfppjjhbkfmaaCas
namespace Go.Proofs.Ytnmfppjjhbkfmaa
open Go.RowKit

theorem cell_same {w w' : World} {a : Addr} (h : w'.heap[a.block]? = w.heap[a.block]?) : w'.cell? a = w.cell? a := by simp [World.cell?, h]

/-- A slice of rods reads as R; all of it lies from block base on. -/
def RdR (w : World) (base : Nat) (A : Option Addr) (R : List (List Int)) : Prop :=
  R ≠ [] → ∃ b off, A = some ⟨b, off, none⟩ ∧ base ≤ b ∧ ∀ i, i < R.length → ∃ bi oi ci, base ≤ bi ∧ w.cell? ⟨b, off + i, none⟩ = some (.slice (some ⟨bi, oi, none⟩) (sd R i).length ci) ∧
    ∀ j, j < (sd R i).length → w.cell? ⟨bi, oi + j, none⟩ = some (.int .i64 (nth (sd R i) j))
section
variable {w w' : World} {base : Nat} {A : Option Addr} {R : List (List Int)}
theorem RdR.kept (h : RdR w base A R) (hk : ∀ k, base ≤ k → k < w.heap.size → w'.heap[k]? = w.heap[k]?) : RdR w' base A R := fun hn => by
  obtain ⟨b, off, e, hb, hi⟩ := h hn
  refine ⟨b, off, e, hb, fun i hl => ?_⟩
  obtain ⟨bi, oi, ci, h1, h2, h3⟩ := hi i hl
  exact ⟨bi, oi, ci, h1, (cell_same (hk b hb (World.block_lt_of_cell? w _ h2))).trans h2, fun j hj => (cell_same (hk bi h1 (World.block_lt_of_cell? w _ (h3 j hj)))).trans (h3 j hj)⟩
theorem RdR.below (h : RdR w base A R) (hb : Below w.heap.size w w') : RdR w' base A R := h.kept (fun k _ hl => hb.block k hl)
theorem RdR.at (h : RdR w base A R) {i : Nat} (hi : i < R.length) : ∃ b off bi oi ci, A = some ⟨b, off, none⟩ ∧ b < w.heap.size ∧ w.cell? ⟨b, off + i, none⟩ = some (.slice (some ⟨bi, oi, none⟩) (sd R i).length ci) ∧ Rd .i64 w (some ⟨bi, oi, none⟩) (sd R i) := by
  obtain ⟨b, off, e, hb, hc⟩ := h (fun e => by rw [e] at hi; simp at hi)
  obtain ⟨bi, oi, ci, h1, h2, h3⟩ := hc i hi
  exact ⟨b, off, bi, oi, ci, e, World.block_lt_of_cell? w _ h2, h2, fun _ => ⟨bi, oi, rfl, h3⟩⟩
end

theorem digs_at {zs : List Int} {k : Nat} (h : k < zs.length) : (digs zs)[k]? = some (UInt8.ofNat (48 + (nth zs k).toNat)) := by
  simp only [digs, digsTo, List.take_length, List.getElem?_map, nth_lt h, Option.map_some]
theorem digitAt (zs : List Int) (k : Nat) (hk : k < zs.length) (d0 : 0 ≤ nth zs k) (d9 : nth zs k ≤ 9) (w : World) :
    Calls Try.prog 23 #[.string ⟨(digs zs).toArray⟩, .int .i64 (k : Int)] w fun e w' => e = .returned (.int .i64 (nth zs k)) ∧ w = w' := by
  have hl : (digs zs).length = zs.length := by rw [digs, digsTo_len _ _ (Nat.le_refl _)]
  have hs : (ByteArray.mk (digs zs).toArray).size = zs.length := by simp [ByteArray.size, hl]
  have hg := digs_at hk
  go_enter Try.func23, Try.ntmps23
  go_wp2_with fail
  go_ret
  refine ⟨ret_int ?_, rfl⟩
  have hkl : k < (digs zs).length := by omega
  have e : (ByteArray.mk (digs zs).toArray)[k]'(by rw [hs]; exact hk) = (digs zs)[k] := rfl
  have e2 : (digs zs)[k] = UInt8.ofNat (48 + (nth zs k).toNat) := by
    rw [List.getElem?_eq_getElem hkl] at hg
    injection hg
  have e3 := digit_byte _ d0 d9
  rw [e, e2]
  omega

theorem has_no {s : List Int} {d : Int} (h : ∀ k, k < s.length → nth s k ≠ d) : hasB s d = false := by
  cases hb : hasB s d
  · rfl
  · obtain ⟨k, hk, e⟩ := hasB_iff.1 hb
    exact absurd e (h k hk)

set_option maxRecDepth 100000 in
theorem hasSide (bi oi ci : Nat) (s : List Int) (d : Int) (w : World) (hr : Rd .i64 w (some ⟨bi, oi, none⟩) s) (hl : s.length ≤ 4194304) :
    Calls Try.prog 22 #[.agg #[.slice (some ⟨bi, oi, none⟩) s.length ci], .int .i64 d] w fun e w' => e = .returned (.bool (hasB s d)) ∧ Below w.heap.size w w' := by
  have HB := Lib.hid ((Below.refl w.heap.size w).alloc (Nat.le_refl _) (.cells #[.slice (some ⟨bi, oi, none⟩) s.length ci] 29))
  have hr1 := hr.below HB.out
  go_enter Try.func22, Try.ntmps22
  go_wp2_with fail
  go_loop [10] (fun i => ∃ j : Nat, j ≤ s.length ∧ i = .int .i64 (j : Int) ∧ Hid (∀ k, k < j → nth s k ≠ d)) (fun i => s.length - (intOf i).toNat)
  case atStart => exact ⟨0, Nat.zero_le _, rfl, Lib.hid (fun k hk => by omega)⟩
  case round =>
    obtain ⟨j, hj, rfl, HK⟩ := hrel
    by_cases hlt : j < s.length
    · obtain ⟨b, off, he, hbl, hc⟩ := hr1.at hlt
      obtain ⟨rfl, rfl⟩ : b = bi ∧ off = oi := by injection he with he; injection he with h1 h2; exact ⟨h1.symm, h2.symm⟩
      clear he
      by_cases hd : nth s j = d
      · have HF : Hid (hasB s d = true) := Lib.hid (hasB_iff.2 ⟨j, hlt, hd⟩)
        go_wp2_with fail
        go_ret
        exact ⟨ret_bool HF.out.symm, HB.out⟩
      · have hd2 : (nth s j == d) = false := beq_eq_false_iff_ne.2 hd
        have HK2 : Hid (∀ k, k < j + 1 → nth s k ≠ d) := Lib.hid (fun k hk => by
          rcases Nat.lt_or_ge k j with h | h
          · exact HK.out k h
          · obtain rfl : k = j := by omega
            exact hd)
        clear hd
        go_wp2_with fail
        go_round
        case rel => exact ⟨j + 1, by omega, by go_num, HK2⟩
        case measure => simp [intOf]; omega
    · obtain rfl : j = s.length := by omega
      have HF : Hid (hasB s d = false) := Lib.hid (has_no HK.out)
      go_wp2_with fail
      go_ret
      exact ⟨ret_bool HF.out.symm, HB.out⟩

set_option maxRecDepth 100000 in
theorem l3Has (A : Option Addr) (c : Nat) (s : List Int) (d : Int) (w : World) (hr : Rd .i64 w A s) (hl : s.length ≤ 4194304) :
    Calls Try.prog 26 #[.slice A s.length c, .int .i64 d] w fun e w' => e = .returned (.bool (hasB s d)) ∧ w = w' := by
  go_enter Try.func26, Try.ntmps26
  go_wp2_with fail
  go_loop [5] (fun i => ∃ j : Nat, j ≤ s.length ∧ i = .int .i64 (j : Int) ∧ Hid (∀ k, k < j → nth s k ≠ d)) (fun i => s.length - (intOf i).toNat)
  case atStart => exact ⟨0, Nat.zero_le _, rfl, Lib.hid (fun k hk => by omega)⟩
  case round =>
    obtain ⟨j, hj, rfl, HK⟩ := hrel
    by_cases hlt : j < s.length
    · obtain ⟨b, off, rfl, hbl, hc⟩ := hr.at hlt
      by_cases hd : nth s j = d
      · have HF : Hid (hasB s d = true) := Lib.hid (hasB_iff.2 ⟨j, hlt, hd⟩)
        go_wp2_with fail
        go_ret
        exact ⟨ret_bool HF.out.symm, rfl⟩
      · have hd2 : (nth s j == d) = false := beq_eq_false_iff_ne.2 hd
        have HK2 : Hid (∀ k, k < j + 1 → nth s k ≠ d) := Lib.hid (fun k hk => by
          rcases Nat.lt_or_ge k j with h | h
          · exact HK.out k h
          · obtain rfl : k = j := by omega
            exact hd)
        clear hd
        go_wp2_with fail
        go_round
        case rel => exact ⟨j + 1, by omega, by go_num, HK2⟩
        case measure => simp [intOf]; omega
    · obtain rfl : j = s.length := by omega
      have HF : Hid (hasB s d = false) := Lib.hid (has_no HK.out)
      go_wp2_with fail
      go_ret
      exact ⟨ret_bool HF.out.symm, rfl⟩

set_option maxRecDepth 100000 in
set_option maxHeartbeats 1000000 in
theorem impl_CaseValid (base : Nat) (A : Option Addr) (c : Nat) (R : List (List Int)) (w : World) (hr : RdR w base A R) (hl : R.length ≤ 4194304) :
    Calls Try.prog 11 #[.slice A R.length c] w fun e w' => e = .returned (.bool (caseB R)) ∧ Below w.heap.size w w' := by
  by_cases h10 : 10 < R.length
  · have HF : Hid (caseB R = false) := Lib.hid (by simp [caseB]; intro h; omega)
    go_enter Try.func11, Try.ntmps11
    go_wp2_with fail
    go_ret
    exact ⟨ret_bool HF.out.symm, Below.refl _ _⟩
  have HT : Hid (caseTo R R.length = true → caseB R = true) := Lib.hid (fun h => by simp [caseB, h]; omega)
  go_enter Try.func11, Try.ntmps11
  go_wp2_with fail
  go_loopw [12] (fun x wr => ∃ i : Nat, i ≤ R.length ∧ x = .int .i64 (i : Int) ∧ Below w.heap.size w wr ∧ Hid (∀ k, k < i → rodB (sd R k) = true)) (fun x _ => R.length - (intOf x).toNat)
  case atStart => exact ⟨0, Nat.zero_le _, rfl, Below.refl _ _, Lib.hid (fun k hk => by omega)⟩
  case round =>
    obtain ⟨i, hi, rfl, hb, HK⟩ := hrel
    by_cases hlt : i < R.length
    · obtain ⟨b, off, bi, oi, ci, rfl, hbl, hcc, hrs⟩ := (hr.below hb).at hlt
      have HN := Lib.hid (fun h => caseB_no (R := R) hlt h)
      have HBX := Lib.hid (hb.alloc hb.size (.cells #[.slice (some ⟨bi, oi, none⟩) (sd R i).length ci] 29))
      have HRS := Lib.hid (hrs.below ((Below.refl wr.heap.size wr).alloc (Nat.le_refl _) (.cells #[.slice (some ⟨bi, oi, none⟩) (sd R i).length ci] 29)))
      obtain ⟨s, hs⟩ : ∃ s, sd R i = s := ⟨_, rfl⟩
      have HSD := Lib.hid hs
      rw [hs] at hcc HN HBX HRS
      clear hs hrs
      by_cases h4 : s.length = 4
      · have H4 := Lib.hid h4
        rw [h4] at hcc HBX HRS
        clear h4
        go_wp2_with fail
        go_loop [23] (fun y => ∃ j : Nat, j ≤ 4 ∧ y = .int .i64 (j : Int) ∧ Hid (∀ k, k < j → 0 ≤ nth s k ∧ nth s k ≤ 9)) (fun y => 4 - (intOf y).toNat)
        case atStart => exact ⟨0, Nat.zero_le _, rfl, Lib.hid (fun k hk => by omega)⟩
        case round =>
          obtain ⟨j, hj, rfl, HJ⟩ := hrel
          by_cases hlj : j < 4
          · obtain ⟨b', off', he, hbl', hc⟩ := HRS.out.at (i := j) (by rw [H4.out]; exact hlj)
            obtain ⟨rfl, rfl⟩ : b' = bi ∧ off' = oi := by injection he with he; injection he with h1 h2; exact ⟨h1.symm, h2.symm⟩
            clear he
            cases hd : inB (nth s j) 0 9
            · have HF := Lib.hid (HN.out (rodB_bad hlj hd))
              go_wp2_with (go_at_call 21; refine (isDigit _ _).mono ?_; rintro e w' ⟨rfl, rfl⟩; rw [hd])
              go_ret
              exact ⟨ret_bool HF.out.symm, HBX.out⟩
            · have HJ2 : Hid (∀ k, k < j + 1 → 0 ≤ nth s k ∧ nth s k ≤ 9) := Lib.hid (fun k hk => by
                rcases Nat.lt_or_ge k j with h | h
                · exact HJ.out k h
                · obtain rfl : k = j := by omega
                  exact inB_t hd)
              go_wp2_with (go_at_call 21; refine (isDigit _ _).mono ?_; rintro e w' ⟨rfl, rfl⟩; rw [hd])
              go_round
              case rel => exact ⟨j + 1, by omega, by go_num, HJ2⟩
              case measure => simp [intOf]; omega
          · obtain rfl : j = 4 := by omega
            have HK2 : Hid (∀ k, k < i + 1 → rodB (sd R k) = true) := Lib.hid (fun k hk => by
              rcases Nat.lt_or_ge k i with h | h
              · exact HK.out k h
              · obtain rfl : k = i := by omega
                rw [HSD.out]; exact rodB_of H4.out HJ.out)
            go_wp2_with fail
            go_roundw
            case rel => exact ⟨i + 1, by omega, by go_num, HBX.out, HK2⟩
            case measure => simp [intOf]; omega
      · have HF := Lib.hid (HN.out (rodB_len h4))
        have h4' : ((s.length : Int) != 4) = true := by
          rw [bne_iff_ne]; omega
        have h4'' : ((s.length : Int) == 4) = false := beq_eq_false_iff_ne.2 (by omega)
        clear h4
        go_wp2_with fail
        go_ret
        exact ⟨ret_bool HF.out.symm, HBX.out⟩
    · obtain rfl : i = R.length := by omega
      have HF : Hid (caseB R = true) := Lib.hid (HT.out (caseTo_iff.2 HK.out))
      go_wp2_with fail
      go_ret
      exact ⟨ret_bool HF.out.symm, hb⟩
end Go.Proofs.Ytnmfppjjhbkfmaa
