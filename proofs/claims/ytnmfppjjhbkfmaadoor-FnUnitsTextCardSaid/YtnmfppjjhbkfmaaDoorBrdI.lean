/- Boards: the program's layOut. -/
import Derived.Test.YtnmfppjjhbkfmaaDoorBrd
namespace Go.Proofs.YtnmfppjjhbkfmaaDoor
open Go.RowKit

/-- Ten numbers by value. -/
def ten (zs : List Int) : Value := .agg #[.int .i64 (nth zs 0), .int .i64 (nth zs 1), .int .i64 (nth zs 2), .int .i64 (nth zs 3), .int .i64 (nth zs 4), .int .i64 (nth zs 5), .int .i64 (nth zs 6), .int .i64 (nth zs 7), .int .i64 (nth zs 8), .int .i64 (nth zs 9)]
theorem list10 {zs : List Int} (h : zs.length = 10) : zs = [nth zs 0, nth zs 1, nth zs 2, nth zs 3, nth zs 4, nth zs 5, nth zs 6, nth zs 7, nth zs 8, nth zs 9] := by
  apply nth_ext
  · rw [h]; rfl
  · intro i hi
    rw [h] at hi
    rcases (show i = 0 ∨ i = 1 ∨ i = 2 ∨ i = 3 ∨ i = 4 ∨ i = 5 ∨ i = 6 ∨ i = 7 ∨ i = 8 ∨ i = 9 by omega) with rfl | rfl | rfl | rfl | rfl | rfl | rfl | rfl | rfl | rfl <;> rfl

theorem ten_at (zs : List Int) (i : Nat) (h : i < 10) : ∀ w, (Instr.index 41 (ten zs) (.int .i64 (i : Int))).run Tryd.prog w = .ok (.int .i64 (nth zs i)) w := by
  rcases (show i = 0 ∨ i = 1 ∨ i = 2 ∨ i = 3 ∨ i = 4 ∨ i = 5 ∨ i = 6 ∨ i = 7 ∨ i = 8 ∨ i = 9 by omega) with rfl | rfl | rfl | rfl | rfl | rfl | rfl | rfl | rfl | rfl <;> exact fun _ => by kernel_rfl

set_option maxRecDepth 100000 in
theorem fits (zs : List Int) (w : World) (h10 : zs.length = 10) :
    Calls Tryd.prog 28 #[ten zs] w fun e w' => e = .returned (.bool (brdB zs)) ∧ Below w.heap.size w w' := by
  have HBE := Lib.hid (fun o => (Below.refl w.heap.size w).alloc (Nat.le_refl _) o)
  have H10 := Lib.hid h10
  clear h10
  have HAT : Hid (∀ (i : Nat), i < 10 → ∀ w, (Instr.index 41 (.agg #[.int .i64 (nth zs 0), .int .i64 (nth zs 1), .int .i64 (nth zs 2), .int .i64 (nth zs 3), .int .i64 (nth zs 4), .int .i64 (nth zs 5), .int .i64 (nth zs 6), .int .i64 (nth zs 7), .int .i64 (nth zs 8), .int .i64 (nth zs 9)]) (.int .i64 (i : Int))).run Tryd.prog w = .ok (.int .i64 (nth zs i)) w) := Lib.hid (fun i h w => ten_at zs i h w)
  rw [ten]
  go_enter Tryd.func28, Tryd.ntmps28
  go_wp2_with fail
  go_loopw [6] (fun i wr => ∃ j : Nat, j ≤ 10 ∧ i = .int .i64 (j : Int) ∧ Hid (∀ k, k < j → inB (nth zs k) 0 20 = true) ∧ Below w.heap.size w wr) (fun i _ => 10 - (intOf i).toNat)
  case atStart => exact ⟨0, Nat.zero_le _, rfl, Lib.hid (fun k hk => by omega), HBE.out _⟩
  case round =>
    obtain ⟨j, hj, rfl, HK, hb⟩ := hrel
    by_cases hlt : j < 10
    · have hat := HAT.out j hlt
      by_cases h0 : nth zs j < 0
      · have HF := Lib.hid (brdB_no (zs := zs) (i := j) (by rw [H10.out]; exact hlt) (by simp [inB]; omega))
        go_wp2_with fail
        go_ret
        exact ⟨ret_bool HF.out.symm, hb⟩
      · by_cases h1 : 20 < nth zs j
        · have HF := Lib.hid (brdB_no (zs := zs) (i := j) (by rw [H10.out]; exact hlt) (by simp [inB]; omega))
          go_wp2_with fail
          go_ret
          exact ⟨ret_bool HF.out.symm, hb⟩
        · have HK2 : Hid (∀ k, k < j + 1 → inB (nth zs k) 0 20 = true) := Lib.hid (fun k hk => by
            rcases Nat.lt_or_ge k j with h2 | h2
            · exact HK.out k h2
            · obtain rfl : k = j := by omega
              exact inB_of (by omega) (by omega))
          go_wp2_with fail
          go_roundw
          case rel => exact ⟨j + 1, by omega, by go_num, HK2, hb⟩
          case measure => simp [intOf]; omega
    · obtain rfl : j = 10 := by omega
      have HF := Lib.hid (brdB_all (zs := zs) (fun k hk => HK.out k (by rw [H10.out] at hk; exact hk)))
      go_wp2_with fail
      go_ret
      exact ⟨ret_bool (by rw [HF.out, H10.out]; rfl), hb⟩
end Go.Proofs.YtnmfppjjhbkfmaaDoor
