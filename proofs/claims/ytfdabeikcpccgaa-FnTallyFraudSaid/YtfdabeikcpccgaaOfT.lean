/- A text picked from a list, and the length of what the reference's NotchesCut returns. -/
import Derived.Test.YtfdabeikcpccgaaPickI
import Derived.Test.YtfdabeikcpccgaaNotS
namespace Go.Proofs.Ytfdabeikcpccgaa
open Go.RowKit

/-- A table of L texts of at most K bytes. -/
def TxtTab (w : World) (b L K : Nat) : Prop := b < w.heap.size ∧ ∀ j, j < L → ∃ s : ByteArray, s.size ≤ K ∧ w.cell? ⟨b, j, none⟩ = some (.string s)

set_option maxRecDepth 100000 in
theorem ofI (B g m b L K c : Nat) (w : World) (h : RdyI B w g m) (hm : m ≤ 1000000) (hL : 1 ≤ L) (hL1 : L ≤ 100) (hg : g ≠ b) (ht : TxtTab w b L K) :
    Calls Try.prog 67 #[.pointer (some ⟨g, 0, none⟩), .slice (some ⟨b, 0, none⟩) L c] w fun e w' => ∃ s : ByteArray, e = .returned (.string s) ∧ s.size ≤ K ∧ RdyI B w' g (m + 1) ∧ w.grownBy w' (some g) := by
  go_enter Try.func67, Try.ntmps67
  go_wp2_with fail
  refine (pickI B g m (L : Int) _ h (by omega) (by omega) (by omega)).mono ?_
  rintro e w1 ⟨x, rfl, x0, x1, h1, g1⟩
  obtain ⟨k, rfl⟩ := Int.eq_ofNat_of_zero_le x0
  obtain ⟨s, hs, hc⟩ := ht.2 k (by omega)
  have hc1 := g1.cell hc (by simp; omega)
  clear ht hc
  go_wp2_with fail
  go_ret
  exact ⟨s, rfl, hs, h1, g1⟩

def CutPost (n : Nat) (w : World) (e : Ending) (w' : World) : Prop := ∃ (s : ByteArray) (b : Bool), e = .returned (.tuple #[.string s, .bool b]) ∧ s.size ≤ n ∧ ∃ m, w' = w.drewN m

set_option maxRecDepth 100000 in
set_option maxHeartbeats 1000000 in
theorem spec_NotchesCut (s l : ByteArray) (w : World) (hs : s.size ≤ 1000) (hl0 : l.size ≤ 1) :
    Calls Try.prog 66 #[.string s, .string l] w (CutPost (s.size + 1) w) := by
  go_enter Try.func66, Try.ntmps66
  go_wp2_with fail
  refine (spec_NotchesValid _ _ (by omega)).mono ?_
  rintro e w1 ⟨rfl, n1, rfl⟩
  cases hb : notB s
  · go_wp2_with fail
    go_ret2
    exact ⟨_, _, rfl, Nat.zero_le _, _, rfl⟩
  by_cases hl : l.size = 1
  case neg =>
    have hb1 : ((l.size : Int) != 1) = true := by simp; omega
    go_wp2_with fail
    go_ret2
    exact ⟨_, _, rfl, Nat.zero_le _, _, rfl⟩
  have hb1 : ((l.size : Int) != 1) = false := by rw [hl]; rfl
  have hl0 : 0 < l.size := by omega
  have HL := Lib.hid hl
  clear hl
  go_wp2_with fail
  go_loopw [6] (fun q wr => ∃ (k m : Nat), k ≤ s.size ∧ q = .int .i64 k ∧ wr = w.drewN m) (fun q _ => s.size - (intOf q).toNat)
  case atStart => exact ⟨0, _, Nat.zero_le _, rfl, rfl⟩
  case round =>
    obtain ⟨k, m, hk, rfl, rfl⟩ := hrel
    have z1 : (s.extract 0 k).size = k := by rw [ByteArray.size_extract]; omega
    have z2 : (s.extract 0 k ++ l).size = k + 1 := by rw [ByteArray.size_append, z1, HL.out]
    have z3 : (s.extract k s.size).size = s.size - k := by rw [ByteArray.size_extract]; omega
    have z4 : (s.extract 0 k ++ l ++ s.extract k s.size).size = s.size + 1 := by rw [ByteArray.size_append, z2, z3]; omega
    have y1 : ¬ (9223372036854775807 < (s.extract 0 k).size + l.size) := by rw [z1, HL.out]; omega
    have y2 : ¬ (9223372036854775807 < (s.extract 0 k ++ l).size + (s.extract k s.size).size) := by rw [z2, z3]; omega
    have HZ := Lib.hid (And.intro z4 (And.intro z1 (And.intro z2 z3)))
    clear z1 z2 z3 z4
    by_cases hlt : k < s.size
    · by_cases hc : lw l[0].toNat ≤ lw s[k].toNat
      · have d1 : decide (lw l[0].toNat ≤ lw s[k].toNat) = true := by simpa using hc
        clear hc
        go_wp2
        go_quiet ((go_at_call 42; exact quiet_left2 (l6yWorth _ _)))
        go_wp2
        go_roundw
        case rel => exact ⟨k + 1, _, by omega, by go_num, rfl⟩
        case measure => simp [intOf]; omega
      · have d1 : decide (lw l[0].toNat ≤ lw s[k].toNat) = false := by simpa using hc
        clear hc
        go_wp2
        go_quiet ((go_at_call 42; exact quiet_left2 (l6yWorth _ _)))
        go_wp2
        go_quiet (fail)
        go_wp2_with fail
        refine (spec_NotchesValid _ _ (by have := HZ.out.1; omega)).mono ?_
        rintro e w2 ⟨rfl, n2, rfl⟩
        cases hv : notB (s.extract 0 k ++ l ++ s.extract k s.size)
        · go_wp2_with fail
          go_ret2
          exact ⟨_, _, rfl, Nat.zero_le _, _, rfl⟩
        · go_wp2_with fail
          go_ret2
          exact ⟨_, _, rfl, by have := HZ.out.1; omega, _, rfl⟩
    · go_wp2
      go_quiet (fail)
      go_wp2
      go_quiet (fail)
      go_wp2_with fail
      refine (spec_NotchesValid _ _ (by have := HZ.out.1; omega)).mono ?_
      rintro e w2 ⟨rfl, n2, rfl⟩
      cases hv : notB (s.extract 0 k ++ l ++ s.extract k s.size)
      · go_wp2_with fail
        go_ret2
        exact ⟨_, _, rfl, Nat.zero_le _, _, rfl⟩
      · go_wp2_with fail
        go_ret2
        exact ⟨_, _, rfl, by have := HZ.out.1; omega, _, rfl⟩
end Go.Proofs.Ytfdabeikcpccgaa
