/- Contracts of l6Many and of the reference's NotchesOf. -/
import Derived.Test.YtfdabeikcpccgaaNotS
import Derived.Lib.Repeat
import Derived.Lib.Strings
namespace Go.Proofs.Ytfdabeikcpccgaa
open Go.RowKit

/-- A text of bytes. -/
def str (l : List UInt8) : ByteArray := ⟨l.toArray⟩
theorem str_app (a b : List UInt8) : str a ++ str b = str (a ++ b) := by
  apply ByteArray.ext
  simp [str]
theorem rep_two (S : List UInt8) : ∀ m, Lib.repeatL (S ++ S) m = Lib.repeatL S (2 * m)
  | 0 => rfl
  | m + 1 => by
    rw [show 2 * (m + 1) = 2 * m + 1 + 1 by omega]
    simp only [Lib.repeatL]
    rw [rep_two S m, List.append_assoc]

def ManyInv (l : List UInt8) (n : Nat) (s m o : Value) : Prop :=
  ∃ (S O : List UInt8) (k : Nat), s = .string (str S) ∧ m = .int .i64 (k : Int) ∧ o = .string (str O) ∧ k ≤ n ∧ S.length * k ≤ 9 ∧ S.length ≤ 18 ∧ O ++ Lib.repeatL S k = Lib.repeatL l n

theorem str_size (l : List UInt8) : (str l).size = l.length := by simp [str, ByteArray.size]

theorem l6Many (l : List UInt8) (n : Nat) (hl : l.length = 1) (h : n ≤ 9) (w : World) :
    Calls Try.prog 50 #[.string (str l), .int .i64 (n : Int)] w fun e w' => e = .returned (.string (str (Lib.repeatL l n))) ∧ w = w' := by
  have HL := Lib.hid hl
  clear hl
  go_enter Try.func50, Try.ntmps50
  go_wp2
  go_loop [0, 1, 5] (fun s m o => ManyInv l n s m o) (fun _ m _ => (intOf m).toNat)
  case atStart => exact ⟨l, [], n, rfl, rfl, rfl, Nat.le_refl _, by rw [HL.out]; omega, by rw [HL.out]; omega, rfl⟩
  case round =>
    obtain ⟨S, O, k, rfl, rfl, rfl, hk, hS, hS2, HE⟩ := hrel
    have hO : O.length ≤ 9 := by
      have := congrArg List.length HE
      rw [List.length_append, Lib.repeatL_length l n, HL.out] at this
      omega
    have z1 : (str O).size ≤ 9 := by rw [str_size]; exact hO
    have z2 : (str S).size ≤ 18 := by rw [str_size]; exact hS2
    have HE' := Lib.hid HE
    clear HE
    rcases k with _ | k
    · go_wp2
      go_ret
      have := HE'.out
      simp only [Lib.repeatL, List.append_nil] at this
      exact ⟨by rw [← this]; rfl, rfl⟩
    · have hS9 : S.length ≤ 9 := Nat.le_trans (Nat.le_mul_of_pos_right _ (by omega)) hS
      rcases (show (k + 1) % 2 = 1 ∨ (k + 1) % 2 = 0 by omega) with hp | hp
      · have e1 : (((k : Int) + 1) % 2 == 1) = true := by rw [beq_iff_eq]; omega
        have ed : ((k : Int) + 1) / 2 = ((k / 2 : Nat) : Int) := by omega
        have HD := Lib.hid ed
        clear ed
        go_wp2
        go_round
        case rel =>
          refine ⟨S ++ S, O ++ S, k / 2, by rw [str_app], by rw [HD.out], by rw [str_app], by omega, by rw [List.length_append]; have := hS9; have := Nat.mul_le_mul_left S.length (show 2 * (k / 2) ≤ k + 1 by omega); rw [← Nat.two_mul, Nat.mul_assoc, Nat.mul_left_comm]; omega, by rw [List.length_append]; omega, ?_⟩
          rw [← HE'.out, rep_two, show 2 * (k / 2) = k by omega, List.append_assoc]; rfl
        case measure => simp [intOf]; omega
      · have e1 : (((k : Int) + 1) % 2 == 1) = false := by rw [beq_eq_false_iff_ne]; omega
        have ed : ((k : Int) + 1) / 2 = (((k + 1) / 2 : Nat) : Int) := by omega
        have HD := Lib.hid ed
        clear ed
        go_wp2
        go_round
        case rel =>
          refine ⟨S ++ S, O, (k + 1) / 2, by rw [str_app], by rw [HD.out], rfl, by omega, by rw [List.length_append]; have := Nat.mul_le_mul_left S.length (show 2 * ((k + 1) / 2) ≤ k + 1 by omega); rw [← Nat.two_mul, Nat.mul_assoc, Nat.mul_left_comm]; omega, by rw [List.length_append]; omega, ?_⟩
          rw [← HE'.out, rep_two, show 2 * ((k + 1) / 2) = k + 1 by omega]
        case measure => simp [intOf]; omega
end Go.Proofs.Ytfdabeikcpccgaa
