/- The marks on tallies: markText, markTallyS, heldTallyS. -/
import Derived.Test.YtfdabeikcpccgaaTsP
import Derived.Test.YtfdabeikcpccgaaMany
import Derived.Laws.IdiomStrings
namespace Go.Proofs.Ytfdabeikcpccgaa
open Go.RowKit

/-- The last digit of a number. -/
def dch (m : Nat) : UInt8 := UInt8.ofNat (48 + m % 10)
theorem dch_nat (m : Nat) : (dch m).toNat = 48 + m % 10 := by
  unfold dch
  rw [UInt8.toNat_ofNat']
  omega
/-- The digits of a number ahead of a text. -/
def digs : Nat → Nat → List UInt8 → List UInt8
  | 0, _, acc => acc
  | f + 1, k, acc => if k = 0 then acc else digs f (k / 10) (dch k :: acc)
theorem digs_zero (f : Nat) (acc : List UInt8) : digs f 0 acc = acc := by cases f <;> simp [digs]
theorem digs_succ (f k : Nat) (acc : List UInt8) (h : k ≠ 0) : digs (f + 1) k acc = digs f (k / 10) (dch k :: acc) := by simp [digs, h]
/-- The mark of a number. -/
def mkS (k : Nat) : List UInt8 := 109 :: digs 10 k []

set_option maxRecDepth 100000 in
theorem markText (k : Nat) (w : World) (h0 : 1 ≤ k) (h1 : k ≤ 9000000) :
    Calls Try.prog 55 #[.int .i64 (k : Int)] w fun e w' => e = .returned (.string (str (mkS k))) ∧ Below w.heap.size w w' := by
  go_enter Try.func55, Try.ntmps55
  go_wp2_with fail
  go_loopw [0, 3] (fun i q wr => ∃ (f m : Nat) (acc : List UInt8), i = .int .i64 (m : Int) ∧ q = .string (str acc) ∧ m ≤ 9000000 ∧ m < 10 ^ f ∧ acc.length + f = 10 ∧ Hid (digs f m acc = digs 10 k []) ∧ Below w.heap.size w wr) (fun i _ _ => (intOf i).toNat)
  case atStart => exact ⟨10, k, [], rfl, rfl, h1, by omega, rfl, Lib.hid rfl, Below.refl _ _⟩
  case round =>
    obtain ⟨f, m, acc, rfl, rfl, hm, hf, hl, HD, hb⟩ := hrel
    have za : (str acc).size = acc.length := str_size acc
    by_cases hp : m = 0
    · subst hp
      have hE : digs 10 k [] = acc := by rw [← HD.out, digs_zero]
      have HE : Hid (str (mkS k) = str [109] ++ str acc) := Lib.hid (by rw [str_app, mkS, hE]; rfl)
      have z1 : ¬ (9223372036854775807 < ({ data := #[109] } : ByteArray).size + (str acc).size) := by rw [za]; simp only [ByteArray.size]; simp; omega
      clear hE
      go_wp2_with fail
      go_ret
      exact ⟨by rw [HE.out]; rfl, hb⟩
    · obtain ⟨f, rfl⟩ : ∃ g, f = g + 1 := ⟨f - 1, by rcases f with _ | f <;> simp at hf ⊢ <;> omega⟩
      have HE := Lib.hid (digs_succ f m acc hp)
      have hpos : 0 < m := by omega
      have hq : m / 10 < 10 ^ f := by rw [Nat.pow_succ] at hf; omega
      have HQ := Lib.hid hq
      clear hf hq
      have hcv : ∀ w : World, (convert 43 9 (.slice (some ⟨w.heap.size, 0, none⟩) 1 1)).run Try.prog (w.alloc (.cells #[.int .u8 (48 + (m : Int) % 10)] 5)) = .ok (.string (str [dch m])) (w.alloc (.cells #[.int .u8 (48 + (m : Int) % 10)] 5)) := fun w => by
        have := run_convert_bytes_back (P := Try.prog) (w.alloc (.cells #[.int .u8 (48 + (m : Int) % 10)] 5)) 43 9 5 ⟨w.heap.size, 0, none⟩ 1 [dch m] Try.underlying43 Try.underlying5 Try.underlying9 (by
          intro j hj
          have hj0 : j = 0 := by simpa using hj
          subst hj0
          simp [Addr.add, dch_nat])
        exact this
      have z2 : ¬ (9223372036854775807 < (str [dch m]).size + (str acc).size) := by rw [str_size, str_size]; simp; omega
      have HA := Lib.hid (str_app [dch m] acc)
      go_wp2_with fail
      go_roundw
      case rel => exact ⟨f, m / 10, dch m :: acc, by go_num, by rw [HA.out]; rfl, by omega, HQ.out, by simp; omega, Lib.hid (by rw [← HE.out]; exact HD.out), hb.alloc hb.size _⟩
      case measure => simp [intOf]; omega
end Go.Proofs.Ytfdabeikcpccgaa
