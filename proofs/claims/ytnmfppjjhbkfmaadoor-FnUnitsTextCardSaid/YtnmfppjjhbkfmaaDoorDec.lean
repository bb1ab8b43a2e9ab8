/- Numbers from 0 to 20 in decimal: the reference's l6Dec, strconv.Itoa. -/
import Derived.Test.YtnmfppjjhbkfmaaDoorIn
import Derived.Test.YtnmfppjjhbkfmaaDoorOwn
import Derived.Test.YtnmfppjjhbkfmaaDoorReg
import Derived.Laws.IdiomStrings
import Derived.IntWalk
import Derived.Deep.Light
namespace Go.Proofs.YtnmfppjjhbkfmaaDoor
open Go.RowKit

/-- A text of bytes. -/
def dtx (l : List UInt8) : ByteArray := ⟨l.toArray⟩
theorem dtx_app (a b : List UInt8) : dtx a ++ dtx b = dtx (a ++ b) := by
  apply ByteArray.ext
  simp [dtx]
theorem dtx_size (l : List UInt8) : (dtx l).size = l.length := by simp [dtx, ByteArray.size]
/-- A digit's letter. -/
def dlet (m : Nat) : UInt8 := UInt8.ofNat (48 + m % 10)
theorem dlet_nat (m : Nat) : (dlet m).toNat = 48 + m % 10 := by
  unfold dlet
  rw [UInt8.toNat_ofNat']
  omega
/-- A number under 100 in decimal. -/
def dec2 (m : Nat) : List UInt8 := if m < 10 then [dlet m] else [dlet (m / 10), dlet m]
theorem dec2_len (m : Nat) : 1 ≤ (dec2 m).length ∧ (dec2 m).length ≤ 2 := by unfold dec2; split <;> simp
theorem dlet_inj {a b : Nat} (ha : a ≤ 9) (hb : b ≤ 9) (h : dlet a = dlet b) : a = b := by
  have := congrArg UInt8.toNat h
  rw [dlet_nat, dlet_nat] at this
  omega
theorem dec2_inj {a b : Nat} (ha : a ≤ 99) (hb : b ≤ 99) (h : dec2 a = dec2 b) : a = b := by
  have key : ∀ {x y : Nat}, dlet x = dlet y → x % 10 = y % 10 := fun {x y} h => by
    have := congrArg UInt8.toNat h
    rw [dlet_nat, dlet_nat] at this
    omega
  unfold dec2 at h
  split at h <;> split at h
  · injection h with h
    have := key h
    omega
  · simp at h
  · simp at h
  · injection h with h1 h2
    injection h2 with h2
    have := key h1
    have := key h2
    omega
theorem dec2_digit (m : Nat) : ∀ c ∈ dec2 m, 48 ≤ c.toNat ∧ c.toNat ≤ 57 := by
  intro c hc
  unfold dec2 at hc
  split at hc
  · simp at hc
    subst hc
    rw [dlet_nat]
    omega
  · simp at hc
    rcases hc with rfl | rfl <;> rw [dlet_nat] <;> omega

theorem cv_digit (m : Nat) (b : Nat) (w : World) (h : w.cell? ⟨b, 0, none⟩ = some (.int .u8 (48 + (m : Int) % 10))) : (convert 22 9 (.slice (some ⟨b, 0, none⟩) 1 1)).run Tryd.prog w = .ok (.string (dtx [dlet m])) w := by
  have := run_convert_bytes_back (P := Tryd.prog) w 22 9 5 ⟨b, 0, none⟩ 1 [dlet m] Tryd.underlying22 Tryd.underlying5 Tryd.underlying9 (by
    intro j hj
    have hj0 : j = 0 := by simpa using hj
    subst hj0
    have ha : (⟨b, 0, none⟩ : Addr).add 0 = ⟨b, 0, none⟩ := by simp [Addr.add]
    rw [ha, h]
    simp [dlet_nat])
  exact this

theorem l6Dec_1 (m : Nat) (w : World) (h : m ≤ 9) : Calls Tryd.prog 17 #[.int .i64 (m : Int)] w fun e w' => e = .returned (.string (dtx [dlet m])) ∧ Below w.heap.size w w' := by
  have hcv : ∀ w : World, (convert 22 9 (.slice (some ⟨w.heap.size, 0, none⟩) 1 1)).run Tryd.prog (w.alloc (.cells #[.int .u8 (48 + (m : Int))] 5)) = .ok (.string (dtx [dlet m])) (w.alloc (.cells #[.int .u8 (48 + (m : Int))] 5)) := fun w =>
    cv_digit m _ _ (by simp; omega)
  go_enter Tryd.func17, Tryd.ntmps17
  go_wp2_with fail
  go_ret
  exact ⟨rfl, (Below.refl _ _).alloc (Nat.le_refl _) _⟩

def ldT (m : Nat) : Nat → World → Value → Prop
  | 0 => fun _ v => v = .int .i64 (m : Int)
  | 1 => fun _ v => v = .int .i64 ((m / 10 : Nat) : Int)
  | 2 => fun _ v => v = .string (dtx [dlet (m / 10)])
  | 3 => fun _ v => v = .int .i64 (m : Int)
  | 4 => fun _ v => v = .int .i64 ((m : Int) % 10)
  | 5 => fun _ v => v = .int .i64 (48 + (m : Int) % 10)
  | 6 => fun _ v => v = .int .u8 (48 + (m : Int) % 10)
  | 7 => fun w v => ∃ b, v = .slice (some ⟨b, 0, none⟩) 1 1 ∧ b < w.heap.size ∧ w.cell? ⟨b, 0, none⟩ = some (.int .u8 (48 + (m : Int) % 10))
  | 8 => fun _ v => v = .string (dtx [dlet m])
  | _ => fun _ v => v = .string (dtx [dlet (m / 10), dlet m])
theorem ldT_keep {m : Nat} (i : Nat) (w1 w2 : World) (v : Value) (hR : Below w1.heap.size w1 w2) (h : ldT m i w1 v) : ldT m i w2 v := by
  match i, h with
  | 0, h => exact h
  | 1, h => exact h
  | 2, h => exact h
  | 3, h => exact h
  | 4, h => exact h
  | 5, h => exact h
  | 6, h => exact h
  | 7, ⟨b, h1, h2, h3⟩ => exact ⟨b, h1, Nat.lt_of_lt_of_le h2 hR.size, (hR.cell (p := ⟨b, 0, none⟩) h2).trans h3⟩
  | 8, h => exact h
  | _ + 9, h => exact h

set_option maxRecDepth 100000 in
set_option maxHeartbeats 1000000 in
theorem l6Dec_2 (m : Nat) (w : World) (h : 10 ≤ m) (h2 : m ≤ 99) : Calls Tryd.prog 17 #[.int .i64 (m : Int)] w fun e w' => e = .returned (.string (dtx (dec2 m))) ∧ Below w.heap.size w w' := by
  have HD : Hid (dtx (dec2 m) = dtx [dlet (m / 10), dlet m]) := Lib.hid (by rw [dec2, if_neg (by omega)])
  go_enter Tryd.func17, Tryd.ntmps17
  go_wp2_with fail
  have wA : IntKind.i64.wrap ((m : Int) / 10) = (m : Int) / 10 := IntWalk.i64_in _ (by omega)
  have wB : IntKind.i64.wrap (48 + (m : Int) % 10) = 48 + (m : Int) % 10 := IntWalk.i64_in _ (by omega)
  have wC : IntKind.u8.wrap (48 + (m : Int) % 10) = 48 + (m : Int) % 10 := IntWalk.u8_in _ (by omega)
  refine wp_region_lawful (fun w1 w2 => Below w1.heap.size w1 w2) (fun _ w1 => Below w.heap.size w w1) (ldT m) (by kernel_rfl) (by kernel_rfl) ldT_keep ?_ ?_ ?_
  · exact (Below.refl _ _).drew
  · refine lawsFrom_cons rfl ?_ (lawsFrom_cons rfl ?_ (lawsFrom_cons rfl ?_ (lawsFrom_cons rfl ?_ (lawsFrom_cons rfl ?_ (lawsFrom_cons rfl ?_ (lawsFrom_cons rfl ?_ (lawsFrom_cons rfl ?_ (lawsFrom_cons rfl ?_ (lawsFrom_cons rfl ?_ (lawsFrom_cons rfl ?_ lawsFrom_nil))))))))))
    · intro f v w6 hI hd
      clear hd
      go_light
      refine ⟨?_⟩
      unfold Gives
      simp only [fillL]
      go_simp
      exact ⟨Below.refl _ _, hI, rfl⟩
    · intro f v w6 hI hd
      have h0 : v 0 = _ := hd 0 (by kernel_rfl)
      clear hd
      go_light
      refine ⟨?_⟩
      unfold Gives
      simp only [fillL]
      go_simp
      exact ⟨Below.refl _ _, hI, by simp [ldT]⟩
    · intro f v w6 hI hd
      have h1 : v 1 = _ := hd 1 (by kernel_rfl)
      clear hd
      go_light
      refine ⟨?_⟩
      unfold Gives
      simp only [fillL]
      go_simp
      refine (l6Dec_1 (m / 10) w6 (by omega)).mono ?_
      rintro e w7 ⟨rfl, b7⟩
      exact ⟨_, rfl, b7, bstep hI b7, rfl⟩
    · intro f v w6 hI hd
      clear hd
      go_light
      refine ⟨?_⟩
      unfold Gives
      simp only [fillL]
      go_simp
      exact ⟨Below.refl _ _, hI, rfl⟩
    · intro f v w6 hI hd
      have h3 : v 3 = _ := hd 3 (by kernel_rfl)
      clear hd
      go_light
      refine ⟨?_⟩
      unfold Gives
      simp only [fillL]
      go_simp
      exact ⟨Below.refl _ _, hI, rfl⟩
    · intro f v w6 hI hd
      have h4 : v 4 = _ := hd 4 (by kernel_rfl)
      clear hd
      go_light
      refine ⟨?_⟩
      unfold Gives
      simp only [fillL]
      go_simp
      exact ⟨Below.refl _ _, hI, rfl⟩
    · intro f v w6 hI hd
      have h5 : v 5 = _ := hd 5 (by kernel_rfl)
      clear hd
      go_light
      refine ⟨?_⟩
      unfold Gives
      simp only [fillL]
      go_simp
      exact ⟨Below.refl _ _, hI, rfl⟩
    · intro f v w6 hI hd
      have h6 : v 6 = _ := hd 6 (by kernel_rfl)
      clear hd
      go_light
      refine ⟨?_⟩
      unfold Gives
      simp only [fillL]
      go_simp
      exact ⟨(Below.refl _ _).alloc (Nat.le_refl _) _, bstep hI ((Below.refl _ _).alloc (Nat.le_refl _) _), _, rfl, by simp, by simp⟩
    · intro f v w6 hI hd
      obtain ⟨b, h7, hb, hc⟩ : ∃ b, v 7 = .slice (some ⟨b, 0, none⟩) 1 1 ∧ b < w6.heap.size ∧ w6.cell? ⟨b, 0, none⟩ = some (.int .u8 (48 + (m : Int) % 10)) := hd 7 (by kernel_rfl)
      have hcv := cv_digit m b w6 hc
      clear hd
      go_light
      refine ⟨?_⟩
      unfold Gives
      simp only [fillL]
      go_simp
      exact ⟨Below.refl _ _, hI, rfl⟩
    · intro f v w6 hI hd
      have h2 : v 2 = _ := hd 2 (by kernel_rfl)
      have h8 : v 8 = _ := hd 8 (by kernel_rfl)
      have hy : ¬ (9223372036854775807 < (dtx [dlet (m / 10)]).size + (dtx [dlet m]).size) := by rw [dtx_size, dtx_size]; simp
      have ha := dtx_app [dlet (m / 10)] [dlet m]
      clear hd
      go_light
      refine ⟨?_⟩
      unfold Gives
      simp only [fillL]
      go_simp
      exact ⟨Below.refl _ _, hI, rfl⟩
    · intro f v w6 hI hd
      have h9 : v 9 = _ := hd 9 (by kernel_rfl)
      clear hd
      go_light
      refine ⟨?_⟩
      unfold Gives
      simp only [fillL]
      go_simp
      exact ⟨Below.refl _ _, hI, rfl⟩
  intro f v w6 hI hall
  have h10 : v 10 = .string (dtx [dlet (m / 10), dlet m]) := hall 10 (by decide)
  clear hall
  refine ⟨?_⟩
  simp only [fillL]
  go_simp
  clear h10
  go_wp2_with fail
  go_ret
  exact ⟨by rw [HD.out]; rfl, hI⟩
theorem l6Dec (m : Nat) (w : World) (h : m ≤ 99) : Calls Tryd.prog 17 #[.int .i64 (m : Int)] w fun e w' => e = .returned (.string (dtx (dec2 m))) ∧ Below w.heap.size w w' := by
  by_cases h1 : m ≤ 9
  · rw [show dec2 m = [dlet m] by rw [dec2, if_pos (by omega)]]
    exact l6Dec_1 m w h1
  · exact l6Dec_2 m w (by omega) h

set_option maxRecDepth 100000 in
theorem itoaSmall (m : Nat) (w : World) (h : m ≤ 20) : Calls Tryd.prog 32 #[.int .i64 (m : Int)] w fun e w' => e = .returned (.string (dtx (dec2 m))) ∧ w = w' := by
  rcases (show m = 0 ∨ m = 1 ∨ m = 2 ∨ m = 3 ∨ m = 4 ∨ m = 5 ∨ m = 6 ∨ m = 7 ∨ m = 8 ∨ m = 9 ∨ m = 10 ∨ m = 11 ∨ m = 12 ∨ m = 13 ∨ m = 14 ∨ m = 15 ∨ m = 16 ∨ m = 17 ∨ m = 18 ∨ m = 19 ∨ m = 20 by omega) with rfl | rfl | rfl | rfl | rfl | rfl | rfl | rfl | rfl | rfl | rfl | rfl | rfl | rfl | rfl | rfl | rfl | rfl | rfl | rfl | rfl
  all_goals
    go_enter Tryd.func32, Tryd.ntmps32
    go_wp2_with fail
    go_ret
    exact ⟨rfl, rfl⟩
theorem itoaFmt (m : Nat) (w : World) (h : m ≤ 20) : Calls Tryd.prog 29 #[.int .i64 (m : Int), .int .i64 10] w fun e w' => e = .returned (.string (dtx (dec2 m))) ∧ w = w' := by
  go_enter Tryd.func29, Tryd.ntmps29
  go_wp2_with fail
  refine (itoaSmall m _ h).mono ?_
  rintro e w' ⟨rfl, rfl⟩
  go_wp2_with fail
  go_ret
  exact ⟨rfl, rfl⟩
theorem itoaIn (m : Nat) (w : World) (h : m ≤ 20) : Calls Tryd.prog 22 #[.int .i64 (m : Int)] w fun e w' => e = .returned (.string (dtx (dec2 m))) ∧ w = w' := by
  go_enter Tryd.func22, Tryd.ntmps22
  go_wp2_with fail
  refine (itoaFmt m _ h).mono ?_
  rintro e w' ⟨rfl, rfl⟩
  go_wp2_with fail
  go_ret
  exact ⟨rfl, rfl⟩
theorem itoa (m : Nat) (w : World) (h : m ≤ 20) : Calls Tryd.prog 14 #[.int .i64 (m : Int)] w fun e w' => e = .returned (.string (dtx (dec2 m))) ∧ w = w' := by
  go_enter Tryd.func14, Tryd.ntmps14
  go_wp2_with fail
  refine (itoaIn m _ h).mono ?_
  rintro e w' ⟨rfl, rfl⟩
  go_wp2_with fail
  go_ret
  exact ⟨rfl, rfl⟩
end Go.Proofs.YtnmfppjjhbkfmaaDoor
