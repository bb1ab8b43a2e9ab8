/- Numbers of any size in decimal: the reference's l6Dec, strconv.Itoa. -/
import Derived.Test.YtnmfppjjhbkfmaaDoorDec
import Derived.Test.YtnmfppjjhbkfmaaDoorItoa
import Derived.Lib.ItoaMem
namespace Go.Proofs.YtnmfppjjhbkfmaaDoor
open Go.RowKit

theorem decD_small {m : Nat} (h : m ≤ 9) : Lib.decDigits m = [dlet m] := by
  rw [Lib.decDigits_one (by omega), dlet, Nat.mod_eq_of_lt (by omega)]
theorem decD_big {m : Nat} (h : 10 ≤ m) : Lib.decDigits m = Lib.decDigits (m / 10) ++ [dlet m] := by
  rw [Lib.decDigits, dif_neg (by omega)]
  rfl
theorem decD_len : ∀ (k m : Nat), m < 10 ^ (k + 1) → (Lib.decDigits m).length ≤ k + 1
  | 0, m, h => by rw [decD_small (by omega)]; simp
  | k + 1, m, h => by
    by_cases h1 : m ≤ 9
    · rw [decD_small h1]; simp
    · rw [decD_big (by omega), List.length_append]
      have := decD_len k (m / 10) (by rw [Nat.pow_succ] at h; omega)
      simp
      omega
theorem decD_pos (m : Nat) : Lib.decDigits m ≠ [] := by
  by_cases h1 : m ≤ 9
  · rw [decD_small h1]; simp
  · rw [decD_big (by omega)]; simp
theorem dlet_mod {a b : Nat} (h : dlet a = dlet b) : a % 10 = b % 10 := by
  have := congrArg UInt8.toNat h
  rw [dlet_nat, dlet_nat] at this
  omega
theorem decD_inj : ∀ (a b : Nat), Lib.decDigits a = Lib.decDigits b → a = b := by
  intro a
  induction a using Nat.strongRecOn with
  | _ a ih =>
    intro b h
    by_cases ha : a ≤ 9
    · by_cases hb : b ≤ 9
      · rw [decD_small ha, decD_small hb] at h
        injection h with h
        have := dlet_mod h
        omega
      · rw [decD_small ha, decD_big (by omega)] at h
        have := congrArg List.length h
        have h2 := List.length_pos_iff.2 (decD_pos (b / 10))
        rw [List.length_append] at this
        simp only [List.length_cons, List.length_nil] at this
        omega
    · by_cases hb : b ≤ 9
      · rw [decD_small hb, decD_big (by omega)] at h
        have := congrArg List.length h
        have h2 := List.length_pos_iff.2 (decD_pos (a / 10))
        rw [List.length_append] at this
        simp only [List.length_cons, List.length_nil] at this
        omega
      · rw [decD_big (by omega), decD_big (m := b) (by omega)] at h
        have h1 := List.append_inj_left' h rfl
        have h2 := List.append_inj_right' h rfl
        have h3 := ih (a / 10) (by omega) _ h1
        injection h2 with h2
        have := dlet_mod h2
        omega
theorem decD_digit : ∀ (m : Nat), ∀ c ∈ Lib.decDigits m, 48 ≤ c.toNat ∧ c.toNat ≤ 57 := by
  intro m
  induction m using Nat.strongRecOn with
  | _ m ih =>
    intro c hc
    by_cases h1 : m ≤ 9
    · rw [decD_small h1] at hc
      simp at hc
      subst hc
      rw [dlet_nat]
      omega
    · rw [decD_big (by omega), List.mem_append] at hc
      rcases hc with hc | hc
      · exact ih (m / 10) (by omega) c hc
      · simp at hc
        subst hc
        rw [dlet_nat]
        omega

def luT (m : Nat) (D : List UInt8) : Nat → World → Value → Prop
  | 0 => fun _ v => v = .int .i64 (m : Int)
  | 1 => fun _ v => v = .int .i64 ((m / 10 : Nat) : Int)
  | 2 => fun _ v => v = .string (dtx D)
  | 3 => fun _ v => v = .int .i64 (m : Int)
  | 4 => fun _ v => v = .int .i64 ((m : Int) % 10)
  | 5 => fun _ v => v = .int .i64 (48 + (m : Int) % 10)
  | 6 => fun _ v => v = .int .u8 (48 + (m : Int) % 10)
  | 7 => fun w v => ∃ b, v = .slice (some ⟨b, 0, none⟩) 1 1 ∧ b < w.heap.size ∧ w.cell? ⟨b, 0, none⟩ = some (.int .u8 (48 + (m : Int) % 10))
  | 8 => fun _ v => v = .string (dtx [dlet m])
  | _ => fun _ v => v = .string (dtx (D ++ [dlet m]))
theorem luT_keep {m : Nat} {D : List UInt8} (i : Nat) (w1 w2 : World) (v : Value) (hR : Below w1.heap.size w1 w2) (h : luT m D i w1 v) : luT m D i w2 v := by
  match i, h with
  | 0, h => exact h
  | 1, h => exact h
  | 2, h => exact h
  | 3, h => exact h
  | 4, h => exact h
  | 5, h => exact h
  | 6, h => exact h
  | 7, ⟨b, h1, h2, h3⟩ => exact ⟨b, h1, Nat.lt_of_lt_of_le h2 hR.size, (hR.cell (p := ⟨b, 0, none⟩) h2).trans h3⟩
  | 8, h => exact h
  | _ + 9, h => exact h

set_option maxRecDepth 100000 in
set_option maxHeartbeats 1000000 in
theorem l6Dec_3 (m : Nat) (w : World) (h : 10 ≤ m) (h2 : m ≤ 2000000000) (ih : ∀ w, Calls Tryd.prog 17 #[.int .i64 ((m / 10 : Nat) : Int)] w fun e w' => e = .returned (.string (dtx (Lib.decDigits (m / 10)))) ∧ Below w.heap.size w w') : Calls Tryd.prog 17 #[.int .i64 (m : Int)] w fun e w' => e = .returned (.string (dtx (Lib.decDigits m))) ∧ Below w.heap.size w w' := by
  have HD : Hid (dtx (Lib.decDigits m) = dtx (Lib.decDigits (m / 10) ++ [dlet m])) := Lib.hid (by rw [decD_big h])
  have hlen : (Lib.decDigits (m / 10)).length ≤ 10 := decD_len 9 _ (by omega)
  have HIH := Lib.hid ih
  obtain ⟨D, hD⟩ : ∃ D, Lib.decDigits (m / 10) = D := ⟨_, rfl⟩
  rw [hD] at HD HIH hlen
  clear ih hD
  go_enter Tryd.func17, Tryd.ntmps17
  go_wp2_with fail
  have wA : IntKind.i64.wrap ((m : Int) / 10) = (m : Int) / 10 := IntWalk.i64_in _ (by omega)
  have wB : IntKind.i64.wrap (48 + (m : Int) % 10) = 48 + (m : Int) % 10 := IntWalk.i64_in _ (by omega)
  have wC : IntKind.u8.wrap (48 + (m : Int) % 10) = 48 + (m : Int) % 10 := IntWalk.u8_in _ (by omega)
  refine wp_region_lawful (fun w1 w2 => Below w1.heap.size w1 w2) (fun _ w1 => Below w.heap.size w w1) (luT m D) (by kernel_rfl) (by kernel_rfl) luT_keep ?_ ?_ ?_
  · exact (Below.refl _ _).drew
  · refine lawsFrom_cons rfl ?_ (lawsFrom_cons rfl ?_ (lawsFrom_cons rfl ?_ (lawsFrom_cons rfl ?_ (lawsFrom_cons rfl ?_ (lawsFrom_cons rfl ?_ (lawsFrom_cons rfl ?_ (lawsFrom_cons rfl ?_ (lawsFrom_cons rfl ?_ (lawsFrom_cons rfl ?_ (lawsFrom_cons rfl ?_ lawsFrom_nil))))))))))
    · intro f v w6 hI hd
      clear hd
      go_light
      refine ⟨?_⟩
      unfold Gives
      simp only [fillL]
      go_simp
      exact ⟨Below.refl _ _, hI, rfl⟩
    · intro f v w6 hI hd
      have h0 : v 0 = _ := hd 0 (by kernel_rfl)
      clear hd
      go_light
      refine ⟨?_⟩
      unfold Gives
      simp only [fillL]
      go_simp
      exact ⟨Below.refl _ _, hI, by simp [luT]⟩
    · intro f v w6 hI hd
      have h1 : v 1 = _ := hd 1 (by kernel_rfl)
      clear hd
      go_light
      refine ⟨?_⟩
      unfold Gives
      simp only [fillL]
      go_simp
      refine (HIH.out w6).mono ?_
      rintro e w7 ⟨rfl, b7⟩
      exact ⟨_, rfl, b7, bstep hI b7, rfl⟩
    · intro f v w6 hI hd
      clear hd
      go_light
      refine ⟨?_⟩
      unfold Gives
      simp only [fillL]
      go_simp
      exact ⟨Below.refl _ _, hI, rfl⟩
    · intro f v w6 hI hd
      have h3 : v 3 = _ := hd 3 (by kernel_rfl)
      clear hd
      go_light
      refine ⟨?_⟩
      unfold Gives
      simp only [fillL]
      go_simp
      exact ⟨Below.refl _ _, hI, rfl⟩
    · intro f v w6 hI hd
      have h4 : v 4 = _ := hd 4 (by kernel_rfl)
      clear hd
      go_light
      refine ⟨?_⟩
      unfold Gives
      simp only [fillL]
      go_simp
      exact ⟨Below.refl _ _, hI, rfl⟩
    · intro f v w6 hI hd
      have h5 : v 5 = _ := hd 5 (by kernel_rfl)
      clear hd
      go_light
      refine ⟨?_⟩
      unfold Gives
      simp only [fillL]
      go_simp
      exact ⟨Below.refl _ _, hI, rfl⟩
    · intro f v w6 hI hd
      have h6 : v 6 = _ := hd 6 (by kernel_rfl)
      clear hd
      go_light
      refine ⟨?_⟩
      unfold Gives
      simp only [fillL]
      go_simp
      exact ⟨(Below.refl _ _).alloc (Nat.le_refl _) _, bstep hI ((Below.refl _ _).alloc (Nat.le_refl _) _), _, rfl, by simp, by simp⟩
    · intro f v w6 hI hd
      obtain ⟨b, h7, hb, hc⟩ : ∃ b, v 7 = .slice (some ⟨b, 0, none⟩) 1 1 ∧ b < w6.heap.size ∧ w6.cell? ⟨b, 0, none⟩ = some (.int .u8 (48 + (m : Int) % 10)) := hd 7 (by kernel_rfl)
      have hcv := cv_digit m b w6 hc
      clear hd
      go_light
      refine ⟨?_⟩
      unfold Gives
      simp only [fillL]
      go_simp
      exact ⟨Below.refl _ _, hI, rfl⟩
    · intro f v w6 hI hd
      have h2 : v 2 = _ := hd 2 (by kernel_rfl)
      have h8 : v 8 = _ := hd 8 (by kernel_rfl)
      have hy : ¬ (9223372036854775807 < (dtx D).size + (dtx [dlet m]).size) := by rw [dtx_size, dtx_size]; simp; omega
      have ha := dtx_app D [dlet m]
      clear hd
      go_light
      refine ⟨?_⟩
      unfold Gives
      simp only [fillL]
      go_simp
      exact ⟨Below.refl _ _, hI, rfl⟩
    · intro f v w6 hI hd
      have h9 : v 9 = _ := hd 9 (by kernel_rfl)
      clear hd
      go_light
      refine ⟨?_⟩
      unfold Gives
      simp only [fillL]
      go_simp
      exact ⟨Below.refl _ _, hI, rfl⟩
  intro f v w6 hI hall
  have h10 : v 10 = .string (dtx (D ++ [dlet m])) := hall 10 (by decide)
  clear hall
  refine ⟨?_⟩
  simp only [fillL]
  go_simp
  clear h10
  go_wp2_with fail
  go_ret
  exact ⟨by rw [HD.out]; rfl, hI⟩
theorem l6DecU : ∀ (m : Nat) (w : World), m ≤ 2000000000 → Calls Tryd.prog 17 #[.int .i64 (m : Int)] w fun e w' => e = .returned (.string (dtx (Lib.decDigits m))) ∧ Below w.heap.size w w' := by
  intro m
  induction m using Nat.strongRecOn with
  | _ m ih =>
    intro w h
    by_cases h1 : m ≤ 9
    · rw [decD_small h1]
      exact l6Dec_1 m w h1
    · exact l6Dec_3 m w (by omega) h (fun w => ih (m / 10) (by omega) w (by omega))

/-- The library's table lies. -/
def Tab (w : World) : Prop := Lib.TabIs Tryd.prog w "internal/strconv.uint64pow10" .u64 Lib.pow10Tab
theorem Tab.below {w w' : World} (h : Tab w) (hb : Below w.heap.size w w') : Tab w' := by
  unfold Tab Lib.TabIs World.var? at *
  cases hg : Tryd.prog.globalNamed "internal/strconv.uint64pow10" with
  | none => rw [hg] at h; simp at h
  | some g =>
    rw [hg] at h
    simp only [Option.bind_some] at h ⊢
    have hlt : g < w.heap.size := by
      rcases Nat.lt_or_ge g w.heap.size with h1 | h1
      · exact h1
      · rw [Array.getElem?_eq_none h1] at h
        simp at h
    rw [hb.block g hlt]
    exact h
theorem itoaU (m : Nat) (w : World) (h : m ≤ 2000000000) (ht : Tab w) : Calls Tryd.prog 14 #[.int .i64 (m : Int)] w fun e w' => e = .returned (.string (dtx (Lib.decDigits m))) ∧ Below w.heap.size w w' := by
  refine (Tryd.strconv_Itoa (m : Int) (by omega) (by omega) w ht).mono ?_
  rintro e w' ⟨rfl, k, os, rfl⟩
  rw [Lib.itoa_nonneg]
  refine ⟨rfl, rfl, rfl, rfl, ?_, fun i hi => ?_⟩
  · simp [Sort.grow]
  · simp [Sort.grow]
    exact Array.getElem?_append_left hi
end Go.Proofs.YtnmfppjjhbkfmaaDoor
