/- Contracts of NotchesOf, of the program and of the reference. -/
import Derived.Test.YtfdabeikcpccgaaMany
import Derived.Test.YtfdabeikcpccgaaRep
import Derived.Test.YtfdabeikcpccgaaLater
namespace Go.Proofs.Ytfdabeikcpccgaa
open Go.RowKit

def rpt (c : UInt8) (n : Nat) : List UInt8 := Lib.repeatL [c] n
theorem rpt_len (c : UInt8) (n : Nat) : (rpt c n).length = n := by rw [rpt, Lib.repeatL_length]; simp
/-- The notches of a worth. -/
def notL (x : Nat) : List UInt8 := ((rpt 77 (x / 1000) ++ rpt 67 (x / 100 % 10)) ++ rpt 88 (x / 10 % 10)) ++ rpt 73 (x % 10)
def NoT (w : World) (e : Ending) (w' : World) : Prop := e = .returned (.tuple #[.string (str []), .bool false]) ∧ Below w.heap.size w w'
def YesT (x : Nat) (w : World) (e : Ending) (w' : World) : Prop := e = .returned (.tuple #[.string (str (notL x)), .bool true]) ∧ Below w.heap.size w w'

theorem many_at (c : UInt8) (n : Nat) (h : n ≤ 9) (w : World) : Calls Try.prog 50 #[.string { data := #[c] }, .int .i64 (n : Int)] w fun e w' => e = .returned (.string (str (rpt c n))) ∧ w = w' := l6Many [c] n rfl h w

theorem spec_NotchesOf_no (n : Int) (w : World) (h : inB n 0 9999 = false) : Calls Try.prog 29 #[.int .i64 n] w (NoT w) := by
  go_enter Try.func29, Try.ntmps29
  go_wp2_with fail
  refine (l6In _ _ _ _).mono ?_
  rintro e w' ⟨rfl, rfl⟩
  rw [h]
  go_wp2_with fail
  go_ret2
  exact ⟨rfl, Below.refl _ _⟩

set_option maxRecDepth 100000 in
theorem spec_NotchesOf_yes (x : Nat) (w : World) (h : x ≤ 9999) : Calls Try.prog 29 #[.int .i64 (x : Int)] w (YesT x w) := by
  have hin : inB (x : Int) 0 9999 = true := inB_of (by omega) (by omega)
  have z1 : (str (rpt 77 (x / 1000))).size ≤ 9 := by rw [str_size, rpt_len]; omega
  have z2 : (str (rpt 67 (x / 100 % 10))).size ≤ 9 := by rw [str_size, rpt_len]; omega
  have z3 : (str (rpt 88 (x / 10 % 10))).size ≤ 9 := by rw [str_size, rpt_len]; omega
  have z4 : (str (rpt 73 (x % 10))).size ≤ 9 := by rw [str_size, rpt_len]; omega
  go_enter Try.func29, Try.ntmps29
  go_wp2_with fail
  refine (l6In _ _ _ _).mono ?_
  rintro e w' ⟨rfl, rfl⟩
  rw [hin]
  go_wp2_with fail
  rw [show (x : Int) / 1000 = ((x / 1000 : Nat) : Int) by omega]
  refine (many_at 77 _ (by omega) _).mono ?_
  rintro e w' ⟨rfl, rfl⟩
  go_wp2_with fail
  rw [show (x : Int) / 100 % 10 = ((x / 100 % 10 : Nat) : Int) by omega]
  refine (many_at 67 _ (by omega) _).mono ?_
  rintro e w' ⟨rfl, rfl⟩
  go_wp2_with fail
  rw [show (x : Int) / 10 % 10 = ((x / 10 % 10 : Nat) : Int) by omega]
  refine (many_at 88 _ (by omega) _).mono ?_
  rintro e w' ⟨rfl, rfl⟩
  go_wp2_with fail
  rw [show (x : Int) % 10 = ((x % 10 : Nat) : Int) by omega]
  refine (many_at 73 _ (by omega) _).mono ?_
  rintro e w' ⟨rfl, rfl⟩
  go_wp2_with fail
  go_ret2
  refine ⟨?_, Below.refl _ _⟩
  rw [notL, ← str_app, ← str_app, ← str_app]
  rfl

theorem impl_NotchesOf_no (n : Int) (w : World) (h : inB n 0 9999 = false) : Calls Try.prog 30 #[.int .i64 n] w (NoT w) := by
  rcases inB_f h with h1 | h1
  · go_enter Try.func30, Try.ntmps30
    go_wp2
    go_ret2
    exact ⟨rfl, Below.refl _ _⟩
  · have d1 : decide (n < 0) = false := by simp; omega
    go_enter Try.func30, Try.ntmps30
    go_wp2
    go_ret2
    exact ⟨rfl, Below.refl _ _⟩

def preL (x : Nat) : Nat → List UInt8
  | 0 => []
  | 1 => rpt 77 (x / 1000)
  | 2 => rpt 77 (x / 1000) ++ rpt 67 (x / 100 % 10)
  | 3 => (rpt 77 (x / 1000) ++ rpt 67 (x / 100 % 10)) ++ rpt 88 (x / 10 % 10)
  | _ => notL x
def restN (x : Nat) : Nat → Nat
  | 0 => x
  | 1 => x % 1000
  | 2 => x % 100
  | 3 => x % 10
  | _ => 0
def NoInv (x : Nat) (w : World) (m t i : Value) (wr : World) : Prop :=
  ∃ k : Nat, k ≤ 4 ∧ i = .int .i64 (k : Int) ∧ m = .int .i64 (restN x k : Int) ∧ t = .string (str (preL x k)) ∧ Below w.heap.size w wr

theorem repeat_at (c : UInt8) (n : Nat) (h : n ≤ 9) (w : World) : Calls Try.prog 51 #[.string { data := #[c] }, .int .i64 (n : Int)] w fun e w' => e = .returned (.string (str (rpt c n))) ∧ Below w.heap.size w w' :=
  Try.strings_Repeat { data := #[c] } n w (by omega) (by show 1 * n ≤ _; omega)

set_option maxRecDepth 100000 in
set_option maxHeartbeats 1000000 in
theorem impl_NotchesOf_yes (x : Nat) (w : World) (h : x ≤ 9999) : Calls Try.prog 30 #[.int .i64 (x : Int)] w (YesT x w) := by
  have d0 : decide ((x : Int) < 0) = false := by simp
  have d1 : decide ((9999 : Int) < (x : Int)) = false := by simp; omega
  have v1 : IntKind.i64.wrap 1 = 1 := rfl
  have v2 : IntKind.i64.wrap 2 = 2 := rfl
  have v3 : IntKind.i64.wrap 3 = 3 := rfl
  have v4 : IntKind.i64.wrap 4 = 4 := rfl
  have ex0 : (ByteArray.mk #[77, 67, 88, 73]).extract 0 1 = ByteArray.mk #[77] := by kernel_rfl
  have ex1 : (ByteArray.mk #[77, 67, 88, 73]).extract 1 2 = ByteArray.mk #[67] := by kernel_rfl
  have ex2 : (ByteArray.mk #[77, 67, 88, 73]).extract 2 3 = ByteArray.mk #[88] := by kernel_rfl
  have ex3 : (ByteArray.mk #[77, 67, 88, 73]).extract 3 4 = ByteArray.mk #[73] := by kernel_rfl
  go_enter Try.func30, Try.ntmps30
  go_wp2
  go_loopw [0, 4, 5] (fun m t i wr => NoInv x w m t i wr) (fun _ _ i _ => 4 - (intOf i).toNat)
  case atStart => exact ⟨0, Nat.zero_le _, rfl, rfl, rfl, Below.refl _ _⟩
  case round =>
    obtain ⟨k, hk, rfl, rfl, rfl, bw⟩ := hrel
    rcases (show k = 0 ∨ k = 1 ∨ k = 2 ∨ k = 3 ∨ k = 4 by omega) with rfl | rfl | rfl | rfl | rfl
    · obtain ⟨m, hm⟩ : ∃ m : Nat, m = restN x 0 := ⟨_, rfl⟩
      obtain ⟨pre, hp⟩ : ∃ pre : List UInt8, pre = preL x 0 := ⟨_, rfl⟩
      have m9 : m ≤ 9999 := by rw [hm]; simp only [restN]; omega
      obtain ⟨q, hq⟩ : ∃ q : Nat, q = m / 1000 := ⟨_, rfl⟩
      have q9 : q ≤ 9 := by omega
      have z0 : (str pre).size ≤ 0 := by rw [str_size, hp]; exact Nat.le_refl _
      have z1 : (str (rpt 77 q)).size ≤ 9 := by rw [str_size, rpt_len]; omega
      have hcat : ¬ (9223372036854775807 < (str pre).size + (str (rpt 77 q)).size) := by omega
      have HN : Hid (preL x 1 = pre ++ rpt 77 q) := Lib.hid (by rw [hp, hq, hm]; simp only [preL, restN, List.nil_append]; try rw [show x % 10000 / 1000 = x / 1000 % 10 by omega])
      have HR : Hid ((restN x 1 : Int) = (m : Int) % 1000) := Lib.hid (by rw [hm]; simp only [restN]; try omega)
      rw [← hm, ← hp]
      have wq : IntKind.i64.wrap ((m : Int) / 1000) = (q : Int) := by rw [IntWalk.i64_in _ (by omega), hq]; try omega
      clear hm hp hq
      go_wp2_with fail
      have hy := later_refl wr
      refine wp_region_later (by kernel_rfl) (by kernel_rfl) ?_
      iterate 7 quiet_step (fail)
      refine wpQuiet_step (fun K hK => ?_)
      go_simp
      refine ⟨.int .i64 1000, fun x => later_same (x := x) (letterWorth 0 _ (by omega) (by omega)), hK _ ?_⟩
      clear hK K
      quiet_step (fail)
      refine wpQuiet_step (fun K hK => ?_)
      go_simp
      refine ⟨.string (str (rpt 77 q)), fun x => later_call (x := x) (repeat_at 77 q q9 _), hK _ ?_⟩
      clear hK K
      iterate 2 quiet_step (fail)
      refine wpQuiet_nil ?_
      intro w' hw'
      obtain ⟨⟨w1, b1⟩, hw''⟩ := hw'
      obtain rfl : w' = w1 := hw''
      clear hy
      go_wp2_with fail
      refine (letterWorth 0 _ (by omega) (by omega)).mono ?_
      rintro e w2 ⟨rfl, rfl⟩
      rw [show lwI 0 = 1000 from rfl]
      go_wp2
      go_round
      case rel => exact ⟨1, by omega, rfl, by rw [HR.out], by rw [HN.out, ← str_app], bstep bw b1⟩
      case measure => simp [intOf]
    · obtain ⟨m, hm⟩ : ∃ m : Nat, m = restN x 1 := ⟨_, rfl⟩
      obtain ⟨pre, hp⟩ : ∃ pre : List UInt8, pre = preL x 1 := ⟨_, rfl⟩
      have m9 : m ≤ 999 := by rw [hm]; simp only [restN]; omega
      obtain ⟨q, hq⟩ : ∃ q : Nat, q = m / 100 := ⟨_, rfl⟩
      have q9 : q ≤ 9 := by omega
      have z0 : (str pre).size ≤ 9 := by rw [str_size, hp]; simp only [preL, rpt_len]; omega
      have z1 : (str (rpt 67 q)).size ≤ 9 := by rw [str_size, rpt_len]; omega
      have hcat : ¬ (9223372036854775807 < (str pre).size + (str (rpt 67 q)).size) := by omega
      have HN : Hid (preL x 2 = pre ++ rpt 67 q) := Lib.hid (by rw [hp, hq, hm]; simp only [preL, restN]; try rw [show x % 1000 / 100 = x / 100 % 10 by omega])
      have HR : Hid ((restN x 2 : Int) = (m : Int) % 100) := Lib.hid (by rw [hm]; simp only [restN]; try omega)
      rw [← hm, ← hp]
      have wq : IntKind.i64.wrap ((m : Int) / 100) = (q : Int) := by rw [IntWalk.i64_in _ (by omega), hq]; try omega
      clear hm hp hq
      go_wp2_with fail
      have hy := later_refl wr
      refine wp_region_later (by kernel_rfl) (by kernel_rfl) ?_
      iterate 7 quiet_step (fail)
      refine wpQuiet_step (fun K hK => ?_)
      go_simp
      refine ⟨.int .i64 100, fun x => later_same (x := x) (letterWorth 1 _ (by omega) (by omega)), hK _ ?_⟩
      clear hK K
      quiet_step (fail)
      refine wpQuiet_step (fun K hK => ?_)
      go_simp
      refine ⟨.string (str (rpt 67 q)), fun x => later_call (x := x) (repeat_at 67 q q9 _), hK _ ?_⟩
      clear hK K
      iterate 2 quiet_step (fail)
      refine wpQuiet_nil ?_
      intro w' hw'
      obtain ⟨⟨w1, b1⟩, hw''⟩ := hw'
      obtain rfl : w' = w1 := hw''
      clear hy
      go_wp2_with fail
      refine (letterWorth 1 _ (by omega) (by omega)).mono ?_
      rintro e w2 ⟨rfl, rfl⟩
      rw [show lwI 1 = 100 from rfl]
      go_wp2
      go_round
      case rel => exact ⟨2, by omega, rfl, by rw [HR.out], by rw [HN.out, ← str_app], bstep bw b1⟩
      case measure => simp [intOf]
    · obtain ⟨m, hm⟩ : ∃ m : Nat, m = restN x 2 := ⟨_, rfl⟩
      obtain ⟨pre, hp⟩ : ∃ pre : List UInt8, pre = preL x 2 := ⟨_, rfl⟩
      have m9 : m ≤ 99 := by rw [hm]; simp only [restN]; omega
      obtain ⟨q, hq⟩ : ∃ q : Nat, q = m / 10 := ⟨_, rfl⟩
      have q9 : q ≤ 9 := by omega
      have z0 : (str pre).size ≤ 18 := by rw [str_size, hp]; simp only [preL, List.length_append, rpt_len]; omega
      have z1 : (str (rpt 88 q)).size ≤ 9 := by rw [str_size, rpt_len]; omega
      have hcat : ¬ (9223372036854775807 < (str pre).size + (str (rpt 88 q)).size) := by omega
      have HN : Hid (preL x 3 = pre ++ rpt 88 q) := Lib.hid (by rw [hp, hq, hm]; simp only [preL, restN]; try rw [show x % 100 / 10 = x / 10 % 10 by omega])
      have HR : Hid ((restN x 3 : Int) = (m : Int) % 10) := Lib.hid (by rw [hm]; simp only [restN]; try omega)
      rw [← hm, ← hp]
      have wq : IntKind.i64.wrap ((m : Int) / 10) = (q : Int) := by rw [IntWalk.i64_in _ (by omega), hq]; try omega
      clear hm hp hq
      go_wp2_with fail
      have hy := later_refl wr
      refine wp_region_later (by kernel_rfl) (by kernel_rfl) ?_
      iterate 7 quiet_step (fail)
      refine wpQuiet_step (fun K hK => ?_)
      go_simp
      refine ⟨.int .i64 10, fun x => later_same (x := x) (letterWorth 2 _ (by omega) (by omega)), hK _ ?_⟩
      clear hK K
      quiet_step (fail)
      refine wpQuiet_step (fun K hK => ?_)
      go_simp
      refine ⟨.string (str (rpt 88 q)), fun x => later_call (x := x) (repeat_at 88 q q9 _), hK _ ?_⟩
      clear hK K
      iterate 2 quiet_step (fail)
      refine wpQuiet_nil ?_
      intro w' hw'
      obtain ⟨⟨w1, b1⟩, hw''⟩ := hw'
      obtain rfl : w' = w1 := hw''
      clear hy
      go_wp2_with fail
      refine (letterWorth 2 _ (by omega) (by omega)).mono ?_
      rintro e w2 ⟨rfl, rfl⟩
      rw [show lwI 2 = 10 from rfl]
      go_wp2
      go_round
      case rel => exact ⟨3, by omega, rfl, by rw [HR.out], by rw [HN.out, ← str_app], bstep bw b1⟩
      case measure => simp [intOf]
    · obtain ⟨m, hm⟩ : ∃ m : Nat, m = restN x 3 := ⟨_, rfl⟩
      obtain ⟨pre, hp⟩ : ∃ pre : List UInt8, pre = preL x 3 := ⟨_, rfl⟩
      have m9 : m ≤ 9 := by rw [hm]; simp only [restN]; omega
      obtain ⟨q, hq⟩ : ∃ q : Nat, q = m := ⟨_, rfl⟩
      have q9 : q ≤ 9 := by omega
      have z0 : (str pre).size ≤ 27 := by rw [str_size, hp]; simp only [preL, List.length_append, rpt_len]; omega
      have z1 : (str (rpt 73 q)).size ≤ 9 := by rw [str_size, rpt_len]; omega
      have hcat : ¬ (9223372036854775807 < (str pre).size + (str (rpt 73 q)).size) := by omega
      have HN : Hid (preL x 4 = pre ++ rpt 73 q) := Lib.hid (by rw [hp, hq, hm]; simp only [preL, notL, restN]; try rw [show x % 10 / 1 = x / 1 % 10 by omega])
      have HR : Hid ((restN x 4 : Int) = 0) := Lib.hid (rfl)
      rw [← hm, ← hp]
      have wq : IntKind.i64.wrap (m : Int) = (q : Int) := by rw [IntWalk.i64_in _ (by omega), hq]; try omega
      clear hm hp hq
      go_wp2_with fail
      have hy := later_refl wr
      refine wp_region_later (by kernel_rfl) (by kernel_rfl) ?_
      iterate 7 quiet_step (fail)
      refine wpQuiet_step (fun K hK => ?_)
      go_simp
      refine ⟨.int .i64 1, fun x => later_same (x := x) (letterWorth 3 _ (by omega) (by omega)), hK _ ?_⟩
      clear hK K
      quiet_step (fail)
      refine wpQuiet_step (fun K hK => ?_)
      go_simp
      refine ⟨.string (str (rpt 73 q)), fun x => later_call (x := x) (repeat_at 73 q q9 _), hK _ ?_⟩
      clear hK K
      iterate 2 quiet_step (fail)
      refine wpQuiet_nil ?_
      intro w' hw'
      obtain ⟨⟨w1, b1⟩, hw''⟩ := hw'
      obtain rfl : w' = w1 := hw''
      clear hy
      go_wp2_with fail
      refine (letterWorth 3 _ (by omega) (by omega)).mono ?_
      rintro e w2 ⟨rfl, rfl⟩
      rw [show lwI 3 = 1 from rfl]
      go_wp2
      go_round
      case rel => exact ⟨4, by omega, rfl, by rw [HR.out], by rw [HN.out, ← str_app], bstep bw b1⟩
      case measure => simp [intOf]
    · rw [show preL x 4 = notL x from rfl]
      go_wp2
      go_ret2
      exact ⟨rfl, bw⟩
end Go.Proofs.Ytfdabeikcpccgaa
