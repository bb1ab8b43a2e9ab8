/- Contracts of TallyMatches (the program's) and TallyFraud. -/
import Derived.Test.YtfdabeikcpccgaaTal
import Derived.Test.YtfdabeikcpccgaaLater
namespace Go.Proofs.Ytfdabeikcpccgaa
open Go.RowKit

theorem bcell {W w1 : World} (hb : Below W.heap.size W w1) : (∀ b o, b < W.heap.size → w1.cell? ⟨b, o, none⟩ = W.cell? ⟨b, o, none⟩) ∧ (∀ b o, b < W.heap.size → w1.frozen? ⟨b, o, none⟩ = W.frozen? ⟨b, o, none⟩) :=
  ⟨fun b o h => hb.cell (p := ⟨b, o, none⟩) h, fun b o h => hb.frozen (p := ⟨b, o, none⟩) h⟩

set_option maxRecDepth 100000 in
theorem impl_TallyMatches (d c : Int) (s f : ByteArray) (w : World) (hs : s.size ≤ 1048576) :
    Calls Try.prog 21 #[.agg #[.int .i64 d, .int .i64 c, .string s, .string f]] w fun e w' => e = .returned (.bool (twoB d c && notB s && (s.toList == f.toList))) ∧ Below w.heap.size w w' := by
  have HBE := Lib.hid (fun o => (Below.refl w.heap.size w).alloc (Nat.le_refl _) o)
  cases h1 : twoB d c
  · go_enter Try.func21, Try.ntmps21
    go_wp2_with fail
    refine (different _ _ _).mono ?_
    rintro e w1 ⟨rfl, b1⟩
    rw [h1]
    go_wp2_with fail
    go_ret
    exact ⟨rfl, bstep (HBE.out _) b1⟩
  cases h2 : notB s
  all_goals
    go_enter Try.func21, Try.ntmps21
    go_wp2_with fail
    refine (different _ _ _).mono ?_
    rintro e w1 ⟨rfl, b1⟩
    rw [h1]
    obtain ⟨c1, _⟩ := bcell b1
    have r1 := bstep (HBE.out _) b1
    go_wp2_with fail
    refine (impl_NotchesValid _ _ hs).mono ?_
    rintro e w2 ⟨rfl, b2⟩
    rw [h2]
    have r2 := bstep r1 b2
  · go_wp2_with fail
    go_ret
    exact ⟨rfl, r2⟩
  · have hz : w.heap.size < w1.heap.size := by have := b1.size; simp at this; omega
    obtain ⟨c2, _⟩ := bcell b2
    go_wp2_with fail
    go_ret
    exact ⟨rfl, r2⟩

/-- Who has cut notches. -/
def fraud (d c : Int) (s f : ByteArray) : Int :=
  if twoB d c && notB s && notB f then (if lsum f.data.toList < lsum s.data.toList then 1 else if lsum s.data.toList < lsum f.data.toList then 2 else 0) else -1

set_option maxRecDepth 100000 in
theorem impl_TallyFraud (d c : Int) (s f : ByteArray) (w : World) (hs : s.size ≤ 1048576) (hf : f.size ≤ 1048576) :
    Calls Try.prog 23 #[.agg #[.int .i64 d, .int .i64 c, .string s, .string f]] w fun e w' => e = .returned (.int .i64 (fraud d c s f)) ∧ Below w.heap.size w w' := by
  have HBE := Lib.hid (fun o => (Below.refl w.heap.size w).alloc (Nat.le_refl _) o)
  go_enter Try.func23, Try.ntmps23
  go_wp2_with fail
  have hy2 := later_cell (w := w.alloc (.cells #[.int .i64 d, .int .i64 c, .string s, .string f] 28)) (p := ⟨w.heap.size, 2, none⟩) (v := .string s) (by simp)
  have hy3 := later_cell (w := w.alloc (.cells #[.int .i64 d, .int .i64 c, .string s, .string f] 28)) (p := ⟨w.heap.size, 3, none⟩) (v := .string f) (by simp)
  have hy := later_refl (w.alloc (.cells #[.int .i64 d, .int .i64 c, .string s, .string f] 28))
  refine wp_region_later (by kernel_rfl) (by kernel_rfl) ?_
  quiet_step (fail)
  quiet_step (fail)
  refine wpQuiet_step (fun K hK => ?_)
  go_simp
  refine ⟨.int .i64 (notW s), fun x => later_call (x := x) (impl_NotchesWorth s x.val hs), hK _ ?_⟩
  clear hK K
  quiet_step (fail)
  quiet_step (fail)
  refine wpQuiet_step (fun K hK => ?_)
  go_simp
  refine ⟨.int .i64 (notW f), fun x => later_call (x := x) (impl_NotchesWorth f x.val hf), hK _ ?_⟩
  clear hK K
  quiet_step (fail)
  quiet_step (fail)
  refine wpQuiet_nil ?_
  intro w' hw'
  obtain ⟨⟨w1, b1⟩, hw''⟩ := hw'
  obtain rfl : w' = w1 := hw''
  clear hy hy2 hy3
  obtain ⟨c1, _⟩ := bcell b1
  have r1 := bstep (HBE.out _) b1
  go_wp2_with fail
  refine (different _ _ _).mono ?_
  rintro e w2 ⟨rfl, b2⟩
  have r2 := bstep r1 b2
  clear c1
  cases h1 : twoB d c
  · have HF : Hid (fraud d c s f = -1) := Lib.hid (by simp [fraud, h1])
    go_wp2_with fail
    go_ret
    exact ⟨ret_int HF.out.symm, r2⟩
  cases h2 : notB s
  · have HF : Hid (fraud d c s f = -1) := Lib.hid (by simp [fraud, h2])
    rw [show notW s = -1 by simp [notW, h2]]
    go_wp2_with fail
    go_ret
    exact ⟨ret_int HF.out.symm, r2⟩
  have l0 := (lsum_bd s.data.toList).1
  have m0 := (lsum_bd f.data.toList).1
  rw [show notW s = lsum s.data.toList by simp [notW, h2]]
  cases h3 : notB f
  · have HF : Hid (fraud d c s f = -1) := Lib.hid (by simp [fraud, h3])
    rw [show notW f = -1 by simp [notW, h3]]
    go_wp2_with fail
    go_ret
    exact ⟨ret_int HF.out.symm, r2⟩
  rw [show notW f = lsum f.data.toList by simp [notW, h3]]
  by_cases h4 : lsum f.data.toList < lsum s.data.toList
  · have HF : Hid (fraud d c s f = 1) := Lib.hid (by simp [fraud, h1, h2, h3, h4])
    go_wp2_with fail
    go_ret
    exact ⟨ret_int HF.out.symm, r2⟩
  by_cases h5 : lsum s.data.toList < lsum f.data.toList
  · have HF : Hid (fraud d c s f = 2) := Lib.hid (by simp [fraud, h1, h2, h3, h4, h5])
    go_wp2_with fail
    go_ret
    exact ⟨ret_int HF.out.symm, r2⟩
  · have HF : Hid (fraud d c s f = 0) := Lib.hid (by simp [fraud, h1, h2, h3, h4, h5])
    go_wp2_with fail
    go_ret
    exact ⟨ret_int HF.out.symm, r2⟩

set_option maxRecDepth 100000 in
theorem spec_TallyFraud (d c : Int) (s f : ByteArray) (w : World) (hs : s.size ≤ 1048576) (hf : f.size ≤ 1048576) :
    Calls Try.prog 22 #[.agg #[.int .i64 d, .int .i64 c, .string s, .string f]] w fun e w' => e = .returned (.int .i64 (fraud d c s f)) ∧ Below w.heap.size w w' := by
  have HBE := Lib.hid (fun o => (Below.refl w.heap.size w).alloc (Nat.le_refl _) o)
  go_enter Try.func22, Try.ntmps22
  go_wp2_with fail
  refine (l6yTwo _ _ _).mono ?_
  rintro e w' ⟨rfl, rfl⟩
  cases h1 : twoB d c
  · have HF : Hid (fraud d c s f = -1) := Lib.hid (by simp [fraud, h1])
    go_wp2_with fail
    go_ret
    exact ⟨ret_int HF.out.symm, HBE.out _⟩
  go_wp2_with fail
  refine (spec_NotchesValid _ _ hs).mono ?_
  rintro e w' ⟨rfl, n, rfl⟩
  cases h2 : notB s
  · have HF : Hid (fraud d c s f = -1) := Lib.hid (by simp [fraud, h2])
    go_wp2_with fail
    go_ret
    exact ⟨ret_int HF.out.symm, (HBE.out _).drewN n⟩
  go_wp2_with fail
  refine (spec_NotchesValid _ _ hf).mono ?_
  rintro e w' ⟨rfl, n2, rfl⟩
  cases h3 : notB f
  · have HF : Hid (fraud d c s f = -1) := Lib.hid (by simp [fraud, h3])
    go_wp2_with fail
    go_ret
    exact ⟨ret_int HF.out.symm, (HBE.out _).drewN _⟩
  by_cases h4 : lsum f.data.toList < lsum s.data.toList
  · have HF : Hid (fraud d c s f = 1) := Lib.hid (by simp [fraud, h1, h2, h3, h4])
    go_wp2_with fail
    go_quiet (first | (go_at_call 44; exact quiet_left2 (spec_l6ySum _ _ hs)) | (go_at_call 44; exact quiet_left2 (spec_l6ySum _ _ hf)))
    go_wp2_with fail
    go_ret
    exact ⟨ret_int HF.out.symm, ((HBE.out _).drewN _).drewN _⟩
  have d4 : decide (lsum f.data.toList < lsum s.data.toList) = false := by simpa using h4
  by_cases h5 : lsum s.data.toList < lsum f.data.toList
  · have HF : Hid (fraud d c s f = 2) := Lib.hid (by simp [fraud, h1, h2, h3, h4, h5])
    go_wp2_with fail
    go_quiet (first | (go_at_call 44; exact quiet_left2 (spec_l6ySum _ _ hs)) | (go_at_call 44; exact quiet_left2 (spec_l6ySum _ _ hf)))
    go_wp2_with fail
    go_quiet (first | (go_at_call 44; exact quiet_left2 (spec_l6ySum _ _ hs)) | (go_at_call 44; exact quiet_left2 (spec_l6ySum _ _ hf)))
    go_wp2_with fail
    go_ret
    exact ⟨ret_int HF.out.symm, (((HBE.out _).drewN _).drewN _).drewN _⟩
  · have HF : Hid (fraud d c s f = 0) := Lib.hid (by simp [fraud, h1, h2, h3, h4, h5])
    have d5 : decide (lsum s.data.toList < lsum f.data.toList) = false := by simpa using h5
    go_wp2_with fail
    go_quiet (first | (go_at_call 44; exact quiet_left2 (spec_l6ySum _ _ hs)) | (go_at_call 44; exact quiet_left2 (spec_l6ySum _ _ hf)))
    go_wp2_with fail
    go_quiet (first | (go_at_call 44; exact quiet_left2 (spec_l6ySum _ _ hs)) | (go_at_call 44; exact quiet_left2 (spec_l6ySum _ _ hf)))
    go_wp2_with fail
    go_ret
    exact ⟨ret_int HF.out.symm, (((HBE.out _).drewN _).drewN _).drewN _⟩
end Go.Proofs.Ytfdabeikcpccgaa
