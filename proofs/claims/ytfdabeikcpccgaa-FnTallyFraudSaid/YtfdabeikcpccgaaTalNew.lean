/- Contracts of TallyNew, of the reference and of the program (written by mktaln.py). -/
import Derived.Test.YtfdabeikcpccgaaNotO
import Derived.Test.YtfdabeikcpccgaaFraud
namespace Go.Proofs.Ytfdabeikcpccgaa
open Go.RowKit

def TnNo (w : World) (e : Ending) (w' : World) : Prop := e = .returned (.tuple #[.agg #[.int .i64 0, .int .i64 0, .string { data := #[] }, .string { data := #[] }], .bool false]) ∧ Below w.heap.size w w'
def TnYes (d c : Int) (x : Nat) (w : World) (e : Ending) (w' : World) : Prop := e = .returned (.tuple #[.agg #[.int .i64 d, .int .i64 c, .string (str (notL x)), .string (str (notL x))], .bool true]) ∧ Below w.heap.size w w'

theorem notL_size (x : Nat) (h : x ≤ 9999) : (str (notL x)).size ≤ 36 := by
  rw [str_size, notL]; simp only [List.length_append, rpt_len]; omega

set_option maxRecDepth 100000 in
theorem spec_TallyNew_a (d c : Int) (n : Int) (w : World) (h : inB n 0 9999 = false) : Calls Try.prog 34 #[.int .i64 d, .int .i64 c, .int .i64 n] w (TnNo w) := by
  have HBE := Lib.hid (fun o => (Below.refl w.heap.size w).alloc (Nat.le_refl _) o)
  go_enter Try.func34, Try.ntmps34
  go_wp2_with fail
  refine (spec_NotchesOf_no _ _ h).mono ?_
  rintro e w1 ⟨rfl, b1⟩
  obtain ⟨c1, f1⟩ := bcell b1
  have r1 := bstep (HBE.out _) b1
  have hz : w.heap.size < w1.heap.size := by have := b1.size; simp at this; omega
  go_wp2_with fail
  refine bodyPost_ret (v := .tuple #[.agg #[.int .i64 0, .int .i64 0, .string { data := #[] }, .string { data := #[] }], .bool false]) (by simp [results, Try.results34, go_sem, *]) rfl ?_
  exact ⟨rfl, (((r1.setCell (by simp) _).setCell (by simp) _).setCell (by simp) _).setCell (by simp) _⟩

set_option maxRecDepth 100000 in
theorem spec_TallyNew_b (d c : Int) (x : Nat) (w : World) (h : x ≤ 9999) (h2 : twoB d c = false) : Calls Try.prog 34 #[.int .i64 d, .int .i64 c, .int .i64 (x : Int)] w (TnNo w) := by
  have HBE := Lib.hid (fun o => (Below.refl w.heap.size w).alloc (Nat.le_refl _) o)
  go_enter Try.func34, Try.ntmps34
  go_wp2_with fail
  refine (spec_NotchesOf_yes _ _ h).mono ?_
  rintro e w1 ⟨rfl, b1⟩
  obtain ⟨c1, f1⟩ := bcell b1
  have r1 := bstep (HBE.out _) b1
  have hz : w.heap.size < w1.heap.size := by have := b1.size; simp at this; omega
  go_wp2_with fail
  refine (l6yTwo _ _ _).mono ?_
  rintro e w2 ⟨rfl, rfl⟩
  rw [h2]
  go_wp2_with fail
  refine bodyPost_ret (v := .tuple #[.agg #[.int .i64 0, .int .i64 0, .string { data := #[] }, .string { data := #[] }], .bool false]) (by simp [results, Try.results34, go_sem, *]) rfl ?_
  exact ⟨rfl, (((r1.setCell (by simp) _).setCell (by simp) _).setCell (by simp) _).setCell (by simp) _⟩

set_option maxRecDepth 100000 in
theorem spec_TallyNew_c (d c : Int)  (w : World) (h2 : twoB d c = true) : Calls Try.prog 34 #[.int .i64 d, .int .i64 c, .int .i64 ((0 : Nat) : Int)] w (TnNo w) := by
  have h : 0 ≤ 9999 := by omega
  have HBE := Lib.hid (fun o => (Below.refl w.heap.size w).alloc (Nat.le_refl _) o)
  go_enter Try.func34, Try.ntmps34
  go_wp2_with fail
  refine (spec_NotchesOf_yes _ _ h).mono ?_
  rintro e w1 ⟨rfl, b1⟩
  obtain ⟨c1, f1⟩ := bcell b1
  have r1 := bstep (HBE.out _) b1
  have hz : w.heap.size < w1.heap.size := by have := b1.size; simp at this; omega
  go_wp2_with fail
  refine (l6yTwo _ _ _).mono ?_
  rintro e w2 ⟨rfl, rfl⟩
  rw [h2]
  go_wp2_with fail
  refine bodyPost_ret (v := .tuple #[.agg #[.int .i64 0, .int .i64 0, .string { data := #[] }, .string { data := #[] }], .bool false]) (by simp [results, Try.results34, go_sem, *]) rfl ?_
  exact ⟨rfl, (((r1.setCell (by simp) _).setCell (by simp) _).setCell (by simp) _).setCell (by simp) _⟩

set_option maxRecDepth 100000 in
theorem spec_TallyNew_y (d c : Int) (x : Nat) (w : World) (h : x ≤ 9999) (h0 : 1 ≤ x) (h2 : twoB d c = true) : Calls Try.prog 34 #[.int .i64 d, .int .i64 c, .int .i64 (x : Int)] w (TnYes d c x w) := by
  have hx : ((x : Int) == 0) = false := by simp; omega
  have HBE := Lib.hid (fun o => (Below.refl w.heap.size w).alloc (Nat.le_refl _) o)
  go_enter Try.func34, Try.ntmps34
  go_wp2_with fail
  refine (spec_NotchesOf_yes _ _ h).mono ?_
  rintro e w1 ⟨rfl, b1⟩
  obtain ⟨c1, f1⟩ := bcell b1
  have r1 := bstep (HBE.out _) b1
  have hz : w.heap.size < w1.heap.size := by have := b1.size; simp at this; omega
  go_wp2_with fail
  refine (l6yTwo _ _ _).mono ?_
  rintro e w2 ⟨rfl, rfl⟩
  rw [h2]
  go_wp2_with fail
  refine bodyPost_ret (v := .tuple #[.agg #[.int .i64 d, .int .i64 c, .string (str (notL x)), .string (str (notL x))], .bool true]) (by simp [results, Try.results34, go_sem, *]) rfl ?_
  exact ⟨rfl, (((r1.setCell (by simp) _).setCell (by simp) _).setCell (by simp) _).setCell (by simp) _⟩

end Go.Proofs.Ytfdabeikcpccgaa
