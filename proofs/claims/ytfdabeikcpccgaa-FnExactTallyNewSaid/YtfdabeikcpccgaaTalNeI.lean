/- Contracts of TallyNew of the program (written by mktaln.py). -/
import Derived.Test.YtfdabeikcpccgaaTalNew
namespace Go.Proofs.Ytfdabeikcpccgaa
open Go.RowKit

set_option maxRecDepth 100000 in
theorem tally_a (d c : Int) (n : Int) (w : World) (h2 : twoB d c = false) : Calls Try.prog 54 #[.agg #[.int .i64 d, .int .i64 c, .int .i64 n]] w (TnNo w) := by
  have HBE := Lib.hid (fun o o1 => ((Below.refl w.heap.size w).alloc (Nat.le_refl _) o).alloc (by simp) o1)
  go_enter Try.func54, Try.ntmps54
  go_wp2_with fail
  refine (different _ _ _).mono ?_
  rintro e w1 ⟨rfl, b1⟩
  rw [h2]
  obtain ⟨c1, f1⟩ := bcell b1
  have r0 := bstep (HBE.out _ _) b1
  have hz : w.heap.size + 1 < w1.heap.size := by have := b1.size; simp at this; omega
  have hz' : w.heap.size < w1.heap.size := by omega
  go_wp2_with fail
  have r1 := r0
  refine bodyPost_ret (v := .tuple #[.agg #[.int .i64 0, .int .i64 0, .string { data := #[] }, .string { data := #[] }], .bool false]) (by simp [results, Try.results54, go_sem, *]) rfl ?_
  exact ⟨rfl, (((r1.setCell (by simp) _).setCell (by simp) _).setCell (by simp) _).setCell (by simp) _⟩

set_option maxRecDepth 100000 in
theorem tally_b (d c : Int) (n : Int) (w : World) (h2 : twoB d c = true) (h : n < 1) : Calls Try.prog 54 #[.agg #[.int .i64 d, .int .i64 c, .int .i64 n]] w (TnNo w) := by
  have HBE := Lib.hid (fun o o1 => ((Below.refl w.heap.size w).alloc (Nat.le_refl _) o).alloc (by simp) o1)
  go_enter Try.func54, Try.ntmps54
  go_wp2_with fail
  refine (different _ _ _).mono ?_
  rintro e w1 ⟨rfl, b1⟩
  rw [h2]
  obtain ⟨c1, f1⟩ := bcell b1
  have r0 := bstep (HBE.out _ _) b1
  have hz : w.heap.size + 1 < w1.heap.size := by have := b1.size; simp at this; omega
  have hz' : w.heap.size < w1.heap.size := by omega
  go_wp2_with fail
  have r1 := r0
  refine bodyPost_ret (v := .tuple #[.agg #[.int .i64 0, .int .i64 0, .string { data := #[] }, .string { data := #[] }], .bool false]) (by simp [results, Try.results54, go_sem, *]) rfl ?_
  exact ⟨rfl, (((r1.setCell (by simp) _).setCell (by simp) _).setCell (by simp) _).setCell (by simp) _⟩

set_option maxRecDepth 100000 in
theorem tally_c (d c : Int) (n : Int) (w : World) (h2 : twoB d c = true) (h1 : 1 ≤ n) (h : inB n 0 9999 = false) : Calls Try.prog 54 #[.agg #[.int .i64 d, .int .i64 c, .int .i64 n]] w (TnNo w) := by
  have HBE := Lib.hid (fun o o1 => ((Below.refl w.heap.size w).alloc (Nat.le_refl _) o).alloc (by simp) o1)
  go_enter Try.func54, Try.ntmps54
  go_wp2_with fail
  refine (different _ _ _).mono ?_
  rintro e w1 ⟨rfl, b1⟩
  rw [h2]
  obtain ⟨c1, f1⟩ := bcell b1
  have r0 := bstep (HBE.out _ _) b1
  have hz : w.heap.size + 1 < w1.heap.size := by have := b1.size; simp at this; omega
  have hz' : w.heap.size < w1.heap.size := by omega
  go_wp2_with fail
  refine (impl_NotchesOf_no _ _ h).mono ?_
  rintro e w2 ⟨rfl, b2⟩
  obtain ⟨c2, f2⟩ := bcell b2
  have r1 := bstep r0 b2
  have hz2 : w.heap.size + 1 < w2.heap.size := by have := b2.size; omega
  have hz2' : w.heap.size < w2.heap.size := by omega
  go_wp2_with fail
  refine bodyPost_ret (v := .tuple #[.agg #[.int .i64 0, .int .i64 0, .string { data := #[] }, .string { data := #[] }], .bool false]) (by simp [results, Try.results54, go_sem, *]) rfl ?_
  exact ⟨rfl, (((r1.setCell (by simp) _).setCell (by simp) _).setCell (by simp) _).setCell (by simp) _⟩

set_option maxRecDepth 100000 in
theorem tally_y (d c : Int) (x : Nat) (w : World) (h2 : twoB d c = true) (h1 : 1 ≤ x) (h : x ≤ 9999) : Calls Try.prog 54 #[.agg #[.int .i64 d, .int .i64 c, .int .i64 (x : Int)]] w (TnYes d c x w) := by
  have HBE := Lib.hid (fun o o1 => ((Below.refl w.heap.size w).alloc (Nat.le_refl _) o).alloc (by simp) o1)
  go_enter Try.func54, Try.ntmps54
  go_wp2_with fail
  refine (different _ _ _).mono ?_
  rintro e w1 ⟨rfl, b1⟩
  rw [h2]
  obtain ⟨c1, f1⟩ := bcell b1
  have r0 := bstep (HBE.out _ _) b1
  have hz : w.heap.size + 1 < w1.heap.size := by have := b1.size; simp at this; omega
  have hz' : w.heap.size < w1.heap.size := by omega
  go_wp2_with fail
  refine (impl_NotchesOf_yes _ _ h).mono ?_
  rintro e w2 ⟨rfl, b2⟩
  obtain ⟨c2, f2⟩ := bcell b2
  have r1 := bstep r0 b2
  have hz2 : w.heap.size + 1 < w2.heap.size := by have := b2.size; omega
  have hz2' : w.heap.size < w2.heap.size := by omega
  go_wp2_with fail
  refine bodyPost_ret (v := .tuple #[.agg #[.int .i64 d, .int .i64 c, .string (str (notL x)), .string (str (notL x))], .bool true]) (by simp [results, Try.results54, go_sem, *]) rfl ?_
  exact ⟨rfl, (((r1.setCell (by simp) _).setCell (by simp) _).setCell (by simp) _).setCell (by simp) _⟩

set_option maxRecDepth 100000 in
theorem impl_TallyNew_a (d c : Int) (n : Int) (w : World) (h2 : twoB d c = false) : Calls Try.prog 35 #[.int .i64 d, .int .i64 c, .int .i64 n] w (TnNo w) := by
  have HBE := Lib.hid (fun o => (Below.refl w.heap.size w).alloc (Nat.le_refl _) o)
  go_enter Try.func35, Try.ntmps35
  go_wp2_with fail
  refine (tally_a _ _ _ _ h2).mono ?_
  rintro e w1 ⟨rfl, b1⟩
  obtain ⟨c1, f1⟩ := bcell b1
  have r1 := bstep (HBE.out _) b1
  have hz : w.heap.size < w1.heap.size := by have := b1.size; simp at this; omega
  go_wp2_with fail
  refine bodyPost_ret (v := .tuple #[.agg #[.int .i64 0, .int .i64 0, .string { data := #[] }, .string { data := #[] }], .bool false]) (by simp [results, Try.results35, go_sem, *]) rfl ?_
  exact ⟨rfl, (((r1.setCell (by simp) _).setCell (by simp) _).setCell (by simp) _).setCell (by simp) _⟩

set_option maxRecDepth 100000 in
theorem impl_TallyNew_b (d c : Int) (n : Int) (w : World) (h2 : twoB d c = true) (h : n < 1) : Calls Try.prog 35 #[.int .i64 d, .int .i64 c, .int .i64 n] w (TnNo w) := by
  have HBE := Lib.hid (fun o => (Below.refl w.heap.size w).alloc (Nat.le_refl _) o)
  go_enter Try.func35, Try.ntmps35
  go_wp2_with fail
  refine (tally_b _ _ _ _ h2 h).mono ?_
  rintro e w1 ⟨rfl, b1⟩
  obtain ⟨c1, f1⟩ := bcell b1
  have r1 := bstep (HBE.out _) b1
  have hz : w.heap.size < w1.heap.size := by have := b1.size; simp at this; omega
  go_wp2_with fail
  refine bodyPost_ret (v := .tuple #[.agg #[.int .i64 0, .int .i64 0, .string { data := #[] }, .string { data := #[] }], .bool false]) (by simp [results, Try.results35, go_sem, *]) rfl ?_
  exact ⟨rfl, (((r1.setCell (by simp) _).setCell (by simp) _).setCell (by simp) _).setCell (by simp) _⟩

set_option maxRecDepth 100000 in
theorem impl_TallyNew_c (d c : Int) (n : Int) (w : World) (h2 : twoB d c = true) (h1 : 1 ≤ n) (h : inB n 0 9999 = false) : Calls Try.prog 35 #[.int .i64 d, .int .i64 c, .int .i64 n] w (TnNo w) := by
  have HBE := Lib.hid (fun o => (Below.refl w.heap.size w).alloc (Nat.le_refl _) o)
  go_enter Try.func35, Try.ntmps35
  go_wp2_with fail
  refine (tally_c _ _ _ _ h2 h1 h).mono ?_
  rintro e w1 ⟨rfl, b1⟩
  obtain ⟨c1, f1⟩ := bcell b1
  have r1 := bstep (HBE.out _) b1
  have hz : w.heap.size < w1.heap.size := by have := b1.size; simp at this; omega
  go_wp2_with fail
  refine bodyPost_ret (v := .tuple #[.agg #[.int .i64 0, .int .i64 0, .string { data := #[] }, .string { data := #[] }], .bool false]) (by simp [results, Try.results35, go_sem, *]) rfl ?_
  exact ⟨rfl, (((r1.setCell (by simp) _).setCell (by simp) _).setCell (by simp) _).setCell (by simp) _⟩

set_option maxRecDepth 100000 in
theorem impl_TallyNew_y (d c : Int) (x : Nat) (w : World) (h2 : twoB d c = true) (h1 : 1 ≤ x) (h : x ≤ 9999) : Calls Try.prog 35 #[.int .i64 d, .int .i64 c, .int .i64 (x : Int)] w (TnYes d c x w) := by
  have HBE := Lib.hid (fun o => (Below.refl w.heap.size w).alloc (Nat.le_refl _) o)
  go_enter Try.func35, Try.ntmps35
  go_wp2_with fail
  refine (tally_y _ _ _ _ h2 h1 h).mono ?_
  rintro e w1 ⟨rfl, b1⟩
  obtain ⟨c1, f1⟩ := bcell b1
  have r1 := bstep (HBE.out _) b1
  have hz : w.heap.size < w1.heap.size := by have := b1.size; simp at this; omega
  go_wp2_with fail
  refine bodyPost_ret (v := .tuple #[.agg #[.int .i64 d, .int .i64 c, .string (str (notL x)), .string (str (notL x))], .bool true]) (by simp [results, Try.results35, go_sem, *]) rfl ?_
  exact ⟨rfl, (((r1.setCell (by simp) _).setCell (by simp) _).setCell (by simp) _).setCell (by simp) _⟩

end Go.Proofs.Ytfdabeikcpccgaa
