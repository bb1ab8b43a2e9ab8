/- Contracts of show, and of what the laws do with a frame that is handed back. -/
import Derived.Test.YtfdbhaojdccomaaDoorPush
namespace Go.Proofs.YtfdbhaojdccomaaDoor
open Go.RowKit

/-- A rod shows another digit. -/
def ShowPost (g o : Nat) (x y d : Int) (w : World) (e : Ending) (w' : World) : Prop :=
  e = .returned (.int .i64 (pu x y (d / 5) (d % 5))) ∧ ∃ w1, Below w.heap.size w w1 ∧ w' = (w1.setCell ⟨g, o, none⟩ (.int .i64 (d / 5))).setCell ⟨g, o + 1, none⟩ (.int .i64 (d % 5))

set_option maxRecDepth 100000 in
theorem beadShow (g o : Nat) (x y d : Int) (w : World) (ch : w.cell? ⟨g, o, none⟩ = some (.int .i64 x)) (cl : w.cell? ⟨g, o + 1, none⟩ = some (.int .i64 y)) (fh : w.frozen? ⟨g, o, none⟩ = false) (fl : w.frozen? ⟨g, o + 1, none⟩ = false) (d0 : 0 ≤ d) (d9 : d ≤ 9) :
    Calls Tryd.prog 29 #[.pointer (some ⟨g, o, none⟩), .int .i64 d] w (ShowPost g o x y d w) := by
  have hlt := World.block_lt_of_cell? w _ ch
  simp at hlt
  have ba : Below w.heap.size w (w.alloc (.cells #[.int .i64 (d / 5), .int .i64 (d % 5)] 51)) := (Below.refl _ _).alloc (Nat.le_refl _) _
  go_enter Tryd.func29, Tryd.ntmps29
  go_wp2_with fail
  refine (beadPushes g o x y _ _ _ (cell_later ch ba) (cell_later cl ba)).mono ?_
  rintro e w1 ⟨rfl, b1⟩
  have r1 := bstep ba b1
  have c0 := cell_later ch r1
  have c1 := cell_later cl r1
  have f0 := (r1.frozen (p := ⟨g, o, none⟩) hlt).trans fh
  have f1 := (r1.frozen (p := ⟨g, o + 1, none⟩) hlt).trans fl
  obtain ⟨y0, y1, z1⟩ := box2 b1
  have gl : g < w1.heap.size := by omega
  have HR := Lib.hid r1
  clear ch cl fh fl
  go_wp2_with fail
  go_ret
  exact ⟨rfl, w1, HR.out, rfl⟩

/-- A frame of the law's own is marked: only its two rows have changed. -/
structure Marked (A B : Option Addr) (c d base : Nat) (n m : Nat) (k : Int) (w w' : World) : Prop where
  fr : FrSl w' base A B c d (marks k n) (marks (k + n) m)
  blk_ : ∀ j, j < w.heap.size → blk A ≠ some j → blk B ≠ some j → w'.heap[j]? = w.heap[j]?
  bel : Below base w w'
def MarkFr (A B : Option Addr) (c d base : Nat) (n m : Nat) (k : Int) (w : World) (e : Ending) (w' : World) : Prop := e = .returned (.int .i64 (k + n + m)) ∧ Marked A B c d base n m k w w'

theorem ne_or {A B : Option Addr} (h : ∀ k, blk A = some k → blk B ≠ some k) : blk A = none ∨ blk A ≠ blk B := by
  rcases hA : blk A with _ | k
  · exact .inl rfl
  · exact .inr fun he => h k hA he.symm

end Go.Proofs.YtfdbhaojdccomaaDoor
