/- Contracts of show, and of what the laws do with a frame that is handed back. -/
import Derived.Test.YtfdbhaojdccomaaPush
namespace Go.Proofs.Ytfdbhaojdccomaa
open Go.RowKit

/-- A rod shows another digit. -/
def ShowPost (g o : Nat) (x y d : Int) (w : World) (e : Ending) (w' : World) : Prop :=
  e = .returned (.int .i64 (pu x y (d / 5) (d % 5))) ∧ ∃ w1, Below w.heap.size w w1 ∧ w' = (w1.setCell ⟨g, o, none⟩ (.int .i64 (d / 5))).setCell ⟨g, o + 1, none⟩ (.int .i64 (d % 5))

set_option maxRecDepth 100000 in
theorem beadShow (g o : Nat) (x y d : Int) (w : World) (ch : w.cell? ⟨g, o, none⟩ = some (.int .i64 x)) (cl : w.cell? ⟨g, o + 1, none⟩ = some (.int .i64 y)) (fh : w.frozen? ⟨g, o, none⟩ = false) (fl : w.frozen? ⟨g, o + 1, none⟩ = false) (d0 : 0 ≤ d) (d9 : d ≤ 9) :
    Calls Try.prog 45 #[.pointer (some ⟨g, o, none⟩), .int .i64 d] w (ShowPost g o x y d w) := by
  have hlt := World.block_lt_of_cell? w _ ch
  simp at hlt
  have ba : Below w.heap.size w (w.alloc (.cells #[.int .i64 (d / 5), .int .i64 (d % 5)] 56)) := (Below.refl _ _).alloc (Nat.le_refl _) _
  go_enter Try.func45, Try.ntmps45
  go_wp2_with fail
  refine (beadPushes g o x y _ _ _ (cell_later ch ba) (cell_later cl ba)).mono ?_
  rintro e w1 ⟨rfl, b1⟩
  have r1 := bstep ba b1
  have c0 := cell_later ch r1
  have c1 := cell_later cl r1
  have f0 := (r1.frozen (p := ⟨g, o, none⟩) hlt).trans fh
  have f1 := (r1.frozen (p := ⟨g, o + 1, none⟩) hlt).trans fl
  obtain ⟨y0, y1, z1⟩ := box2 b1
  have gl : g < w1.heap.size := by omega
  have HR := Lib.hid r1
  clear ch cl fh fl
  go_wp2_with fail
  go_ret
  exact ⟨rfl, w1, HR.out, rfl⟩

/-- A frame of the law's own is marked: only its two rows have changed. -/
structure Marked (A B : Option Addr) (c d base : Nat) (n m : Nat) (k : Int) (w w' : World) : Prop where
  fr : FrSl w' base A B c d (marks k n) (marks (k + n) m)
  blk_ : ∀ j, j < w.heap.size → blk A ≠ some j → blk B ≠ some j → w'.heap[j]? = w.heap[j]?
  bel : Below base w w'
def MarkFr (A B : Option Addr) (c d base : Nat) (n m : Nat) (k : Int) (w : World) (e : Ending) (w' : World) : Prop := e = .returned (.int .i64 (k + n + m)) ∧ Marked A B c d base n m k w w'

theorem ne_or {A B : Option Addr} (h : ∀ k, blk A = some k → blk B ≠ some k) : blk A = none ∨ blk A ≠ blk B := by
  rcases hA : blk A with _ | k
  · exact .inl rfl
  · exact .inr fun he => h k hA he.symm

theorem markFrame (A B : Option Addr) (c d base : Nat) (hs ls : List Int) (k : Int) (w : World) (h : FrSl w base A B c d hs ls) (hbase : base ≤ w.heap.size) (hh : hs.length ≤ 4194304) (hl : ls.length ≤ 4194304) (hk0 : 0 ≤ k) (hk1 : k ≤ 1000) :
    Calls Try.prog 24 #[.agg #[.slice A hs.length c, .slice B ls.length d], .int .i64 k] w (MarkFr A B c d base hs.length ls.length k w) := by
  go_enter Try.func24, Try.ntmps24
  go_wp2_with fail
  refine (markIntS _ _ base _ _ _ (h.hi.alloc _) hh hk0 (by omega)).mono ?_
  rintro e w1 ⟨rfl, s1, g1⟩
  have hnA : some w.heap.size ≠ blk A := fun he => by have := h.hi.lt _ he.symm; omega
  have hnB : some w.heap.size ≠ blk B := fun he => by have := h.lo.lt _ he.symm; omega
  have c1 := g1.cell (a := ⟨w.heap.size, 1, none⟩) (v := .slice B ls.length d) (by simp) hnA
  have z1 : w.heap.size < w1.heap.size := by have := g1.size; simp at this; omega
  have t1 : Sl w1 base B d ls := (h.lo.alloc _).grown g1 (ne_or (fun k hk he => h.ne k he hk))
  go_wp2_with fail
  refine (markIntS _ _ base _ _ _ t1 hl (by omega) (by omega)).mono ?_
  rintro e w2 ⟨rfl, s2, g2⟩
  clear c1
  go_wp2_with fail
  go_ret
  refine ⟨rfl, ⟨s1.grown g2 (ne_or h.ne), s2, h.ne⟩, fun j hj hA hB => ?_, ?_⟩
  · rw [g2.block j (by omega) (fun he => hB he.symm), g1.block j (by simp; omega) (fun he => hA he.symm), Below.heap_alloc _ _ _ hj]
  · exact (((Below.refl base w).alloc hbase _).grown g1 (by simp; omega) (fun k hk => (h.hi.lt k hk).1)).grown g2 (by omega) (fun k hk => (h.lo.lt k hk).1)

theorem heldFrame (A B : Option Addr) (c d n m : Nat) (k : Int) (w : World) (h : FrRd w A B (marks k n) (marks (k + n) m)) (hh : n ≤ 4194304) (hl : m ≤ 4194304) (hk0 : 0 ≤ k) (hk1 : k ≤ 1000) :
    Calls Try.prog 25 #[.agg #[.slice A n c, .slice B m d], .int .i64 k] w fun e w' => e = .returned (.int .i64 (k + n + m)) ∧ Below w.heap.size w w' := by
  have ba : Below w.heap.size w (w.alloc (.cells #[.slice A n c, .slice B m d] 27)) := (Below.refl _ _).alloc (Nat.le_refl _) _
  go_enter Try.func25, Try.ntmps25
  go_wp2_with fail
  refine (heldIntS _ _ _ _ _ (h.hi.alloc _) hh hk0 (by omega)).mono ?_
  rintro e w' ⟨rfl, rfl⟩
  go_wp2_with fail
  refine (heldIntS _ _ _ _ _ (h.lo.alloc _) hl (by omega) (by omega)).mono ?_
  rintro e w' ⟨rfl, rfl⟩
  go_wp2_with fail
  go_ret
  exact ⟨rfl, ba⟩
end Go.Proofs.Ytfdbhaojdccomaa
