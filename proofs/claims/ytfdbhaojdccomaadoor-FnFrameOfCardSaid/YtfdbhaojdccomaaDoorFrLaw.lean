/- Words for the laws on frames: boxes, and the last comparison, whose order is drawn. -/
import Derived.Test.YtfdbhaojdccomaaDoorRodN
import Derived.Test.YtfdbhaojdccomaaDoorReg
namespace Go.Proofs.YtfdbhaojdccomaaDoor
open Go.RowKit

theorem FrCame.ml {w : World} {A B : Option Addr} {c d : Nat} {hs ls : List Int} (h : FrCame w A B c d hs ls) : hs.length ≤ 9223372036854775807 ∧ ls.length ≤ 9223372036854775807 := ⟨h.hi.ml, h.lo.ml⟩
theorem FrCame.rd {w : World} {A B : Option Addr} {c d : Nat} {hs ls : List Int} (h : FrCame w A B c d hs ls) : FrRd w A B hs ls := ⟨h.hi.2.2.1, h.lo.2.2.1⟩

theorem box2 {w w1 : World} {x y : Value} {t : TypeId} (q : Below (w.alloc (.cells #[x, y] t)).heap.size (w.alloc (.cells #[x, y] t)) w1) : w1.cell? ⟨w.heap.size, 0, none⟩ = some x ∧ w1.cell? ⟨w.heap.size, 1, none⟩ = some y ∧ w.heap.size < w1.heap.size := by
  refine ⟨(q.cell (p := ⟨w.heap.size, 0, none⟩) (by simp)).trans (by simp), (q.cell (p := ⟨w.heap.size, 1, none⟩) (by simp)).trans (by simp), ?_⟩
  have := q.size
  simp at this; omega
theorem cell_later {w w1 : World} {p : Addr} {v : Value} (h : w.cell? p = some v) (hb : Below w.heap.size w w1) : w1.cell? p = some v := (hb.cell (World.block_lt_of_cell? w _ h)).trans h

theorem spec_FrameValid_b (A B : Option Addr) (c d : Nat) (hs ls : List Int) (w : World) (hr : FrRd w A B hs ls) (hh : hs.length ≤ 4194304) (hl : ls.length ≤ 4194304) :
    Calls Tryd.prog 17 #[.agg #[.slice A hs.length c, .slice B ls.length d]] w fun e w' => e = .returned (.bool (frB hs ls)) ∧ Below w.heap.size w w' :=
  (spec_FrameValid A B c d hs ls w hr hh hl).mono fun _ _ ⟨h, h'⟩ => ⟨h, by rw [h']; exact (Below.refl _ _).alloc (Nat.le_refl _) _⟩

/-- What the operations of the last comparison give. -/
def eqT (X Y : Value) (hs ls : List Int) : Nat → World → Value → Prop
  | 0, _, v => v = X
  | 1, _, v => v = Y
  | 2, w, v => ∃ A B c d, v = .agg #[.slice A hs.length c, .slice B ls.length d] ∧ FrRd w A B hs ls
  | 3, _, v => v = .bool true
  | _, _, v => v = .bool false
theorem eqT_keep {X Y : Value} {hs ls : List Int} (i : Nat) (w1 w2 : World) (v : Value) (hR : Below w1.heap.size w1 w2) (h : eqT X Y hs ls i w1 v) : eqT X Y hs ls i w2 v := by
  match i, h with
  | 0, h => exact h
  | 1, h => exact h
  | 2, ⟨A, B, c, d, h, h'⟩ => exact ⟨A, B, c, d, h, h'.below hR⟩
  | 3, h => exact h
  | _ + 4, h => exact h

end Go.Proofs.YtfdbhaojdccomaaDoor
