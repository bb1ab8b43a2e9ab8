/- A frame that a function builds by appends while it asks a reader. -/
import Derived.Test.YtfdbhaojdccomaaFrBox
import Derived.Test.YtfdbhaojdccomaaPickR
import Derived.Test.YtfdbhaojdccomaaApRun
namespace Go.Proofs.Ytfdbhaojdccomaa
open Go.RowKit

structure FrBx (W w : World) (g r : Nat) (A B : Option Addr) (c d : Nat) (hs ls : List Int) : Prop where
  box : w.heap[r]? = some (.cells #[.slice A hs.length c, .slice B ls.length d] 27 (0, 0))
  fr : FrSl w W.heap.size A B c d hs ls
  rb : W.heap.size ≤ r
  gr : W.grownBy w (some g)
  gl : g < W.heap.size

theorem grown_le {a b c : World} {g : Nat} {row : Option Nat} (h : a.grownBy b (some g)) (k : b.grownBy c row) (hr : ∀ j, row = some j → a.heap.size ≤ j) : a.grownBy c (some g) :=
  ⟨k.os.trans h.os, k.tape.trans h.tape, k.output.trans h.output, Nat.le_trans h.size k.size, fun i hi hne => (k.block i (Nat.lt_of_lt_of_le hi h.size) (fun e => by have := hr i e.symm; omega)).trans (h.block i hi hne)⟩

section
variable {W w w1 : World} {g r : Nat} {A B : Option Addr} {c d : Nat} {hs ls : List Int}
theorem FrBx.rlt (h : FrBx W w g r A B c d hs ls) : r < w.heap.size := (Array.getElem?_eq_some_iff.1 h.box).1
theorem FrBx.size (h : FrBx W w g r A B c d hs ls) : W.heap.size ≤ w.heap.size := h.gr.size
theorem FrBx.midH (h : FrBx W w g r A B c d hs ls) (k : w.grownBy w1 (blk A)) : w1.heap[r]? = some (.cells #[.slice A hs.length c, .slice B ls.length d] 27 (0, 0)) :=
  (k.block r h.rlt (fun e => h.fr.hi.ne_box h.box r e.symm rfl)).trans h.box
theorem FrBx.midL (h : FrBx W w g r A B c d hs ls) (k : w.grownBy w1 (blk B)) : w1.heap[r]? = some (.cells #[.slice A hs.length c, .slice B ls.length d] 27 (0, 0)) :=
  (k.block r h.rlt (fun e => h.fr.lo.ne_box h.box r e.symm rfl)).trans h.box
/-- Beside a pick, or new memory. -/
theorem FrBx.pick (h : FrBx W w g r A B c d hs ls) (k : w.grownBy w1 (some g)) : FrBx W w1 g r A B c d hs ls := by
  have hrl := h.rlt
  have hg := h.gl
  have ne : ∀ {X : Option Addr} {xc : Nat} {xs : List Int}, Sl w W.heap.size X xc xs → blk X = none ∨ blk X ≠ some g := by
    intro X xc xs hX
    rcases hx : blk X with _ | j
    · exact .inl rfl
    · refine .inr fun e => ?_
      have := (hX.lt j hx).1
      injection e with e
      omega
  exact ⟨(k.block r hrl (by have := h.rb; simp; omega)).trans h.box, ⟨h.fr.hi.grown k (ne h.fr.hi), h.fr.lo.grown k (ne h.fr.lo), h.fr.ne⟩, h.rb, grownBy_trans h.gr k, hg⟩
theorem FrBx.below (h : FrBx W w g r A B c d hs ls) (k : Below w.heap.size w w1) : FrBx W w1 g r A B c d hs ls := h.pick (grownBy_of_below k _)

theorem FrBx.stepH {A1 : Option Addr} {c1 : Nat} {zs : List Int} (h : FrBx W w g r A B c d hs ls) (s1 : Sl w1 W.heap.size A1 c1 zs) (k : w.grownBy w1 (blk A)) (t : blk A1 = blk A ∨ ∃ g, blk A1 = some g ∧ w.heap.size ≤ g) :
    FrBx W (w1.setCell ⟨r, 0, none⟩ (.slice A1 zs.length c1)) g r A1 B c1 d zs ls := by
  have hm := h.midH k
  have lo1 : Sl w1 W.heap.size B d ls := h.fr.lo.grown k (by
    rcases hB : blk B with _ | j
    · exact .inl rfl
    · exact .inr fun he => h.fr.ne j he.symm hB)
  refine ⟨(heap_setCell_same w1 r 0 _ _ _ hm).trans (by simp), ⟨s1.farN (s1.ne_box hm), lo1.farN (lo1.ne_box hm), fun j hk he => ?_⟩, h.rb, grown_le (grown_le h.gr k (fun j hj => (h.fr.hi.lt j hj).1)) (grownBy_set w1 r 0 _) (fun j hj => by have := h.rb; injection hj; omega), h.gl⟩
  rcases t with t | ⟨g', t, hg⟩
  · exact h.fr.ne j (t ▸ hk) he
  · have := (h.fr.lo.lt j he).2
    rw [t] at hk
    injection hk with hk
    omega
theorem FrBx.stepL {B1 : Option Addr} {d1 : Nat} {zs : List Int} (h : FrBx W w g r A B c d hs ls) (s1 : Sl w1 W.heap.size B1 d1 zs) (k : w.grownBy w1 (blk B)) (t : blk B1 = blk B ∨ ∃ g, blk B1 = some g ∧ w.heap.size ≤ g) :
    FrBx W (w1.setCell ⟨r, 1, none⟩ (.slice B1 zs.length d1)) g r A B1 c d1 hs zs := by
  have hm := h.midL k
  have hi1 : Sl w1 W.heap.size A c hs := h.fr.hi.grown k (by
    rcases hA : blk A with _ | j
    · exact .inl rfl
    · exact .inr fun he => h.fr.ne j hA he.symm)
  refine ⟨(heap_setCell_same w1 r 1 _ _ _ hm).trans (by simp), ⟨hi1.farN (hi1.ne_box hm), s1.farN (s1.ne_box hm), fun j hk he => ?_⟩, h.rb, grown_le (grown_le h.gr k (fun j hj => (h.fr.lo.lt j hj).1)) (grownBy_set w1 r 1 _) (fun j hj => by have := h.rb; injection hj; omega), h.gl⟩
  rcases t with t | ⟨g', t, hg⟩
  · exact h.fr.ne j hk (t ▸ he)
  · have := (h.fr.hi.lt j hk).2
    rw [t] at he
    injection he with he
    omega
/-- One number of the frame is changed. -/
theorem FrBx.setH {b : Nat} (h : FrBx W w g r (some ⟨b, 0, none⟩) B c d hs ls) (j : Nat) (z : Int) : FrBx W (w.setCell ⟨b, j, none⟩ (.int .i64 z)) g r (some ⟨b, 0, none⟩) B c d (hs.set j z) ls := by
  have hb := (h.fr.hi.lt b rfl).1
  refine ⟨?_, ⟨h.fr.hi.set_ j z, h.fr.lo.farN (fun k hk e => h.fr.ne k (by rw [e]; rfl) hk), h.fr.ne⟩, h.rb, grown_le h.gr (grownBy_set w b j _) (fun k hk => by injection hk; omega), h.gl⟩
  rw [Below.heap_setCell _ _ _ _ (by have := h.fr.hi.ne_box h.box b rfl; simp; omega), List.length_set]
  exact h.box
theorem FrBx.setL {b : Nat} (h : FrBx W w g r A (some ⟨b, 0, none⟩) c d hs ls) (j : Nat) (z : Int) : FrBx W (w.setCell ⟨b, j, none⟩ (.int .i64 z)) g r A (some ⟨b, 0, none⟩) c d hs (ls.set j z) := by
  have hb := (h.fr.lo.lt b rfl).1
  refine ⟨?_, ⟨h.fr.hi.farN (fun k hk e => h.fr.ne k hk (by rw [e]; rfl)), h.fr.lo.set_ j z, h.fr.ne⟩, h.rb, grown_le h.gr (grownBy_set w b j _) (fun k hk => by injection hk; omega), h.gl⟩
  rw [Below.heap_setCell _ _ _ _ (by have := h.fr.lo.ne_box h.box b rfl; simp; omega), List.length_set]
  exact h.box
theorem FrBx.new (W : World) (g : Nat) (hg : g < W.heap.size) :
    FrBx W (((W.alloc (.cells #[] 3)).alloc (.cells #[] 3)).alloc (.cells #[.slice (some ⟨W.heap.size, 0, none⟩) 0 0, .slice (some ⟨W.heap.size + 1, 0, none⟩) 0 0] 27)) g (W.heap.size + 2) (some ⟨W.heap.size, 0, none⟩) (some ⟨W.heap.size + 1, 0, none⟩) 0 0 [] [] := by
  have h := FrBox.new W W (Below.refl _ _)
  exact ⟨h.box, h.fr, h.rb, grownBy_of_below h.bel _, hg⟩
theorem Rdy.far {w w' : World} {g m : Nat} {k : Nat} (h : Rdy w g m) (hg : w.grownBy w' (some k)) (hk : ∀ A c zs p, Rdr w g A c zs p → zs ≠ [] → ∀ b off, A = some ⟨b, off, none⟩ → b ≠ k) (hgk : g ≠ k) : Rdy w' g m :=
  h.grown hg (fun j hj => by injection hj with hj; subst hj; exact ⟨hgk, hk⟩)
end
end Go.Proofs.Ytfdbhaojdccomaa
