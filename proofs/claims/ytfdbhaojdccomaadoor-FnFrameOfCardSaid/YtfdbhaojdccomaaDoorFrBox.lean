/- A frame that a function builds by appends, behind a pointer. -/
import Derived.Test.YtfdbhaojdccomaaDoorFrame
namespace Go.Proofs.YtfdbhaojdccomaaDoor
open Go.RowKit

structure FrBox (W w : World) (r : Nat) (A B : Option Addr) (c d : Nat) (hs ls : List Int) : Prop where
  box : w.heap[r]? = some (.cells #[.slice A hs.length c, .slice B ls.length d] 27 (0, 0))
  fr : FrSl w W.heap.size A B c d hs ls
  rb : W.heap.size ≤ r
  bel : Below W.heap.size W w

theorem Sl.ne_box {w : World} {base c r : Nat} {A : Option Addr} {zs : List Int} {cs : Array Value} (h : Sl w base A c zs) (hb : w.heap[r]? = some (.cells cs 27 (0, 0))) : ∀ k, blk A = some k → k ≠ r := by
  intro k hk
  rcases h.form with ⟨rfl, _⟩ | ⟨g, rfl, _⟩
  · cases hk
  · obtain ⟨cu, hg⟩ := h.heap_
    simp [blk] at hk
    subst hk
    exact ne_type hg hb (by decide)

section
variable {W w w1 : World} {r : Nat} {A B : Option Addr} {c d : Nat} {hs ls : List Int}
theorem FrBox.rlt (h : FrBox W w r A B c d hs ls) : r < w.heap.size := (Array.getElem?_eq_some_iff.1 h.box).1
theorem FrBox.c0 (h : FrBox W w r A B c d hs ls) : w.cell? ⟨r, 0, none⟩ = some (.slice A hs.length c) := by simp [World.cell?, h.box]
theorem FrBox.c1 (h : FrBox W w r A B c d hs ls) : w.cell? ⟨r, 1, none⟩ = some (.slice B ls.length d) := by simp [World.cell?, h.box]
theorem FrBox.f_ (h : FrBox W w r A B c d hs ls) (j : Nat) : w.frozen? ⟨r, j, none⟩ = false := by simp [World.frozen?, h.box]

theorem FrBox.midH (h : FrBox W w r A B c d hs ls) (g : w.grownBy w1 (blk A)) : w1.heap[r]? = some (.cells #[.slice A hs.length c, .slice B ls.length d] 27 (0, 0)) :=
  (g.block r h.rlt (fun e => h.fr.hi.ne_box h.box r e.symm rfl)).trans h.box
theorem FrBox.midL (h : FrBox W w r A B c d hs ls) (g : w.grownBy w1 (blk B)) : w1.heap[r]? = some (.cells #[.slice A hs.length c, .slice B ls.length d] 27 (0, 0)) :=
  (g.block r h.rlt (fun e => h.fr.lo.ne_box h.box r e.symm rfl)).trans h.box
theorem box_facts {w1 : World} {r : Nat} {x y : Value} {t : TypeId} (h : w1.heap[r]? = some (.cells #[x, y] t (0, 0))) : w1.cell? ⟨r, 0, none⟩ = some x ∧ w1.cell? ⟨r, 1, none⟩ = some y ∧ w1.frozen? ⟨r, 0, none⟩ = false ∧ w1.frozen? ⟨r, 1, none⟩ = false ∧ r < w1.heap.size := by
  refine ⟨?_, ?_, ?_, ?_, (Array.getElem?_eq_some_iff.1 h).1⟩
  · simp [World.cell?, h]
  · simp [World.cell?, h]
  · simp [World.frozen?, h]
  · simp [World.frozen?, h]
theorem Sl.farN {w : World} {base c g j : Nat} {A : Option Addr} {zs : List Int} {u : Value} (h : Sl w base A c zs) (hne : ∀ k, blk A = some k → k ≠ g) : Sl (w.setCell ⟨g, j, none⟩ u) base A c zs :=
  h.grown (grownBy_set w g j u) (by
    rcases hx : blk A with _ | k
    · exact .inl rfl
    · exact .inr fun he => hne k hx (by injection he))

theorem FrBox.stepH {A1 : Option Addr} {c1 : Nat} {zs : List Int} (h : FrBox W w r A B c d hs ls) (s1 : Sl w1 W.heap.size A1 c1 zs) (g : w.grownBy w1 (blk A)) (t : blk A1 = blk A ∨ ∃ g, blk A1 = some g ∧ w.heap.size ≤ g) :
    FrBox W (w1.setCell ⟨r, 0, none⟩ (.slice A1 zs.length c1)) r A1 B c1 d zs ls := by
  have hm := h.midH g
  have lo1 : Sl w1 W.heap.size B d ls := h.fr.lo.grown g (by
    rcases hB : blk B with _ | k
    · exact .inl rfl
    · exact .inr fun he => h.fr.ne k he.symm hB)
  refine ⟨(heap_setCell_same w1 r 0 _ _ _ hm).trans (by simp), ⟨s1.farN (s1.ne_box hm), lo1.farN (lo1.ne_box hm), fun k hk he => ?_⟩, h.rb, (h.bel.grown g h.bel.size (fun k hk => (h.fr.hi.lt k hk).1)).setCell h.rb _⟩
  rcases t with t | ⟨g', t, hg⟩
  · exact h.fr.ne k (t ▸ hk) he
  · have := (h.fr.lo.lt k he).2
    rw [t] at hk
    injection hk with hk
    omega
theorem FrBox.stepL {B1 : Option Addr} {d1 : Nat} {zs : List Int} (h : FrBox W w r A B c d hs ls) (s1 : Sl w1 W.heap.size B1 d1 zs) (g : w.grownBy w1 (blk B)) (t : blk B1 = blk B ∨ ∃ g, blk B1 = some g ∧ w.heap.size ≤ g) :
    FrBox W (w1.setCell ⟨r, 1, none⟩ (.slice B1 zs.length d1)) r A B1 c d1 hs zs := by
  have hm := h.midL g
  have hi1 : Sl w1 W.heap.size A c hs := h.fr.hi.grown g (by
    rcases hA : blk A with _ | k
    · exact .inl rfl
    · exact .inr fun he => h.fr.ne k hA he.symm)
  refine ⟨(heap_setCell_same w1 r 1 _ _ _ hm).trans (by simp), ⟨hi1.farN (hi1.ne_box hm), s1.farN (s1.ne_box hm), fun k hk he => ?_⟩, h.rb, (h.bel.grown g h.bel.size (fun k hk => (h.fr.lo.lt k hk).1)).setCell h.rb _⟩
  rcases t with t | ⟨g', t, hg⟩
  · exact h.fr.ne k hk (t ▸ he)
  · have := (h.fr.hi.lt k hk).2
    rw [t] at he
    injection he with he
    omega

/-- The empty frame that is about to be built. -/
theorem FrBox.new (W w : World) (hW : Below W.heap.size W w) :
    FrBox W (((w.alloc (.cells #[] 3)).alloc (.cells #[] 3)).alloc (.cells #[.slice (some ⟨w.heap.size, 0, none⟩) 0 0, .slice (some ⟨w.heap.size + 1, 0, none⟩) 0 0] 27)) (w.heap.size + 2) (some ⟨w.heap.size, 0, none⟩) (some ⟨w.heap.size + 1, 0, none⟩) 0 0 [] [] := by
  have hz := hW.size
  refine ⟨?_, ⟨?_, ?_, fun k hk he => ?_⟩, by omega, ((hW.alloc hz _).alloc (by simp; omega) _).alloc (by simp; omega) _⟩
  · have := heap_alloc_new ((w.alloc (.cells #[] 3)).alloc (.cells #[] 3)) (.cells #[.slice (some ⟨w.heap.size, 0, none⟩) 0 0, .slice (some ⟨w.heap.size + 1, 0, none⟩) 0 0] 27)
    simpa using this
  · exact ((Sl.lit w W.heap.size hz [] #[] rfl (by simp)).alloc _).alloc _
  · have := (Sl.lit (w.alloc (.cells #[] 3)) W.heap.size (by simp; omega) [] #[] rfl (by simp)).alloc (.cells #[.slice (some ⟨w.heap.size, 0, none⟩) 0 0, .slice (some ⟨w.heap.size + 1, 0, none⟩) 0 0] 27)
    simpa using this
  · simp [blk] at hk he; omega
end
end Go.Proofs.YtfdbhaojdccomaaDoor
