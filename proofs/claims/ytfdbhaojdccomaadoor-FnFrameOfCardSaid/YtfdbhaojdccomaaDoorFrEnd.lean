/- Words for the laws that mark what is handed back. -/
import Derived.Test.YtfdbhaojdccomaaDoorFrame
namespace Go.Proofs.YtfdbhaojdccomaaDoor
open Go.RowKit

section
variable {A B A' B' : Option Addr} {c d c' d' base b1 n m : Nat} {k : Int} {w w' w0 : World} {hs ls : List Int}
/-- Memory below the marked frame's base is as it was. -/
theorem Marked.cell_ (M : Marked A B c d base n m k w w') {p : Addr} {v : Value} (h : w.cell? p = some v) (hp : p.block < base) : w'.cell? p = some v := (M.bel.cell hp).trans h
theorem Marked.box_ (M : Marked A B c d base n m k w w') {p : Addr} {v : Value} (h : w.cell? p = some v) (hf : FrSl w0 base A B c d hs ls) (hp : w0.heap.size ≤ p.block) : w'.cell? p = some v := by
  have e := M.blk_ p.block (World.block_lt_of_cell? w _ h) (fun he => by have := (hf.hi.lt _ he).2; omega) (fun he => by have := (hf.lo.lt _ he).2; omega)
  unfold World.cell? at *
  rw [e]; exact h
theorem Rd.belowB {k : IntKind} {zs : List Int} (h : Rd k w A zs) (hb : Below b1 w w') (hA : ∀ j, blk A = some j → j < b1) : Rd k w' A zs := fun hn => by
  obtain ⟨b, off, rfl, hc⟩ := h hn
  exact ⟨b, off, rfl, fun j hj => (hb.cell (hA b rfl)).trans (hc j hj)⟩
theorem FrRd.belowB (h : FrRd w A B hs ls) (hb : Below b1 w w') (hA : ∀ j, blk A = some j → j < b1) (hB : ∀ j, blk B = some j → j < b1) : FrRd w' A B hs ls := ⟨h.hi.belowB hb hA, h.lo.belowB hb hB⟩
theorem FrSl.ltA (h : FrSl w base A B c d hs ls) : ∀ j, blk A = some j → j < w.heap.size := fun j hj => (h.hi.lt j hj).2
theorem FrSl.ltB (h : FrSl w base A B c d hs ls) : ∀ j, blk B = some j → j < w.heap.size := fun j hj => (h.lo.lt j hj).2
theorem below_alloc (w : World) (o : Obj) : Below w.heap.size w (w.alloc o) := (Below.refl _ _).alloc (Nat.le_refl _) _

/-- A box of two values. -/
def Bx (w : World) (r : Nat) (t : TypeId) (x y : Value) : Prop := w.heap[r]? = some (.cells #[x, y] t (0, 0))
theorem Bx.lt {r : Nat} {t : TypeId} {x y : Value} (h : Bx w r t x y) : r < w.heap.size := (Array.getElem?_eq_some_iff.1 h).1
theorem Bx.below {r : Nat} {t : TypeId} {x y : Value} (h : Bx w r t x y) (hb : Below w.heap.size w w') : Bx w' r t x y := (hb.block r h.lt).trans h
theorem Bx.new (w : World) (t : TypeId) (x y : Value) : Bx (w.alloc (.cells #[x, y] t)) w.heap.size t x y := heap_alloc_new _ _
theorem Bx.after {t : TypeId} {x y : Value} (hb : Below (w.alloc (.cells #[x, y] t)).heap.size (w.alloc (.cells #[x, y] t)) w') : Bx w' w.heap.size t x y := (Bx.new w t x y).below hb
theorem Bx.facts {r : Nat} {t : TypeId} {x y : Value} (h : Bx w r t x y) : w.cell? ⟨r, 0, none⟩ = some x ∧ w.cell? ⟨r, 1, none⟩ = some y ∧ r < w.heap.size := ⟨by simp [World.cell?, show w.heap[r]? = _ from h], by simp [World.cell?, show w.heap[r]? = _ from h], h.lt⟩
theorem Marked.bx_lo {r : Nat} {t : TypeId} {x y : Value} (M : Marked A B c d base n m k w w') (h : Bx w r t x y) (hr : r < base) : Bx w' r t x y := (M.bel.block r hr).trans h
theorem Marked.bx_hi {r : Nat} {t : TypeId} {x y : Value} (M : Marked A B c d base n m k w w') (h : Bx w r t x y) (hf : FrSl w0 base A B c d hs ls) (hr : w0.heap.size ≤ r) : Bx w' r t x y :=
  (M.blk_ r h.lt (fun he => by have := (hf.hi.lt _ he).2; omega) (fun he => by have := (hf.lo.lt _ he).2; omega)).trans h
theorem Sl.same {zs : List Int} (h : Sl w base A c zs) (hk : ∀ g, blk A = some g → w'.heap[g]? = w.heap[g]?) : Sl w' base A c zs := by
  refine ⟨h.1, ?_⟩
  rcases h.2 with h' | ⟨g, cap, cur, hv, hb, hg, r⟩
  · exact .inl h'
  · have hA : blk A = some g := by
      injection hv with h1
      rw [h1]; rfl
    exact .inr ⟨g, cap, cur, hv, hb, (hk g hA).trans hg, r⟩
theorem Marked.fr_hi {hs' ls' : List Int} {b2 : Nat} (M : Marked A B c d base n m k w w') (h : FrSl w b2 A' B' c' d' hs' ls') (hf : FrSl w0 base A B c d hs ls) (hr : w0.heap.size ≤ b2) : FrSl w' b2 A' B' c' d' hs' ls' := by
  have key : ∀ g, b2 ≤ g → g < w.heap.size → w'.heap[g]? = w.heap[g]? := fun g h1 h2 => M.blk_ g h2 (fun he => by have := (hf.hi.lt _ he).2; omega) (fun he => by have := (hf.lo.lt _ he).2; omega)
  exact ⟨h.hi.same fun g hg => key g (h.hi.lt g hg).1 (h.hi.lt g hg).2, h.lo.same fun g hg => key g (h.lo.lt g hg).1 (h.lo.lt g hg).2, h.ne⟩
theorem Came.lt {k : IntKind} {zs : List Int} (h : Came k w A c zs) (hn : zs ≠ []) : ∀ j, blk A = some j → j < w.heap.size := by
  intro j hj
  obtain ⟨b, off, rfl, hb, _⟩ := h.2.2.1.at (i := 0) (List.length_pos_iff.2 hn)
  simp [blk] at hj
  omega
theorem Rd.belowN {k : IntKind} {zs : List Int} (h : Rd k w A zs) (hb : Below b1 w w') (hA : ∀ b off, zs ≠ [] → A = some ⟨b, off, none⟩ → b < b1) : Rd k w' A zs := fun hn => by
  obtain ⟨b, off, rfl, hc⟩ := h hn
  exact ⟨b, off, rfl, fun j hj => (hb.cell (hA b off hn rfl)).trans (hc j hj)⟩
/-- What came in lies below all that the law makes. -/
theorem FrRd.came (h : FrRd w0 A B hs ls) (hb : Below w0.heap.size w0 w) (hb' : Below b1 w w') (hl : w0.heap.size ≤ b1) : FrRd w' A B hs ls := by
  have key : ∀ {X : Option Addr} {zs : List Int}, Rd .i64 w0 X zs → Rd .i64 w' X zs := fun {X zs} hX => (hX.below hb).belowN hb' (fun b off hn hX' => by
    obtain ⟨b2, off2, e, hc, _⟩ := hX.at (i := 0) (List.length_pos_iff.2 hn)
    rw [hX'] at e
    injection e with e
    injection e with e
    omega)
  exact ⟨key h.hi, key h.lo⟩
end
end Go.Proofs.YtfdbhaojdccomaaDoor
