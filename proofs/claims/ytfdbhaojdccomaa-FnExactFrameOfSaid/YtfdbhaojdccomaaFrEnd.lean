/- Words for the laws that mark what is handed back. -/
import Derived.Test.YtfdbhaojdccomaaFrame
namespace Go.Proofs.Ytfdbhaojdccomaa
open Go.RowKit

section
variable {A B A' B' : Option Addr} {c d c' d' base b1 n m : Nat} {k : Int} {w w' w0 : World} {hs ls : List Int}
/-- Memory below the marked frame's base is as it was. -/
theorem Marked.cell_ (M : Marked A B c d base n m k w w') {p : Addr} {v : Value} (h : w.cell? p = some v) (hp : p.block < base) : w'.cell? p = some v := (M.bel.cell hp).trans h
theorem Marked.box_ (M : Marked A B c d base n m k w w') {p : Addr} {v : Value} (h : w.cell? p = some v) (hf : FrSl w0 base A B c d hs ls) (hp : w0.heap.size ≤ p.block) : w'.cell? p = some v := by
  have e := M.blk_ p.block (World.block_lt_of_cell? w _ h) (fun he => by have := (hf.hi.lt _ he).2; omega) (fun he => by have := (hf.lo.lt _ he).2; omega)
  unfold World.cell? at *
  rw [e]; exact h
theorem Rd.belowB {k : IntKind} {zs : List Int} (h : Rd k w A zs) (hb : Below b1 w w') (hA : ∀ j, blk A = some j → j < b1) : Rd k w' A zs := fun hn => by
  obtain ⟨b, off, rfl, hc⟩ := h hn
  exact ⟨b, off, rfl, fun j hj => (hb.cell (hA b rfl)).trans (hc j hj)⟩
theorem FrRd.belowB (h : FrRd w A B hs ls) (hb : Below b1 w w') (hA : ∀ j, blk A = some j → j < b1) (hB : ∀ j, blk B = some j → j < b1) : FrRd w' A B hs ls := ⟨h.hi.belowB hb hA, h.lo.belowB hb hB⟩
theorem FrSl.ltA (h : FrSl w base A B c d hs ls) : ∀ j, blk A = some j → j < w.heap.size := fun j hj => (h.hi.lt j hj).2
theorem FrSl.ltB (h : FrSl w base A B c d hs ls) : ∀ j, blk B = some j → j < w.heap.size := fun j hj => (h.lo.lt j hj).2
theorem below_alloc (w : World) (o : Obj) : Below w.heap.size w (w.alloc o) := (Below.refl _ _).alloc (Nat.le_refl _) _
end
end Go.Proofs.Ytfdbhaojdccomaa
