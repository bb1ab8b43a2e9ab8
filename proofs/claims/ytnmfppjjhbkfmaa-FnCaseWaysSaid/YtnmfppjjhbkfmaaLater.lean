/- A region that draws its order, whose operations only read old memory and whose callees may make memory: one walk in the text's order serves. -/
import Derived.Test.YtnmfppjjhbkfmaaOwn
namespace Go.Proofs.Ytnmfppjjhbkfmaa
open Go.RowKit

/-- A world in which the old memory of w is as it was. -/
structure Later (w : World) where
  val : World
  bel : Below w.heap.size w val

theorem wp_region_later {id : Nat} {Q : Exit → Act → World → Prop} {a : Act} {w : World} {l : List Oper} (hm : Try.prog.follows .mixedOrders = true) (hB : Region.lexB .any l.toArray = true)
    (h : wpQuiet Try.prog l.toArray (fun w' => ∃ x : Later w, w' = x.val) (fun a' => ∀ w', (∃ x : Later w, w' = x.val) → Q .normal a' w') l a) : (Code.region id l.toArray true).wp Try.prog Q a w :=
  wp_region_quiet (C := fun w' => ∃ x : Later w, w' = x.val) hm hB ⟨⟨w.drew, (Below.refl _ _).drewN 1⟩, rfl⟩ (by simpa using h)

instance later_some (w : World) : Nonempty (Later w) := ⟨⟨w, Below.refl _ _⟩⟩
theorem later_refl (w : World) : ∀ x : Later w, ∃ y : Later w, x.val = y.val := fun x => ⟨x, rfl⟩
/-- A callee that makes memory, met in a later world. -/
theorem later_call {f : FuncId} {args : Array Value} {w : World} {x : Later w} {v : Value} (h : Calls Try.prog f args x.val fun e w' => e = .returned v ∧ Below x.val.heap.size x.val w') :
    Calls Try.prog f args x.val fun e w' => e = .returned v ∧ ∃ y : Later w, w' = y.val :=
  h.mono fun _ _ ⟨he, hb⟩ => ⟨he, ⟨_, bstep x.bel hb⟩, rfl⟩
theorem later_same {f : FuncId} {args : Array Value} {w : World} {x : Later w} {v : Value} (h : Calls Try.prog f args x.val fun e w' => e = .returned v ∧ x.val = w') :
    Calls Try.prog f args x.val fun e w' => e = .returned v ∧ ∃ y : Later w, w' = y.val :=
  h.mono fun _ _ ⟨he, hb⟩ => ⟨he, x, hb.symm⟩
theorem later_cell {w : World} {p : Addr} {v : Value} (h : w.cell? p = some v) : ∀ x : Later w, x.val.cell? p = some v := fun x => by
  rw [x.bel.cell (World.block_lt_of_cell? w _ h)]; exact h
end Go.Proofs.Ytnmfppjjhbkfmaa
