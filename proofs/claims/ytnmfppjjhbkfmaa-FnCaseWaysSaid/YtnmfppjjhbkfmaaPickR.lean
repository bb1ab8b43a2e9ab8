/- Picks in regions that draw their order: laws of the operations that a draw is made of. -/
import Derived.Test.YtnmfppjjhbkfmaaPick
import Derived.Test.YtnmfppjjhbkfmaaReg
import Derived.Deep.Light
namespace Go.Proofs.Ytnmfppjjhbkfmaa
open Go.RowKit

theorem grownBy_alloc (w : World) (o : Obj) (row : Option Nat) : w.grownBy (w.alloc o) row := grownBy_of_below ((Below.refl _ _).alloc (Nat.le_refl _) _) row
theorem grownBy_drew {a b : World} {row : Option Nat} (h : a.grownBy b row) : a.grownBy b.drew row := ⟨h.os, h.tape, h.output, h.size, h.block⟩

/-- The reader at g is ready, f operations ahead. -/
structure PickI (W : World) (g M f : Nat) (w : World) : Prop where
  gr : W.grownBy w (some g)
  rdy : ∃ m, m + f ≤ M ∧ Rdy w g m
section
variable {W w w' : World} {g M f : Nat}
theorem PickI.same (h : PickI W g M (f + 1) w) : PickI W g M f w := by
  obtain ⟨m, hm, hr⟩ := h.rdy
  exact ⟨h.gr, m, by omega, hr⟩
theorem PickI.alloc (h : PickI W g M (f + 1) w) (o : Obj) : PickI W g M f (w.alloc o) := by
  obtain ⟨m, hm, hr⟩ := h.rdy
  exact ⟨grownBy_trans h.gr (grownBy_alloc w o _), m, by omega, hr.alloc o⟩
theorem PickI.glt (h : PickI W g M f w) : g < w.heap.size := by
  obtain ⟨m, hm, hr⟩ := h.rdy
  exact hr.lt
theorem PickI.start {m : Nat} (hr : Rdy W g m) (hm : m + f ≤ M) : PickI W g M f W.drew := ⟨grownBy_drew (World.grownBy.refl _ _), m, hm, hr.drewN 1⟩
theorem PickI.fin (h : PickI W g M f w) : Rdy w g M := by
  obtain ⟨m, hm, A, c, zs, p, hr, hp⟩ := h.rdy
  exact ⟨A, c, zs, p, hr, by omega⟩
end

/-- A number of a kind. -/
def TInt (lo hi : Int) (_ : World) (v : Value) : Prop := ∃ k : Int, v = .int .i64 k ∧ lo ≤ k ∧ k ≤ hi
/-- The reader. -/
def TRdr (g : Nat) (_ : World) (v : Value) : Prop := v = .pointer (some ⟨g, 0, none⟩)
/-- A new table of numbers. -/
def TTab (g : Nat) (zs : List Int) (w : World) (v : Value) : Prop :=
  ∃ b, v = .slice (some ⟨b, 0, none⟩) zs.length zs.length ∧ b ≠ g ∧ b < w.heap.size ∧ ∀ j, j < zs.length → w.cell? ⟨b, j, none⟩ = some (.int .i64 (nth zs j))
/-- The address of a number of a kind. -/
def TAdr (g : Nat) (lo hi : Int) (w : World) (v : Value) : Prop :=
  ∃ (b j : Nat) (z : Int), v = .pointer (some ⟨b, j, none⟩) ∧ b ≠ g ∧ b < w.heap.size ∧ w.cell? ⟨b, j, none⟩ = some (.int .i64 z) ∧ lo ≤ z ∧ z ≤ hi
section
variable {w1 w2 : World} {g : Nat} {v : Value}
theorem TTab.keep {zs : List Int} (h : TTab g zs w1 v) (hR : w1.grownBy w2 (some g)) : TTab g zs w2 v := by
  obtain ⟨b, h1, h2, h3, h4⟩ := h
  exact ⟨b, h1, h2, Nat.lt_of_lt_of_le h3 hR.size, fun j hj => hR.cell (h4 j hj) (by simp; omega)⟩
theorem TAdr.keep {lo hi : Int} (h : TAdr g lo hi w1 v) (hR : w1.grownBy w2 (some g)) : TAdr g lo hi w2 v := by
  obtain ⟨b, j, z, h1, h2, h3, h4, h5⟩ := h
  exact ⟨b, j, z, h1, h2, Nat.lt_of_lt_of_le h3 hR.size, hR.cell h4 (by simp; omega), h5⟩
theorem TTab.new {zs : List Int} (hg : g < w1.heap.size) (cs : Array Value) (hcs : cs = (zs.map (Value.int .i64)).toArray) : TTab g zs (w1.alloc (.cells cs 3)) (.slice (some ⟨w1.heap.size, 0, none⟩) zs.length zs.length) := by
  subst hcs
  refine ⟨_, rfl, by omega, by simp, fun j hj => ?_⟩
  rw [World.cell?_alloc_mark]
  simp [nth_lt hj]
end

theorem pick_law {W w : World} {g M f : Nat} (h : PickI W g M (f + 1) w) (hM : M ≤ 1048576) (n : Int) (h1 : 1 ≤ n) (h2 : n ≤ 1048576) :
    Calls Try.prog 19 #[.pointer (some ⟨g, 0, none⟩), .int .i64 n] w fun e w2 => ∃ v, e = .returned v ∧ w.grownBy w2 (some g) ∧ PickI W g M f w2 ∧ TInt 0 (n - 1) w2 v := by
  obtain ⟨m, hm, hr⟩ := h.rdy
  refine (pick1 g m n w hr (by omega) h1 h2).mono ?_
  rintro e w2 ⟨k, rfl, k0, k1, r2, g2⟩
  exact ⟨_, rfl, g2, ⟨grownBy_trans h.gr g2, m + 1, by omega, r2⟩, k, rfl, k0, by omega⟩
end Go.Proofs.Ytnmfppjjhbkfmaa
