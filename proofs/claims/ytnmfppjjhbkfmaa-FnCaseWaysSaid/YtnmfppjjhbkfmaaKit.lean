/- Small words for memory: a slice that reads as a list of integers; a slice of the call's own. -/
import Derived.Test.YtnmfppjjhbkfmaaRows
import Derived.WalkKit
import Derived.ProofKit
import Derived.OpenShut
import Derived.ShutString
import Derived.ChangeOld
import Derived.Below
import Derived.WalkSpells
import Derived.WalkLawsBesides
import Derived.Lib.Hide
import Derived.Outline
import Derived.Deep.QuietTactic
import Derived.BigQuiet
import Derived.Deep.Draws
import Derived.WalkSmall
namespace Go.Proofs.Ytnmfppjjhbkfmaa
open Go.ChangeShapes Go.WideShapes Go.ChangeAt Go.RowKit

theorem own : ownKnob Try.prog.godebug = none := by kernel_rfl
theorem laidOut : laidOutB Try.prog = true := by kernel_rfl

theorem ret_int {k : IntKind} {a b : Int} (h : a = b) : Ending.returned (.int k a) = .returned (.int k b) := by rw [h]
theorem ret_bool {a b : Bool} (h : a = b) : Ending.returned (.bool a) = .returned (.bool b) := by rw [h]

/-- The i-th number of a list, 0 past its end. -/
def nth (zs : List Int) (i : Nat) : Int := zs[i]?.getD 0

theorem nth_lt {zs : List Int} {i : Nat} (h : i < zs.length) : zs[i]? = some (nth zs i) := by
  rw [List.getElem?_eq_getElem h]; simp [nth, h]
theorem nth_get {zs : List Int} {i : Nat} (h : i < zs.length) : zs[i] = nth zs i := by simp [nth, h]
theorem nth_mem {zs : List Int} {i : Nat} (h : i < zs.length) : nth zs i ∈ zs := by rw [← nth_get h]; exact List.getElem_mem h
theorem take_nth {zs : List Int} {i : Nat} (h : i < zs.length) : zs.take (i + 1) = zs.take i ++ [nth zs i] := by
  rw [List.take_succ_eq_append_getElem h, nth_get h]
theorem nth_ext {xs ys : List Int} (hl : xs.length = ys.length) (h : ∀ i, i < xs.length → nth xs i = nth ys i) : xs = ys := by
  apply List.ext_getElem hl
  intro i h1 h2
  rw [nth_get h1, nth_get h2]; exact h i h1

/-- The slice with the address A (nil or not) reads as the numbers zs. -/
def Rd (k : IntKind) (w : World) (A : Option Addr) (zs : List Int) : Prop :=
  zs ≠ [] → ∃ b off, A = some ⟨b, off, none⟩ ∧ ∀ j, j < zs.length → w.cell? ⟨b, off + j, none⟩ = some (.int k (nth zs j))

section
variable {k : IntKind} {w w' : World} {A : Option Addr} {zs : List Int}
theorem Rd.at {i : Nat} (h : Rd k w A zs) (hi : i < zs.length) : ∃ b off, A = some ⟨b, off, none⟩ ∧ b < w.heap.size ∧ w.cell? ⟨b, off + i, none⟩ = some (.int k (nth zs i)) := by
  obtain ⟨b, off, hA, hc⟩ := h (by intro h0; subst h0; simp at hi)
  have := hc i hi
  exact ⟨b, off, hA, World.block_lt_of_cell? w _ this, this⟩
theorem Rd.nil_ : Rd k w A [] := fun h => absurd rfl h
theorem Rd.keep (h : Rd k w A zs) (hk : ∀ p : Addr, p.block < w.heap.size → w'.cell? p = w.cell? p) : Rd k w' A zs := fun hn => by
  obtain ⟨b, off, hA, hc⟩ := h hn
  refine ⟨b, off, hA, fun j hj => ?_⟩
  rw [hk _ (World.block_lt_of_cell? w _ (hc j hj))]; exact hc j hj
theorem Rd.below (h : Rd k w A zs) (hb : Below w.heap.size w w') : Rd k w' A zs := h.keep fun _ hp => hb.cell hp
theorem Rd.alloc (h : Rd k w A zs) (o : Obj) : Rd k (w.alloc o) A zs := h.keep fun p hp => World.cell?_alloc_lt w o p hp
theorem Rd.drew (h : Rd k w A zs) : Rd k w.drew A zs := h
theorem Rd.drewN (h : Rd k w A zs) (n : Nat) : Rd k (w.drewN n) A zs := h
end

theorem below_drewN {B : Nat} {a w : World} (h : Below B a w) (n : Nat) : Below B a (w.drewN n) := ⟨h.os, h.tape, h.output, h.size, h.block⟩

/-- What is known of a slice of integers that came in. -/
def Came (k : IntKind) (w : World) (A : Option Addr) (c : Nat) (zs : List Int) : Prop :=
  zs.length ≤ c ∧ c ≤ maxLen ∧ Rd k w A zs ∧ ∀ n ∈ zs, (Lit.int k n).wf = true

theorem row_open {H : Type} {enc : TypeId × Value → H} {P : Program} {w : World} {base : Nat} {spare : Nat → Bool} {held : Bool} {t e : TypeId} {k : IntKind} {A : Option Addr} {len cap : Nat} {d : DataW H} {p : List MemPlace}
    (ht : P.underlying t = some (.slice e)) (he : P.underlying e = some (.int k)) (hC : P.cellsOf e = 1)
    (h : DataW.Trod enc P w base spare held t (.slice A len cap) d p) : ∃ zs : List Int, len = zs.length ∧ Came k w A cap zs := by
  obtain ⟨fuel, hf⟩ := h
  rcases open_ints ht he hC hf with ⟨hcs, _⟩ | ⟨x, l, c, zs, hcs, _, hl, hm, hz, _, hcell, hwz⟩
  · simp [Value.cells] at hcs
    obtain ⟨rfl, rfl, rfl⟩ := hcs
    exact ⟨[], rfl, by simp, by simp [maxLen], Rd.nil_, by simp⟩
  · simp [Value.cells] at hcs
    obtain ⟨rfl, rfl, rfl⟩ := hcs
    have hlz : len ≤ zs.length := by rw [hz]; split <;> omega
    have hlen : (zs.take len).length = len := by simp; omega
    refine ⟨zs.take len, hlen.symm, by omega, hm, fun hn => ?_, fun n hn => hwz n (List.mem_of_mem_take hn)⟩
    have hpos : 0 < len := by
      rcases Nat.eq_zero_or_pos len with h0 | h0
      · subst h0; simp at hn
      · exact h0
    obtain ⟨b, off, spot⟩ := x
    have hspot : spot = none := by simpa [Addr.add] using World.cell?_spot (hcell 0 (by omega))
    subst hspot
    refine ⟨b, off, rfl, fun j hj => ?_⟩
    rw [hlen] at hj
    have hc := hcell j (by omega)
    have ha : (⟨b, off, none⟩ : Addr).add j = ⟨b, off + j, none⟩ := by
      unfold Addr.add; split <;> simp_all
    rw [ha] at hc
    rw [hc]
    simp [nth, hj]

theorem Came.u8 {w : World} {A : Option Addr} {c : Nat} {zs : List Int} (h : Came .u8 w A c zs) (i : Nat) : 0 ≤ nth zs i ∧ nth zs i ≤ 255 := by
  by_cases hi : i < zs.length
  · exact bounds_u8 (h.2.2.2 _ (nth_mem hi))
  · simp [nth, List.getElem?_eq_none (Nat.le_of_not_lt hi)]
theorem Came.i64 {w : World} {A : Option Addr} {c : Nat} {zs : List Int} (h : Came .i64 w A c zs) (i : Nat) : -9223372036854775808 ≤ nth zs i ∧ nth zs i ≤ 9223372036854775807 := by
  by_cases hi : i < zs.length
  · exact bounds_i64 (h.2.2.2 _ (nth_mem hi))
  · simp [nth, List.getElem?_eq_none (Nat.le_of_not_lt hi)]
end Go.Proofs.Ytnmfppjjhbkfmaa
