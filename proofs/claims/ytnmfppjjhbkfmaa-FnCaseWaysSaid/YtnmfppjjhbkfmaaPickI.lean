/- The reader beside memory of the call's own: its bytes lie below that memory. -/
import Derived.Test.YtnmfppjjhbkfmaaPickR
namespace Go.Proofs.Ytnmfppjjhbkfmaa
open Go.RowKit

/-- The reader at block g has been asked at most m times; it and its bytes lie below block B. -/
def RdyI (B : Nat) (w : World) (g m : Nat) : Prop := g < B ∧ ∃ A c zs p, Rdr w g A c zs p ∧ p ≤ m ∧ (zs ≠ [] → ∀ b off, A = some ⟨b, off, none⟩ → b < B)
theorem RdyI.rdy {B g m : Nat} {w : World} (h : RdyI B w g m) : Rdy w g m := by
  obtain ⟨_, A, c, zs, p, h1, h2, _⟩ := h
  exact ⟨A, c, zs, p, h1, h2⟩
theorem RdyI.more {B g m m' : Nat} {w : World} (h : RdyI B w g m) (hm : m ≤ m') : RdyI B w g m' := by
  obtain ⟨h0, A, c, zs, p, h1, h2, h3⟩ := h
  exact ⟨h0, A, c, zs, p, h1, by omega, h3⟩
theorem RdyI.of {g m : Nat} {w : World} (h : Rdy w g m) : RdyI w.heap.size w g m := by
  obtain ⟨A, c, zs, p, h1, h2⟩ := h
  refine ⟨h1.lt, A, c, zs, p, h1, h2, fun hn b off hA => ?_⟩
  obtain ⟨b', off', hA', hb, _⟩ := h1.rd.at (i := 0) (List.length_pos_iff.2 hn)
  rw [hA] at hA'
  injection hA' with e
  injection e with e
  omega
theorem RdyI.own {B g m : Nat} {w w' : World} {row : Option Nat} (h : RdyI B w g m) (k : w.grownBy w' row) (hr : ∀ j, row = some j → B ≤ j) : RdyI B w' g m := by
  obtain ⟨h0, A, c, zs, p, h1, h2, h3⟩ := h
  refine ⟨h0, A, c, zs, p, ⟨(k.block g h1.lt (fun e => by have := hr g e.symm; omega)).trans h1.blk, fun hn => ?_, h1.ne, h1.len, h1.u8⟩, h2, h3⟩
  obtain ⟨b, off, hA, hc⟩ := h1.rd hn
  have hb := h3 hn b off hA
  exact ⟨b, off, hA, fun j hj => k.cell (hc j hj) (fun e => by have := hr b e.symm; omega)⟩
theorem RdyI.below {B g m : Nat} {w w' : World} (h : RdyI B w g m) (k : Below w.heap.size w w') : RdyI B w' g m := h.own (row := none) (grownBy_of_below k none) (fun _ e => by cases e)
theorem RdyI.lt {B g m : Nat} {w : World} (h : RdyI B w g m) : g < w.heap.size := h.rdy.lt
theorem RdyI.up {B B' g m : Nat} {w : World} (h : RdyI B w g m) (hB : B ≤ B') : RdyI B' w g m := by
  obtain ⟨h0, A, c, zs, p, h1, h2, h3⟩ := h
  exact ⟨by omega, A, c, zs, p, h1, h2, fun hn b off hA => by have := h3 hn b off hA; omega⟩

theorem pick_post (g p : Nat) (A : Option Addr) (c : Nat) (zs : List Int) (n : Int) (w : World) (h : Rdr w g A c zs p) (hp : p ≤ 1048576) (hn : 1 ≤ n) (hn1 : n ≤ 1048576) :
    Calls Try.prog 19 #[.pointer (some ⟨g, 0, none⟩), .int .i64 n] w (PickPost w g n p) := by
  have hL := h.len
  by_cases hz : zs.length = 0
  · have c0 := h.c0
    rw [hz] at c0
    exact pick_none g c p A n w c0 h.c1 h.f1 h.lt (by omega) (by omega)
  by_cases hk : p < zs.length
  · obtain ⟨b, off, rfl, hb, hc⟩ := h.rd.at hk
    have ⟨d0, d1⟩ := bounds_u8 (h.u8 _ (nth_mem hk))
    exact pick_near g b off c zs.length p (nth zs p) n w h.c0 h.c1 h.f1 h.lt hb (h.ne (by intro h0; rw [h0] at hL hz; simp at hz) b off rfl) hc hL hk d0 d1 (by omega)
  · have hl : 0 < zs.length := by omega
    obtain ⟨b, off, rfl, hb, hc⟩ := h.rd.at (i := p % zs.length) (Nat.mod_lt _ hl)
    obtain ⟨b', off', heq, hb', hc'⟩ := h.rd.at (i := (p * 7 + 3) % zs.length) (Nat.mod_lt _ hl)
    injection heq with heq
    injection heq with heq1 heq2
    subst heq1 heq2
    have m1 := Nat.mod_lt p hl
    have m2 := Nat.mod_lt (p * 7 + 3) hl
    have ⟨d0, d1⟩ := bounds_u8 (h.u8 _ (nth_mem m1))
    have ⟨e0, e1⟩ := bounds_u8 (h.u8 _ (nth_mem m2))
    exact pick_far g b off c zs.length p (p % zs.length) ((p * 7 + 3) % zs.length) (p / zs.length) (nth zs (p % zs.length)) (nth zs ((p * 7 + 3) % zs.length)) n w h.c0 h.c1 h.f1 h.lt hb (h.ne (by intro h0; rw [h0] at hL hz; simp at hz) b off rfl) hc hc' m1 m2 hL (by omega) hk
      (Nat.div_le_self _ _) d0 d1 e0 e1 (tmod_nat _ _) (by rw [← tmod_nat]; simp) (tdiv_nat _ _) (by omega) hn1

/-- A number from 0 to n - 1 is picked. -/
theorem pickI (B g m : Nat) (n : Int) (w : World) (h : RdyI B w g m) (hm : m ≤ 1048576) (hn : 1 ≤ n) (hn1 : n ≤ 1048576) :
    Calls Try.prog 19 #[.pointer (some ⟨g, 0, none⟩), .int .i64 n] w fun e w' => ∃ k : Int, e = .returned (.int .i64 k) ∧ 0 ≤ k ∧ k < n ∧ RdyI B w' g (m + 1) ∧ w.grownBy w' (some g) := by
  obtain ⟨h0, A, c, zs, p, h1, h2, h3⟩ := h
  refine (pick_post g p A c zs n w h1 (by omega) hn hn1).mono ?_
  rintro e w' ⟨k, t, rfl, k0, k1, rfl⟩
  have hg := grownBy_setDrewN w g 1 (.int .i64 ((p : Int) + 1)) t
  refine ⟨k, rfl, k0, by omega, ⟨h0, A, c, zs, p + 1, ⟨?_, rd_keep h1.rd h1.ne hg, h1.ne, h1.len, h1.u8⟩, by omega, h3⟩, hg⟩
  show (w.setCell ⟨g, 1, none⟩ (.int .i64 ((p : Int) + 1))).heap[g]? = _
  rw [heap_setCell_same w g 1 _ _ _ h1.blk]
  simp
end Go.Proofs.Ytnmfppjjhbkfmaa
