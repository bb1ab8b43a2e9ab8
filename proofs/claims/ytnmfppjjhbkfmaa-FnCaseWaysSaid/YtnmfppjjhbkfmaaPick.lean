/- The reader of codes: it is opened on bytes that came in, and picks numbers in range. -/
import Derived.Test.YtnmfppjjhbkfmaaIn
import Derived.Test.YtnmfppjjhbkfmaaOwn
import Derived.IntWalk
import Derived.Laws.IdiomStrings
namespace Go.Proofs.Ytnmfppjjhbkfmaa
open Go.RowKit

/-- The reader at block g: its bytes, and where it stands. -/
structure Rdr (w : World) (g : Nat) (A : Option Addr) (c : Nat) (zs : List Int) (p : Nat) : Prop where
  blk : w.heap[g]? = some (.cells #[.slice A zs.length c, .int .i64 (p : Int)] 50 (0, 0))
  rd : Rd .u8 w A zs
  ne : zs ≠ [] → ∀ b off, A = some ⟨b, off, none⟩ → b ≠ g
  len : zs.length ≤ 2000
  u8 : ∀ n ∈ zs, (Lit.int .u8 n).wf = true

theorem Rdr.c0 {w : World} {g c p : Nat} {A : Option Addr} {zs : List Int} (h : Rdr w g A c zs p) : w.cell? ⟨g, 0, none⟩ = some (.slice A zs.length c) := by simp [World.cell?, h.blk]
theorem Rdr.c1 {w : World} {g c p : Nat} {A : Option Addr} {zs : List Int} (h : Rdr w g A c zs p) : w.cell? ⟨g, 1, none⟩ = some (.int .i64 (p : Int)) := by simp [World.cell?, h.blk]
theorem Rdr.f1 {w : World} {g c p : Nat} {A : Option Addr} {zs : List Int} (h : Rdr w g A c zs p) : w.frozen? ⟨g, 1, none⟩ = false := by simp [World.frozen?, h.blk]
theorem Rdr.lt {w : World} {g c p : Nat} {A : Option Addr} {zs : List Int} (h : Rdr w g A c zs p) : g < w.heap.size := (Array.getElem?_eq_some_iff.1 h.blk).1

def PickPost (w : World) (g : Nat) (n : Int) (p : Nat) (e : Ending) (w' : World) : Prop :=
  ∃ (k : Int) (m : Nat), e = .returned (.int .i64 k) ∧ 0 ≤ k ∧ (k < n ∨ k = 0) ∧ w' = (w.setCell ⟨g, 1, none⟩ (.int .i64 ((p : Int) + 1))).drewN m

theorem tmod_nat (a b : Nat) : (a : Int).tmod (b : Int) = ((a % b : Nat) : Int) := rfl
theorem tdiv_nat (a b : Nat) : (a : Int).tdiv (b : Int) = ((a / b : Nat) : Int) := rfl
theorem xor_i64 (x y : Int) (hx : 0 ≤ x) (hx1 : x < 4611686018427387904) (hy : 0 ≤ y) (hy1 : y < 4611686018427387904) : 0 ≤ bits .xor .i64 x y := by
  obtain ⟨a, rfl⟩ := Int.eq_ofNat_of_zero_le hx
  obtain ⟨b, rfl⟩ := Int.eq_ofNat_of_zero_le hy
  have hxl : a ^^^ b < 2 ^ 62 := Nat.xor_lt_two_pow (by omega) (by omega)
  have h1 : (BitVec.ofInt 64 (a : Int)).toNat = a := by
    rw [BitVec.ofInt_natCast, BitVec.toNat_ofNat]; exact Nat.mod_eq_of_lt (by omega)
  have h2 : (BitVec.ofInt 64 (b : Int)).toNat = b := by
    rw [BitVec.ofInt_natCast, BitVec.toNat_ofNat]; exact Nat.mod_eq_of_lt (by omega)
  show 0 ≤ IntKind.i64.wrap ((BitVec.ofInt 64 (a : Int) ^^^ BitVec.ofInt 64 (b : Int)).toNat : Int)
  rw [BitVec.toNat_xor, h1, h2, IntWalk.i64_in _ (by omega)]
  omega

set_option maxRecDepth 100000 in
theorem pick_far (g b off c L p i1 i2 q : Nat) (z1 z2 n : Int) (w : World) (c0 : w.cell? ⟨g, 0, none⟩ = some (.slice (some ⟨b, off, none⟩) L c)) (c1 : w.cell? ⟨g, 1, none⟩ = some (.int .i64 (p : Int))) (f1 : w.frozen? ⟨g, 1, none⟩ = false)
    (_ : g < w.heap.size) (_ : b < w.heap.size) (hne : b ≠ g) (hc : w.cell? ⟨b, off + i1, none⟩ = some (.int .u8 z1)) (hc' : w.cell? ⟨b, off + i2, none⟩ = some (.int .u8 z2)) (h1 : i1 < L) (h2 : i2 < L)
    (hL : L ≤ 2000) (hp : p ≤ 1048576) (hpL : ¬ p < L) (hq : q ≤ p) (d0 : 0 ≤ z1) (d1 : z1 ≤ 255) (e0 : 0 ≤ z2) (e1 : z2 ≤ 255)
    (t1 : (p : Int).tmod (L : Int) = (i1 : Int)) (t2 : ((p : Int) * 7 + 3).tmod (L : Int) = (i2 : Int)) (t3 : (p : Int).tdiv (L : Int) = (q : Int)) (hn : 1 ≤ n) (hn1 : n ≤ 1048576) :
    Calls Try.prog 19 #[.pointer (some ⟨g, 0, none⟩), .int .i64 n] w (PickPost w g n p) := by
  have he : ((L : Int) == 0) = false := by rw [beq_eq_false_iff_ne]; omega
  have hz : ¬ (L : Int) = 0 := by omega
  have hz' : ¬ L = 0 := by omega
  have w1 : IntKind.i64.wrap (z1 * 131) = z1 * 131 := IntWalk.i64_in _ (by omega)
  have w2 : IntKind.i64.wrap ((p : Int) * 7) = (p : Int) * 7 := IntWalk.i64_in _ (by omega)
  have w3 : IntKind.i64.wrap ((p : Int) * 7 + 3) = (p : Int) * 7 + 3 := IntWalk.i64_in _ (by omega)
  have w4 : IntKind.i64.wrap (z2 * 1117) = z2 * 1117 := IntWalk.i64_in _ (by omega)
  have w5 : IntKind.i64.wrap (z1 * 131 + z2 * 1117) = z1 * 131 + z2 * 1117 := IntWalk.i64_in _ (by omega)
  have w6 : IntKind.i64.wrap ((p : Int) * 29) = (p : Int) * 29 := IntWalk.i64_in _ (by omega)
  have w7 : IntKind.i64.wrap (z1 * 131 + z2 * 1117 + (p : Int) * 29) = z1 * 131 + z2 * 1117 + (p : Int) * 29 := IntWalk.i64_in _ (by omega)
  have w8 : IntKind.i64.wrap ((q : Int) * 53) = (q : Int) * 53 := IntWalk.i64_in _ (by omega)
  have w9 : IntKind.i64.wrap (z1 * 131 + z2 * 1117 + (p : Int) * 29 + (q : Int) * 53) = z1 * 131 + z2 * 1117 + (p : Int) * 29 + (q : Int) * 53 := IntWalk.i64_in _ (by omega)
  have v0 : 0 ≤ (i1 : Int) := by omega
  have v1 : (i1 : Int) < L := by omega
  have v2 : 0 ≤ (i2 : Int) := by omega
  have v3 : (i2 : Int) < L := by omega
  go_enter Try.func19, Try.ntmps19
  go_wp2
  go_quiet (fail)
  clear w1 w2 w3 w4 w5 w6 w7 w8 w9 t1 t2 t3
  go_wp2
  go_ret
  have hx := xor_i64 (z1 * 131 + z2 * 1117 + (p : Int) * 29 + (q : Int) * 53) ((z1 * 131 + z2 * 1117 + (p : Int) * 29 + (q : Int) * 53) / 64) (by omega) (by omega) (by omega) (by omega)
  refine ⟨_, _, rfl, ?_, ?_, rfl⟩
  · rw [Int.tmod_eq_emod_of_nonneg hx]; exact Int.emod_nonneg _ (by omega)
  · rw [Int.tmod_eq_emod_of_nonneg hx]; exact .inl (Int.emod_lt_of_pos _ (by omega))

set_option maxRecDepth 100000 in
theorem pick_near (g b off c L p : Nat) (z1 n : Int) (w : World) (c0 : w.cell? ⟨g, 0, none⟩ = some (.slice (some ⟨b, off, none⟩) L c)) (c1 : w.cell? ⟨g, 1, none⟩ = some (.int .i64 (p : Int))) (f1 : w.frozen? ⟨g, 1, none⟩ = false)
    (_ : g < w.heap.size) (_ : b < w.heap.size) (hne : b ≠ g) (hc : w.cell? ⟨b, off + p, none⟩ = some (.int .u8 z1))
    (hL : L ≤ 2000) (hpL : p < L) (d0 : 0 ≤ z1) (d1 : z1 ≤ 255) (hn : 1 ≤ n) :
    Calls Try.prog 19 #[.pointer (some ⟨g, 0, none⟩), .int .i64 n] w (PickPost w g n p) := by
  have he : ((L : Int) == 0) = false := by rw [beq_eq_false_iff_ne]; omega
  go_enter Try.func19, Try.ntmps19
  go_wp2
  go_ret
  exact ⟨_, 0, rfl, Int.emod_nonneg _ (by omega), .inl (Int.emod_lt_of_pos _ (by omega)), rfl⟩

set_option maxRecDepth 100000 in
theorem pick_none (g c p : Nat) (A : Option Addr) (n : Int) (w : World) (c0 : w.cell? ⟨g, 0, none⟩ = some (.slice A 0 c)) (c1 : w.cell? ⟨g, 1, none⟩ = some (.int .i64 (p : Int))) (f1 : w.frozen? ⟨g, 1, none⟩ = false)
    (_ : g < w.heap.size) (hp : p ≤ 1048576) (hn : 1 ≤ n) :
    Calls Try.prog 19 #[.pointer (some ⟨g, 0, none⟩), .int .i64 n] w (PickPost w g n p) := by
  go_enter Try.func19, Try.ntmps19
  go_wp2
  go_ret
  exact ⟨_, 0, rfl, Int.le_refl _, .inr rfl, rfl⟩

set_option maxRecDepth 100000 in
theorem pick_low (g c p L : Nat) (A : Option Addr) (n : Int) (w : World) (_ : w.cell? ⟨g, 0, none⟩ = some (.slice A L c)) (c1 : w.cell? ⟨g, 1, none⟩ = some (.int .i64 (p : Int))) (f1 : w.frozen? ⟨g, 1, none⟩ = false)
    (_ : g < w.heap.size) (hp : p ≤ 1048576) (hn : n < 1) :
    Calls Try.prog 19 #[.pointer (some ⟨g, 0, none⟩), .int .i64 n] w (PickPost w g n p) := by
  go_enter Try.func19, Try.ntmps19
  go_wp2
  go_ret
  exact ⟨_, 0, rfl, Int.le_refl _, .inr rfl, rfl⟩

/-- The reader at block g has been asked at most m times. -/
def Rdy (w : World) (g m : Nat) : Prop := ∃ A c zs p, Rdr w g A c zs p ∧ p ≤ m

/-- A number in range is picked. -/
def Picked (w : World) (g m : Nat) (n : Int) (e : Ending) (w' : World) : Prop :=
  ∃ k : Int, e = .returned (.int .i64 k) ∧ 0 ≤ k ∧ (k < n ∨ k = 0) ∧ Rdy w' g (m + 1) ∧ w.grownBy w' (some g)

theorem rd_keep {w w' : World} {A : Option Addr} {zs : List Int} {g : Nat} (h : Rd .u8 w A zs) (hne : zs ≠ [] → ∀ b off, A = some ⟨b, off, none⟩ → b ≠ g) (hg : w.grownBy w' (some g)) : Rd .u8 w' A zs := fun hn => by
  obtain ⟨b, off, hA, hc⟩ := h hn
  exact ⟨b, off, hA, fun j hj => hg.cell (hc j hj) (by have := hne hn b off hA; simp; omega)⟩

theorem grownBy_setDrewN (w : World) (g j : Nat) (u : Value) (m : Nat) : w.grownBy ((w.setCell ⟨g, j, none⟩ u).drewN m) (some g) := grownBy_drewN (grownBy_set w g j u) m

theorem picked_of {w : World} {g c p m : Nat} {A : Option Addr} {zs : List Int} {n : Int} (h : Rdr w g A c zs p) (hp : p ≤ m) {e : Ending} {w' : World} (hq : PickPost w g n p e w') : Picked w g m n e w' := by
  obtain ⟨k, t, rfl, k0, k1, rfl⟩ := hq
  have hg := grownBy_setDrewN w g 1 (.int .i64 ((p : Int) + 1)) t
  refine ⟨k, rfl, k0, k1, ⟨A, c, zs, p + 1, ⟨?_, rd_keep h.rd h.ne hg, h.ne, h.len, h.u8⟩, by omega⟩, hg⟩
  show (w.setCell ⟨g, 1, none⟩ (.int .i64 ((p : Int) + 1))).heap[g]? = _
  rw [heap_setCell_same w g 1 _ _ _ h.blk]
  simp

theorem pick (g m : Nat) (n : Int) (w : World) (h : Rdy w g m) (hm : m ≤ 1048576) (hn1 : n ≤ 1048576) :
    Calls Try.prog 19 #[.pointer (some ⟨g, 0, none⟩), .int .i64 n] w (Picked w g m n) := by
  obtain ⟨A, c, zs, p, h, hp⟩ := h
  have hL := h.len
  by_cases hn : n < 1
  · exact (pick_low g c p zs.length A n w h.c0 h.c1 h.f1 h.lt (by omega) hn).mono fun _ _ hq => picked_of h hp hq
  by_cases hz : zs.length = 0
  · have c0 := h.c0
    rw [hz] at c0
    exact (pick_none g c p A n w c0 h.c1 h.f1 h.lt (by omega) (by omega)).mono fun _ _ hq => picked_of h hp hq
  by_cases hk : p < zs.length
  · obtain ⟨b, off, rfl, hb, hc⟩ := h.rd.at hk
    have ⟨d0, d1⟩ := bounds_u8 (h.u8 _ (nth_mem hk))
    exact (pick_near g b off c zs.length p (nth zs p) n w h.c0 h.c1 h.f1 h.lt hb (h.ne (by intro h0; rw [h0] at hL hz; simp at hz) b off rfl) hc hL hk d0 d1 (by omega)).mono fun _ _ hq => picked_of h hp hq
  · have hl : 0 < zs.length := by omega
    obtain ⟨b, off, rfl, hb, hc⟩ := h.rd.at (i := p % zs.length) (Nat.mod_lt _ hl)
    obtain ⟨b', off', heq, hb', hc'⟩ := h.rd.at (i := (p * 7 + 3) % zs.length) (Nat.mod_lt _ hl)
    injection heq with heq
    injection heq with heq1 heq2
    subst heq1 heq2
    have m1 := Nat.mod_lt p hl
    have m2 := Nat.mod_lt (p * 7 + 3) hl
    have ⟨d0, d1⟩ := bounds_u8 (h.u8 _ (nth_mem m1))
    have ⟨e0, e1⟩ := bounds_u8 (h.u8 _ (nth_mem m2))
    exact (pick_far g b off c zs.length p (p % zs.length) ((p * 7 + 3) % zs.length) (p / zs.length) (nth zs (p % zs.length)) (nth zs ((p * 7 + 3) % zs.length)) n w h.c0 h.c1 h.f1 h.lt hb (h.ne (by intro h0; rw [h0] at hL hz; simp at hz) b off rfl) hc hc' m1 m2 hL (by omega) hk
      (Nat.div_le_self _ _) d0 d1 e0 e1 (tmod_nat _ _) (by rw [← tmod_nat]; simp) (tdiv_nat _ _) (by omega) hn1).mono fun _ _ hq => picked_of h hp hq

theorem pick1 (g m : Nat) (n : Int) (w : World) (h : Rdy w g m) (hm : m ≤ 1048576) (hn : 1 ≤ n) (hn1 : n ≤ 1048576) :
    Calls Try.prog 19 #[.pointer (some ⟨g, 0, none⟩), .int .i64 n] w fun e w' => ∃ k : Int, e = .returned (.int .i64 k) ∧ 0 ≤ k ∧ k < n ∧ Rdy w' g (m + 1) ∧ w.grownBy w' (some g) :=
  (pick g m n w h hm hn1).mono fun _ _ ⟨k, h1, h2, h3, h4, h5⟩ => ⟨k, h1, h2, by omega, h4, h5⟩

theorem Rdy.lt {w : World} {g m : Nat} (h : Rdy w g m) : g < w.heap.size := by
  obtain ⟨A, c, zs, p, h, _⟩ := h
  exact h.lt
theorem Rdy.grown {w w' : World} {g m : Nat} {row : Option Nat} (h : Rdy w g m) (hg : w.grownBy w' row) (hr : ∀ k, row = some k → g ≠ k ∧ ∀ A c zs p, Rdr w g A c zs p → zs ≠ [] → ∀ b off, A = some ⟨b, off, none⟩ → b ≠ k) : Rdy w' g m := by
  obtain ⟨A, c, zs, p, h, hp⟩ := h
  refine ⟨A, c, zs, p, ⟨?_, ?_, h.ne, h.len, h.u8⟩, hp⟩
  · rw [hg.block g h.lt (fun e => (hr g e.symm).1 rfl)]; exact h.blk
  · intro hn
    obtain ⟨b, off, hA, hc⟩ := h.rd hn
    refine ⟨b, off, hA, fun j hj => hg.cell (hc j hj) (fun e => (hr b e.symm).2 A c zs p h hn b off hA rfl)⟩
theorem Rdy.below {w w' : World} {g m : Nat} (h : Rdy w g m) (hb : Below w.heap.size w w') : Rdy w' g m :=
  h.grown (row := none) (grownBy_of_below hb none) (fun _ e => by cases e)
theorem Rdy.alloc {w : World} {g m : Nat} (h : Rdy w g m) (o : Obj) : Rdy (w.alloc o) g m := h.below ((Below.refl _ _).alloc (Nat.le_refl _) _)
theorem Rdy.drewN {w : World} {g m : Nat} (h : Rdy w g m) (n : Nat) : Rdy (w.drewN n) g m := h.below ((Below.refl _ _).drewN n)
/-- Cells of a new block, behind a pick. -/
theorem tab_cell {w w' : World} {g : Nat} {cs : Array Value} {t : TypeId} (hg : (w.alloc (.cells cs t)).grownBy w' (some g)) (hlt : g < w.heap.size) (i : Nat) (v : Value) (hv : cs[i]? = some v) : w'.cell? ⟨w.heap.size, i, none⟩ = some v := by
  refine hg.cell (a := ⟨w.heap.size, i, none⟩) ?_ (by simp; omega)
  rw [World.cell?_alloc_mark]; exact hv
theorem grown_below {w0 w w' : World} {g : Nat} (h : Below w0.heap.size w0 w) (hg : w.grownBy w' (some g)) (hlt : w0.heap.size ≤ g) : Below w0.heap.size w0 w' :=
  h.grown hg h.size (fun k hk => by injection hk with hk; omega)
/-- An integer is drawn. -/
def DrawI (P : Int → Prop) (w : World) (e : Ending) (w' : World) : Prop := ∃ n : Int, P n ∧ e = .returned (.int .i64 n) ∧ Below w.heap.size w w'

/-- A reader is opened on the bytes that came in. -/
def Opened (w : World) (e : Ending) (w' : World) : Prop :=
  e = .returned (.pointer (some ⟨w.heap.size, 0, none⟩)) ∧ Rdy w' w.heap.size 0 ∧ Below w.heap.size w w'

set_option maxRecDepth 100000 in
theorem l6Open (A : Option Addr) (c : Nat) (zs : List Int) (w : World) (h : Came .u8 w A c zs) :
    Calls Try.prog 9 #[.slice A zs.length c] w (Opened w) := by
  have hm := h.ml
  by_cases hb : 2000 < zs.length
  · have h1 := h.1
    have h2 := h.2.1
    unfold maxLen at h2
    obtain ⟨b, off, rfl, hbl, _⟩ := h.2.2.1.at (i := 0) (by omega)
    go_enter Try.func9, Try.ntmps9
    go_wp2
    go_ret
    refine ⟨rfl, ⟨some ⟨b, off, none⟩, c, zs.take 2000, 0, ⟨?_, ?_, ?_, ?_, ?_⟩, Nat.le_refl _⟩, (Below.refl _ _).alloc (Nat.le_refl _) _⟩
    · rw [List.length_take, Nat.min_eq_left (by omega)]; exact heap_alloc_new _ _
    · refine Rd.alloc ?_ _
      intro _
      obtain ⟨b', off', hA, hc⟩ := h.2.2.1 (by intro h0; subst h0; simp at hb)
      refine ⟨b', off', hA, fun j hj => ?_⟩
      rw [List.length_take] at hj
      rw [hc j (by omega)]
      simp [nth, show j < 2000 by omega]
    · intro _ b1 off1 hA
      injection hA with hA
      injection hA with hA
      omega
    · rw [List.length_take]; omega
    · exact fun n hn => h.2.2.2 n (List.mem_of_mem_take hn)
  · go_enter Try.func9, Try.ntmps9
    go_wp2
    go_ret
    refine ⟨rfl, ⟨A, c, zs, 0, ⟨heap_alloc_new _ _, h.2.2.1.alloc _, ?_, by omega, h.2.2.2⟩, Nat.le_refl _⟩, (Below.refl _ _).alloc (Nat.le_refl _) _⟩
    intro hn b1 off1 hA
    obtain ⟨b', off', hA', hb', _⟩ := h.2.2.1.at (i := 0) (List.length_pos_iff.2 hn)
    rw [hA] at hA'
    injection hA' with hA'
    injection hA' with hA'
    omega
end Go.Proofs.Ytnmfppjjhbkfmaa
