/- What DrawFramePushes draws: two frames. -/
import Derived.Test.YtfdbhaojdccomaaDrawG
import Derived.Test.YtfdbhaojdccomaaNines
import Derived.Deep.Light
namespace Go.Proofs.Ytfdbhaojdccomaa
open Go.RowKit

/-- Two frames are drawn from a code. -/
def DrawFr2 (w : World) (e : Ending) (w' : World) : Prop :=
  ∃ A B c d hs ls A' B' c' d' hs' ls', e = .returned (.tuple #[.agg #[.slice A hs.length c, .slice B ls.length d], .agg #[.slice A' hs'.length c', .slice B' ls'.length d']]) ∧ FrRd w' A B hs ls ∧ FrRd w' A' B' hs' ls' ∧ hs.length ≤ 8 ∧ ls.length ≤ 8 ∧ hs'.length ≤ 8 ∧ ls'.length ≤ 8 ∧ Below w.heap.size w w'

/-- Two boxes below the drawn memory. -/
def Cells2 (w : World) (r : Nat) : Prop := ∃ x y, Bx w r 27 x y
theorem Cells2.grown {w w' : World} {r g : Nat} (h : Cells2 w r) (k : w.grownBy w' (some g)) (hg : r ≠ g) : Cells2 w' r := by
  obtain ⟨x, y, h⟩ := h
  exact ⟨x, y, (k.block r h.lt (by simpa using hg)).trans h⟩

def dpT (B1 g n : Nat) (P Q : Value) (b1 : Nat) : Nat → World → Value → Prop
  | 0, _, v => v = .agg #[P, Q]
  | 1, _, v => v = .pointer (some ⟨g, 0, none⟩)
  | 2, _, v => v = .int .i64 (n : Int)
  | 3, w, v => ∃ A B c d hs ls, v = .agg #[.slice A hs.length c, .slice B ls.length d] ∧ RdN w B1 A hs ∧ RdN w B1 B ls ∧ hs.length ≤ 8 ∧ ls.length ≤ 8
  | _, w, _ => Bx w b1 27 P Q
def dpR (b1 g i : Nat) (_ : Nat → Value) (w1 w2 : World) : Prop := if i = 3 then w1.grownBy w2 (some g) else if i = 4 then w1.grownBy w2 (some b1) else w1 = w2
theorem dpT_stable {l : List Oper} {B1 g n b1 : Nat} {P Q : Value} (h2 : b1 < B1) (h3 : b1 ≠ g) : StableU l (dpR b1 g) (dpT B1 g n P Q b1) (fun _ => 100) 0 1 (fun _ _ => True) 5 := by
  intro i j v w1 w2 hj hij _ _ hR hT
  match j, hj, hij, hT with
  | 0, _, _, h => exact h
  | 1, _, _, h => exact h
  | 2, _, _, h => exact h
  | 3, _, hij, ⟨A, B, c, d, hs, ls, e, r1, r2, l1, l2⟩ =>
    unfold dpR at hR
    rw [if_neg hij] at hR
    split at hR
    · exact ⟨A, B, c, d, hs, ls, e, r1.grown hR h2, r2.grown hR h2, l1, l2⟩
    · subst hR; exact ⟨A, B, c, d, hs, ls, e, r1, r2, l1, l2⟩
  | 4, _, hij, h =>
    unfold dpR at hR
    split at hR
    · exact (hR.block b1 (Bx.lt h) (by simpa using h3)).trans h
    · first | (subst hR; exact h) | (rw [if_neg hij] at hR; subst hR; exact h)

/-- What holds in the region that draws the second frame. -/
structure DpI (w0 : World) (g b1 b2 r6 Bz sz : Nat) (A B : Option Addr) (hs ls : List Int) (P Q : Value) (w : World) : Prop where
  hi : RdN w Bz A hs
  lo : RdN w Bz B ls
  e1 : Cells2 w b1
  e2 : Cells2 w b2
  bx : Bx w r6 27 P Q
  sz : sz ≤ w.heap.size
  bel : Below w0.heap.size w0 w
section
variable {w0 w w1 : World} {g b1 b2 r6 Bz sz : Nat} {A B : Option Addr} {hs ls : List Int} {P Q : Value}
theorem DpI.go (h : DpI w0 g b1 b2 r6 Bz sz A B hs ls P Q w) (k : w.grownBy w1 (some g)) (hg : g < Bz) (n1 : b1 ≠ g) (n2 : b2 ≠ g) (n3 : r6 ≠ g) (hw : w0.heap.size ≤ g) : DpI w0 g b1 b2 r6 Bz sz A B hs ls P Q w1 :=
  ⟨h.hi.grown k hg, h.lo.grown k hg, h.e1.grown k n1, h.e2.grown k n2, (k.block r6 h.bx.lt (by simpa using n3)).trans h.bx, Nat.le_trans h.sz k.size, h.bel.trans (below_of_g k h.bel.size hw)⟩
theorem Bx.set2 {r : Nat} {t : TypeId} {x y : Value} (h : Bx w r t x y) (u v : Value) : Bx ((w.setCell ⟨r, 0, none⟩ u).setCell ⟨r, 1, none⟩ v) r t u v :=
  (heap_setCell_same _ r 1 _ _ v (heap_setCell_same w r 0 _ _ u h)).trans (by simp)
theorem Cells2.facts {r : Nat} (h : Cells2 w r) : ∃ x y, w.cell? ⟨r, 0, none⟩ = some x ∧ w.cell? ⟨r, 1, none⟩ = some y ∧ w.frozen? ⟨r, 0, none⟩ = false ∧ w.frozen? ⟨r, 1, none⟩ = false ∧ r < w.heap.size := by
  obtain ⟨x, y, h⟩ := h
  exact ⟨x, y, box_facts h⟩
theorem DpI.set1 (h : DpI w0 g b1 b2 r6 Bz sz A B hs ls P Q w) (hb : b1 < Bz) (n2 : b2 ≠ b1) (n3 : r6 ≠ b1) (hw : w0.heap.size ≤ b1) (u v : Value) : DpI w0 g b1 b2 r6 Bz sz A B hs ls P Q ((w.setCell ⟨b1, 0, none⟩ u).setCell ⟨b1, 1, none⟩ v) := by
  have k : w.grownBy ((w.setCell ⟨b1, 0, none⟩ u).setCell ⟨b1, 1, none⟩ v) (some b1) := grownBy_trans (grownBy_set w b1 0 u) (grownBy_set _ b1 1 v)
  obtain ⟨x, y, e1⟩ := h.e1
  exact ⟨h.hi.grown k hb, h.lo.grown k hb, ⟨u, v, e1.set2 u v⟩, h.e2.grown k n2, (k.block r6 h.bx.lt (by simpa using n3)).trans h.bx, Nat.le_trans h.sz k.size, h.bel.trans (below_of_g k h.bel.size hw)⟩
end

/-- The reader's bytes lie apart from block b1. -/
def RdyJ (B b1 : Nat) (w : World) (g m : Nat) : Prop := g < B ∧ ∃ A c zs p, Rdr w g A c zs p ∧ p ≤ m ∧ (zs ≠ [] → ∀ b off, A = some ⟨b, off, none⟩ → b < B ∧ b ≠ b1)
theorem RdyJ.rdyI {B b1 g m : Nat} {w : World} (h : RdyJ B b1 w g m) : RdyI B w g m := by
  obtain ⟨h0, A, c, zs, p, h1, h2, h3⟩ := h
  exact ⟨h0, A, c, zs, p, h1, h2, fun hn b off hA => (h3 hn b off hA).1⟩
theorem RdyI.apart {B b1 g m : Nat} {w : World} (h : RdyI B w g m) (hc : Cells2 w b1) (hu : ∃ A B c d n m, Bx w b1 27 (.slice A n c) (.slice B m d)) : RdyJ B b1 w g m := by
  obtain ⟨h0, A, c, zs, p, h1, h2, h3⟩ := h
  refine ⟨h0, A, c, zs, p, h1, h2, fun hn b off hA => ⟨h3 hn b off hA, fun e => ?_⟩⟩
  obtain ⟨b', off', hA', _, hcell⟩ := h1.rd.at (i := 0) (List.length_pos_iff.2 hn)
  rw [hA] at hA'
  injection hA' with hA'
  injection hA' with e1 e2
  subst e1 e
  obtain ⟨A1, B1, c1, d1, n1, m1, hb⟩ := hu
  have hb' : w.heap[b]? = some (.cells #[.slice A1 n1 c1, .slice B1 m1 d1] 27 (0, 0)) := hb
  rcases hoff : off' + 0 with _ | _ | k
  · rw [hoff] at hcell; simp [World.cell?, hb'] at hcell
  · rw [hoff] at hcell; simp [World.cell?, hb'] at hcell
  · rw [hoff] at hcell; simp [World.cell?, hb'] at hcell
theorem RdyJ.set1 {B b1 g m : Nat} {w w' : World} (h : RdyJ B b1 w g m) (k : w.grownBy w' (some b1)) (hg : g ≠ b1) : RdyJ B b1 w' g m := by
  obtain ⟨h0, A, c, zs, p, h1, h2, h3⟩ := h
  refine ⟨h0, A, c, zs, p, ⟨(k.block g h1.lt (by simpa using hg)).trans h1.blk, fun hn => ?_, h1.ne, h1.len, h1.u8⟩, h2, h3⟩
  obtain ⟨b, off, hA, hc⟩ := h1.rd hn
  exact ⟨b, off, hA, fun j hj => k.cell (hc j hj) (by have := (h3 hn b off hA).2; simpa using this)⟩
theorem dpR_of {b1 g i : Nat} {v : Nat → Value} {w : World} (h : i ≠ 3) (h' : i ≠ 4) : dpR b1 g i v w w := by
  unfold dpR; rw [if_neg h, if_neg h']
theorem dpR_3 {b1 g : Nat} {v : Nat → Value} {w w' : World} (h : w.grownBy w' (some g)) : dpR b1 g 3 v w w' := by
  unfold dpR; rw [if_pos rfl]; exact h
theorem dpR_4 {b1 g : Nat} {v : Nat → Value} {w w' : World} (h : w.grownBy w' (some b1)) : dpR b1 g 4 v w w' := by
  unfold dpR; rw [if_neg (by decide), if_pos rfl]; exact h

/-- The two frames lie in the result's boxes. -/
def Dp2 (w0 : World) (b1 b2 : Nat) (A B : Option Addr) (hs ls : List Int) (P Q : Value) (w : World) : Prop :=
  ∃ A' B' c' d' hs' ls', Bx w b1 27 P Q ∧ Bx w b2 27 (.slice A' hs'.length c') (.slice B' ls'.length d') ∧ FrRd w A B hs ls ∧ FrRd w A' B' hs' ls' ∧ hs'.length ≤ 8 ∧ ls'.length ≤ 8 ∧ Below w0.heap.size w0 w

set_option maxRecDepth 100000 in
set_option maxHeartbeats 1000000 in
theorem DrawFramePushes (A0 : Option Addr) (c0 : Nat) (zs : List Int) (w : World) (h : Came .u8 w A0 c0 zs) :
    Calls Try.prog 32 #[.slice A0 zs.length c0] w (DrawFr2 w) := by
  have hb0 := ((Below.refl w.heap.size w).alloc (Nat.le_refl _) (.cells #[.slice none 0 0, .slice none 0 0] 27)).alloc (by simp) (.cells #[.slice none 0 0, .slice none 0 0] 27)
  have hz : ((w.alloc (.cells #[.slice none 0 0, .slice none 0 0] 27)).alloc (.cells #[.slice none 0 0, .slice none 0 0] 27)).heap.size = w.heap.size + 2 := by simp
  go_enter Try.func32, Try.ntmps32
  go_wp2_with fail
  refine (l6Open _ _ _ _ (came_below h hb0)).mono ?_
  rintro e w1 ⟨rfl, r1, q1⟩
  rw [hz] at r1
  have X1 := box_first q1
  have Y1 := box_second q1
  have z1 := q1.size
  rw [hz] at z1
  have HB1 := Lib.hid (bstep hb0 q1)
  have hr1 := RdyI.of r1
  have hgl := r1.lt
  clear hb0 r1 q1
  go_wp2_with fail
  refine (pickI w1.heap.size (w.heap.size + 2) 0 5 w1 hr1 (by omega) (by omega) (by omega)).mono ?_
  rintro e w2 ⟨x, rfl, x0, x1, h2, g2⟩
  obtain ⟨N, rfl⟩ := Int.eq_ofNat_of_zero_le x0
  have z2 := g2.size
  have HX2 := Lib.hid ((g2.block w.heap.size (by omega) (by simp)).trans X1)
  have HY2 := Lib.hid ((g2.block (w.heap.size + 1) (by omega) (by simp)).trans Y1)
  have HB2 := Lib.hid (HB1.out.trans (below_of_g g2 (by omega) (by omega)))
  clear X1 Y1 hr1
  go_wp2_with fail
  rw [show (1 : Int) + (N : Int) = ((N + 1 : Nat) : Int) by omega]
  refine (l92Frame w1.heap.size (w.heap.size + 2) 1 (N + 1) w2 h2 (by omega) (by omega) (by omega) (by omega)).mono ?_
  rintro e w3 ⟨A, B, c, d, hs, ls, rfl, D⟩
  have z3 := D.gr.size
  have HX3 := Lib.hid ((D.gr.block w.heap.size (by omega) (by simp)).trans HX2.out)
  have HY3 := Lib.hid ((D.gr.block (w.heap.size + 1) (by omega) (by simp)).trans HY2.out)
  have HB3 := Lib.hid (HB2.out.trans (below_of_g D.gr (by omega) (by omega)))
  have b3 := below_new w3 (.cells #[.slice A hs.length c, .slice B ls.length d] 27)
  have lh := D.lh
  have ll := D.ll
  have HD := Lib.hid D
  clear D
  go_wp2_with fail
  refine (pickI w1.heap.size (w.heap.size + 2) 21 16 _ (HD.out.rdy.below b3) (by omega) (by omega) (by omega)).mono ?_
  rintro e w4 ⟨y, rfl, y0, y1, h4, g4⟩
  have HI : Hid (DpI w (w.heap.size + 2) w.heap.size (w.heap.size + 1) w3.heap.size w2.heap.size w4.heap.size A B hs ls (.slice A hs.length c) (.slice B ls.length d) w4) := Lib.hid (by
    have D := HD.out
    have z4 := g4.size
    simp at z4
    have i3 : DpI w (w.heap.size + 2) w.heap.size (w.heap.size + 1) w3.heap.size w2.heap.size 0 A B hs ls (.slice A hs.length c) (.slice B ls.length d) (w3.alloc (.cells #[.slice A hs.length c, .slice B ls.length d] 27)) :=
      ⟨D.hi.below b3, D.lo.below b3, ⟨_, _, (show Bx w3 w.heap.size _ _ _ from HX3.out).below b3⟩, ⟨_, _, (show Bx w3 (w.heap.size + 1) _ _ _ from HY3.out).below b3⟩, Bx.new _ _ _ _, Nat.zero_le _, bstep HB3.out b3⟩
    have i4 := i3.go g4 (by omega) (by omega) (by omega) (by omega) (by omega)
    exact ⟨i4.hi, i4.lo, i4.e1, i4.e2, i4.bx, Nat.le_refl _, i4.bel⟩)
  have z4 := g4.size
  simp at z4
  have HX4 : Hid (Bx w4 w.heap.size 27 (.slice none 0 0) (.slice none 0 0)) := Lib.hid ((g4.block w.heap.size (by simp; omega) (by simp)).trans ((show Bx w3 w.heap.size _ _ _ from HX3.out).below b3))
  have HR4 := Lib.hid h4
  clear h4 g4 b3
  by_cases hy : y = 0
  · subst hy
    go_wp2_with fail
    have HJ := Lib.hid (HR4.out.apart HI.out.e1 ⟨none, none, 0, 0, 0, 0, HX4.out⟩)
    refine wp_region_use (dpR w.heap.size (w.heap.size + 2)) (DpI w (w.heap.size + 2) w.heap.size (w.heap.size + 1) w3.heap.size w2.heap.size w4.heap.size A B hs ls (.slice A hs.length c) (.slice B ls.length d))
      (fun w' => RdyJ w1.heap.size w.heap.size w' (w.heap.size + 2) 22) 3 (dpT w4.heap.size (w.heap.size + 2) (N + 2) (.slice A hs.length c) (.slice B ls.length d) w.heap.size) (fun _ => 100) 0 1 (fun _ _ => True)
      (fun _ w' => Dp2 w w.heap.size (w.heap.size + 1) A B hs ls (.slice A hs.length c) (.slice B ls.length d) w') 5 (by kernel_rfl) (by kernel_rfl) (dpT_stable (by omega) (by omega))
      (fun i v w1 w2 hi hR hj => by
        unfold dpR at hR
        rw [if_neg hi] at hR
        split at hR
        · exact hj.set1 hR (by omega)
        · subst hR; exact hj) ?_ ?_ ?_ ?_
    · exact ⟨HI.out.hi, HI.out.lo, HI.out.e1, HI.out.e2, HI.out.bx, HI.out.sz, HI.out.bel.drew⟩
    · obtain ⟨h0', A', c', zs', p', h1', h2', h3'⟩ := HJ.out
      exact ⟨h0', A', c', zs', p', ⟨h1'.blk, h1'.rd, h1'.ne, h1'.len, h1'.u8⟩, h2', h3'⟩
    · refine lawsU_cons rfl ?_ (lawsU_cons rfl ?_ (lawsU_cons rfl ?_ (lawsU_cons rfl ?_ (lawsU_cons rfl ?_ (lawsU_last rfl ?_)))))
      · intro v w6 hI _ _ _
        obtain ⟨e0, e1, el⟩ := hI.bx.facts
        go_light
        refine ⟨?_⟩
        unfold Gives
        simp only [fillL]
        go_simp
        exact ⟨dpR_of (by decide) (by decide), hI, rfl⟩
      · intro v w6 hI _ _ _
        go_light
        refine ⟨?_⟩
        unfold Gives
        simp only [fillL]
        go_simp
        exact ⟨dpR_of (by decide) (by decide), hI, rfl⟩
      · intro v w6 hI _ _ _
        go_light
        refine ⟨?_⟩
        unfold Gives
        simp only [fillL]
        go_simp
        exact ⟨dpR_of (by decide) (by decide), hI, by first | rfl | (simp only [dpT]; congr 1; done) | (simp only [dpT]; congr 1; omega)⟩
      · intro v w6 hI hJ hd _
        have h1 : v 1 = _ := hd 1 (by kernel_rfl) rfl
        have h2 : v 2 = _ := hd 2 (by kernel_rfl) rfl
        have hJ6 := (hJ rfl).rdyI
        have hs6 := hI.sz
        clear hd hJ
        go_light
        refine ⟨?_⟩
        unfold Gives
        simp only [fillL]
        go_simp
        refine (l92Frame w1.heap.size (w.heap.size + 2) 22 (N + 2) w6 hJ6 (by omega) (by omega) (by omega) (by omega)).mono ?_
        rintro e w7 ⟨A7, B7, c7, d7, hs7, ls7, rfl, D7⟩
        exact ⟨_, rfl, dpR_3 D7.gr, hI.go D7.gr (by omega) (by omega) (by omega) (by omega) (by omega), A7, B7, c7, d7, hs7, ls7, rfl, D7.hi.down hs6, D7.lo.down hs6, D7.lh, D7.ll⟩
      · intro v w6 hI _ hd _
        have h1 : v 0 = _ := hd 0 (by kernel_rfl) rfl
        obtain ⟨x, y, k0, k1, f0, f1, kl⟩ := hI.e1.facts
        have g6 : w6.grownBy ((w6.setCell ⟨w.heap.size, 0, none⟩ (.slice A hs.length c)).setCell ⟨w.heap.size, 1, none⟩ (.slice B ls.length d)) (some w.heap.size) := grownBy_trans (grownBy_set w6 w.heap.size 0 _) (grownBy_set _ w.heap.size 1 _)
        have I6 := hI.set1 (by omega) (by omega) (by omega) (Nat.le_refl _) (.slice A hs.length c) (.slice B ls.length d)
        have B6 : Bx ((w6.setCell ⟨w.heap.size, 0, none⟩ (.slice A hs.length c)).setCell ⟨w.heap.size, 1, none⟩ (.slice B ls.length d)) w.heap.size 27 (.slice A hs.length c) (.slice B ls.length d) := by
          obtain ⟨x, y, hb⟩ := hI.e1
          exact hb.set2 _ _
        clear hd
        go_light
        refine ⟨?_⟩
        unfold Gives
        simp only [fillL]
        go_simp
        exact ⟨dpR_4 g6, I6, B6⟩
      · intro v w6 hI hall
        obtain ⟨A7, B7, c7, d7, hs7, ls7, h3, rh, rl, l1, l2⟩ := hall 3 (by decide) (by decide)
        have hb4 : Bx w6 w.heap.size 27 (.slice A hs.length c) (.slice B ls.length d) := hall 4 (by decide) (by decide)
        obtain ⟨x, y, k0, k1, f0, f1, kl⟩ := hI.e2.facts
        have g6 : w6.grownBy ((w6.setCell ⟨w.heap.size + 1, 0, none⟩ (.slice A7 hs7.length c7)).setCell ⟨w.heap.size + 1, 1, none⟩ (.slice B7 ls7.length d7)) (some (w.heap.size + 1)) := grownBy_trans (grownBy_set w6 _ 0 _) (grownBy_set _ _ 1 _)
        have hF : Dp2 w w.heap.size (w.heap.size + 1) A B hs ls (.slice A hs.length c) (.slice B ls.length d) ((w6.setCell ⟨w.heap.size + 1, 0, none⟩ (.slice A7 hs7.length c7)).setCell ⟨w.heap.size + 1, 1, none⟩ (.slice B7 ls7.length d7)) := by
          obtain ⟨x, y, hb⟩ := hI.e2
          exact ⟨A7, B7, c7, d7, hs7, ls7, (g6.block _ hb4.lt (by simp)).trans hb4, hb.set2 _ _, ⟨(hI.hi.grown g6 (by omega)).rd, (hI.lo.grown g6 (by omega)).rd⟩, ⟨(rh.grown g6 (by omega)).rd, (rl.grown g6 (by omega)).rd⟩, l1, l2, hI.bel.trans (below_of_g g6 hI.bel.size (by omega))⟩
        clear hall
        go_light
        refine ⟨?_⟩
        unfold Gives
        simp only [fillL]
        go_simp
        exact hF
    intro v w7 hF
    obtain ⟨A7, B7, c7, d7, hs7, ls7, bx1, bx2, R, R', l1, l2, b7⟩ := hF
    obtain ⟨k0, k1, kl⟩ := bx1.facts
    obtain ⟨k2, k3, kl2⟩ := bx2.facts
    refine ⟨?_⟩
    simp only [fillL]
    go_simp
    go_wp2_with fail
    refine bodyPost_ret (v := .tuple #[.agg #[.slice A hs.length c, .slice B ls.length d], .agg #[.slice A7 hs7.length c7, .slice B7 ls7.length d7]]) (by simp [results, Try.results32, go_sem, *]) rfl ?_
    exact ⟨A, B, c, d, hs, ls, A7, B7, c7, d7, hs7, ls7, rfl, R, R', lh, ll, l1, l2, b7⟩
  · have hd : (y == 0) = false := beq_eq_false_iff_ne.2 hy
    go_wp2_with fail
    have HJ := Lib.hid (HR4.out.apart HI.out.e1 ⟨none, none, 0, 0, 0, 0, HX4.out⟩)
    refine wp_region_use (dpR w.heap.size (w.heap.size + 2)) (DpI w (w.heap.size + 2) w.heap.size (w.heap.size + 1) w3.heap.size w2.heap.size w4.heap.size A B hs ls (.slice A hs.length c) (.slice B ls.length d))
      (fun w' => RdyJ w1.heap.size w.heap.size w' (w.heap.size + 2) 22) 3 (dpT w4.heap.size (w.heap.size + 2) (N + 1) (.slice A hs.length c) (.slice B ls.length d) w.heap.size) (fun _ => 100) 0 1 (fun _ _ => True)
      (fun _ w' => Dp2 w w.heap.size (w.heap.size + 1) A B hs ls (.slice A hs.length c) (.slice B ls.length d) w') 5 (by kernel_rfl) (by kernel_rfl) (dpT_stable (by omega) (by omega))
      (fun i v w1 w2 hi hR hj => by
        unfold dpR at hR
        rw [if_neg hi] at hR
        split at hR
        · exact hj.set1 hR (by omega)
        · subst hR; exact hj) ?_ ?_ ?_ ?_
    · exact ⟨HI.out.hi, HI.out.lo, HI.out.e1, HI.out.e2, HI.out.bx, HI.out.sz, HI.out.bel.drew⟩
    · obtain ⟨h0', A', c', zs', p', h1', h2', h3'⟩ := HJ.out
      exact ⟨h0', A', c', zs', p', ⟨h1'.blk, h1'.rd, h1'.ne, h1'.len, h1'.u8⟩, h2', h3'⟩
    · refine lawsU_cons rfl ?_ (lawsU_cons rfl ?_ (lawsU_cons rfl ?_ (lawsU_cons rfl ?_ (lawsU_cons rfl ?_ (lawsU_last rfl ?_)))))
      · intro v w6 hI _ _ _
        obtain ⟨e0, e1, el⟩ := hI.bx.facts
        go_light
        refine ⟨?_⟩
        unfold Gives
        simp only [fillL]
        go_simp
        exact ⟨dpR_of (by decide) (by decide), hI, rfl⟩
      · intro v w6 hI _ _ _
        go_light
        refine ⟨?_⟩
        unfold Gives
        simp only [fillL]
        go_simp
        exact ⟨dpR_of (by decide) (by decide), hI, rfl⟩
      · intro v w6 hI _ _ _
        go_light
        refine ⟨?_⟩
        unfold Gives
        simp only [fillL]
        go_simp
        exact ⟨dpR_of (by decide) (by decide), hI, rfl⟩
      · intro v w6 hI hJ hd _
        have h1 : v 1 = _ := hd 1 (by kernel_rfl) rfl
        have h2 : v 2 = _ := hd 2 (by kernel_rfl) rfl
        have hJ6 := (hJ rfl).rdyI
        have hs6 := hI.sz
        clear hd hJ
        go_light
        refine ⟨?_⟩
        unfold Gives
        simp only [fillL]
        go_simp
        refine (l92Frame w1.heap.size (w.heap.size + 2) 22 (N + 1) w6 hJ6 (by omega) (by omega) (by omega) (by omega)).mono ?_
        rintro e w7 ⟨A7, B7, c7, d7, hs7, ls7, rfl, D7⟩
        exact ⟨_, rfl, dpR_3 D7.gr, hI.go D7.gr (by omega) (by omega) (by omega) (by omega) (by omega), A7, B7, c7, d7, hs7, ls7, rfl, D7.hi.down hs6, D7.lo.down hs6, D7.lh, D7.ll⟩
      · intro v w6 hI _ hd _
        have h1 : v 0 = _ := hd 0 (by kernel_rfl) rfl
        obtain ⟨x, y, k0, k1, f0, f1, kl⟩ := hI.e1.facts
        have g6 : w6.grownBy ((w6.setCell ⟨w.heap.size, 0, none⟩ (.slice A hs.length c)).setCell ⟨w.heap.size, 1, none⟩ (.slice B ls.length d)) (some w.heap.size) := grownBy_trans (grownBy_set w6 w.heap.size 0 _) (grownBy_set _ w.heap.size 1 _)
        have I6 := hI.set1 (by omega) (by omega) (by omega) (Nat.le_refl _) (.slice A hs.length c) (.slice B ls.length d)
        have B6 : Bx ((w6.setCell ⟨w.heap.size, 0, none⟩ (.slice A hs.length c)).setCell ⟨w.heap.size, 1, none⟩ (.slice B ls.length d)) w.heap.size 27 (.slice A hs.length c) (.slice B ls.length d) := by
          obtain ⟨x, y, hb⟩ := hI.e1
          exact hb.set2 _ _
        clear hd
        go_light
        refine ⟨?_⟩
        unfold Gives
        simp only [fillL]
        go_simp
        exact ⟨dpR_4 g6, I6, B6⟩
      · intro v w6 hI hall
        obtain ⟨A7, B7, c7, d7, hs7, ls7, h3, rh, rl, l1, l2⟩ := hall 3 (by decide) (by decide)
        have hb4 : Bx w6 w.heap.size 27 (.slice A hs.length c) (.slice B ls.length d) := hall 4 (by decide) (by decide)
        obtain ⟨x, y, k0, k1, f0, f1, kl⟩ := hI.e2.facts
        have g6 : w6.grownBy ((w6.setCell ⟨w.heap.size + 1, 0, none⟩ (.slice A7 hs7.length c7)).setCell ⟨w.heap.size + 1, 1, none⟩ (.slice B7 ls7.length d7)) (some (w.heap.size + 1)) := grownBy_trans (grownBy_set w6 _ 0 _) (grownBy_set _ _ 1 _)
        have hF : Dp2 w w.heap.size (w.heap.size + 1) A B hs ls (.slice A hs.length c) (.slice B ls.length d) ((w6.setCell ⟨w.heap.size + 1, 0, none⟩ (.slice A7 hs7.length c7)).setCell ⟨w.heap.size + 1, 1, none⟩ (.slice B7 ls7.length d7)) := by
          obtain ⟨x, y, hb⟩ := hI.e2
          exact ⟨A7, B7, c7, d7, hs7, ls7, (g6.block _ hb4.lt (by simp)).trans hb4, hb.set2 _ _, ⟨(hI.hi.grown g6 (by omega)).rd, (hI.lo.grown g6 (by omega)).rd⟩, ⟨(rh.grown g6 (by omega)).rd, (rl.grown g6 (by omega)).rd⟩, l1, l2, hI.bel.trans (below_of_g g6 hI.bel.size (by omega))⟩
        clear hall
        go_light
        refine ⟨?_⟩
        unfold Gives
        simp only [fillL]
        go_simp
        exact hF
    intro v w7 hF
    obtain ⟨A7, B7, c7, d7, hs7, ls7, bx1, bx2, R, R', l1, l2, b7⟩ := hF
    obtain ⟨k0, k1, kl⟩ := bx1.facts
    obtain ⟨k2, k3, kl2⟩ := bx2.facts
    refine ⟨?_⟩
    simp only [fillL]
    go_simp
    go_wp2_with fail
    refine bodyPost_ret (v := .tuple #[.agg #[.slice A hs.length c, .slice B ls.length d], .agg #[.slice A7 hs7.length c7, .slice B7 ls7.length d7]]) (by simp [results, Try.results32, go_sem, *]) rfl ?_
    exact ⟨A, B, c, d, hs, ls, A7, B7, c7, d7, hs7, ls7, rfl, R, R', lh, ll, l1, l2, b7⟩
end Go.Proofs.Ytfdbhaojdccomaa
