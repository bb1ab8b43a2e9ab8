/- The contract of frame: the rods as a new frame. -/
import Derived.Test.YtfdbhaojdccomaaDoorRegP
import Derived.Test.YtfdbhaojdccomaaDoorShow
import Derived.Test.YtfdbhaojdccomaaDoorFrPl
import Derived.Deep.Light
namespace Go.Proofs.YtfdbhaojdccomaaDoor
open Go.RowKit

theorem mk_run (w : World) (base n : Nat) (hn : n ≤ 4194304) (hbase : base ≤ w.heap.size) :
    ∃ w', (Instr.makeSlice 22 (.int .i64 (n : Int)) (.int .i64 (n : Int))).run Tryd.prog w = .ok (.slice (some ⟨w.heap.size, 0, none⟩) n n) w' ∧ Sl w' base (some ⟨w.heap.size, 0, none⟩) n (List.replicate n 0) ∧ w.grownBy w' none := by
  obtain ⟨i, hi, hz0, hz1, hz2⟩ := info_parts int_info
  obtain ⟨w', hrun, r1, r2⟩ := run_make_full (P := Tryd.prog) (w := w) base 22 3 i (.int .i64 0) 1 Tryd.underlying22 hi hz0 hz1 .i64 .i64 n (by rw [hz2]; omega) (by simp only [maxLen]; omega) hbase
  refine ⟨w', hrun, ?_, r2⟩
  unfold Sl
  have e : (madeCells (Value.int .i64 0).cells (n * 1)).toList = (List.replicate n (0 : Int)).map (Value.int .i64) := by
    simp only [madeCells, Value.cells, Nat.mul_one, List.map_replicate]
    rw [List.eq_replicate_iff]
    refine ⟨by simp, fun b hb => ?_⟩
    simp [Nat.mod_one] at hb
    exact hb.2.symm
  rw [e] at r1
  simpa using r1

/-- A new slice of zeros. -/
def TMk (B n : Nat) (w : World) (v : Value) : Prop := ∃ b, v = .slice (some ⟨b, 0, none⟩) n n ∧ Sl w B (some ⟨b, 0, none⟩) n (List.replicate n 0)
/-- Two slices lie apart. -/
def DMk (n : Nat) (x y : Value) : Prop := ∀ b c, x = .slice (some ⟨b, 0, none⟩) n n → y = .slice (some ⟨c, 0, none⟩) n n → b ≠ c
theorem TMk.keep {B n : Nat} {w w' : World} {v : Value} (h : TMk B n w v) (hb : Below w.heap.size w w') : TMk B n w' v := by
  obtain ⟨b, h1, h2⟩ := h
  exact ⟨b, h1, h2.below hb⟩
theorem TMk.new_l {B n : Nat} {w : World} {y : Value} (h : TMk B n w y) : DMk n (.slice (some ⟨w.heap.size, 0, none⟩) n n) y := by
  obtain ⟨b, rfl, h2⟩ := h
  intro b' c' h3 h4
  injection h3 with h3
  injection h3 with h3
  injection h3 with h3
  injection h4 with h4
  injection h4 with h4
  injection h4 with h4
  have h5 : b < w.heap.size := (h2.lt b rfl).2
  omega
theorem TMk.new_r {B n : Nat} {w : World} {y : Value} (h : TMk B n w y) : DMk n y (.slice (some ⟨w.heap.size, 0, none⟩) n n) := fun b c h3 h4 => Ne.symm (h.new_l c b h4 h3)

def frT (p g n B : Nat) : Nat → World → Value → Prop
  | 0, _, v => v = .pointer (some ⟨p, 0, none⟩)
  | 1, _, v => v = .pointer (some ⟨p, 0, none⟩)
  | 2, _, v => v = .slice (some ⟨g, 0, none⟩) n n
  | 3, _, v => v = .int .i64 (n : Int)
  | 4, w, v => TMk B n w v
  | 5, _, v => v = .pointer (some ⟨p, 0, none⟩)
  | 6, _, v => v = .pointer (some ⟨p, 0, none⟩)
  | 7, _, v => v = .slice (some ⟨g, 0, none⟩) n n
  | 8, _, v => v = .int .i64 (n : Int)
  | 9, w, v => TMk B n w v
  | 10, w, v => ∃ b c, v = .agg #[.slice (some ⟨b, 0, none⟩) n n, .slice (some ⟨c, 0, none⟩) n n] ∧ Sl w B (some ⟨b, 0, none⟩) n (List.replicate n 0) ∧ Sl w B (some ⟨c, 0, none⟩) n (List.replicate n 0) ∧ b ≠ c
  | _, w, v => ∃ r, v = .pointer (some ⟨r, 0, none⟩) ∧ B ≤ r ∧ w.heap[r]? = some (.cells #[.slice none 0 0, .slice none 0 0] 27 (0, 0))
theorem frT_keep {p g n B : Nat} (i : Nat) (w1 w2 : World) (v : Value) (hR : Below w1.heap.size w1 w2) (h : frT p g n B i w1 v) : frT p g n B i w2 v := by
  match i, h with
  | 0, h => exact h
  | 1, h => exact h
  | 2, h => exact h
  | 3, h => exact h
  | 4, h => exact TMk.keep h hR
  | 5, h => exact h
  | 6, h => exact h
  | 7, h => exact h
  | 8, h => exact h
  | 9, h => exact TMk.keep h hR
  | 10, ⟨b, c, h1, h2, h3, h4⟩ => exact ⟨b, c, h1, h2.below hR, h3.below hR, h4⟩
  | _ + 11, ⟨r, h1, h2, h3⟩ => exact ⟨r, h1, h2, (hR.block r (Array.getElem?_eq_some_iff.1 h3).1).trans h3⟩

/-- The frame is made, its numbers not yet set. -/
structure FrMade (W : World) (n r b c : Nat) (xs ys : List Int) (w : World) : Prop where
  box : w.heap[r]? = some (.cells #[.slice (some ⟨b, 0, none⟩) n n, .slice (some ⟨c, 0, none⟩) n n] 27 (0, 0))
  hi : Sl w W.heap.size (some ⟨b, 0, none⟩) n xs
  lo : Sl w W.heap.size (some ⟨c, 0, none⟩) n ys
  ne : b ≠ c
  rb : W.heap.size ≤ r
  bel : Below W.heap.size W w
theorem FrMade.rlt {W w : World} {n r b c : Nat} {xs ys : List Int} (h : FrMade W n r b c xs ys w) : r < w.heap.size := (Array.getElem?_eq_some_iff.1 h.box).1
theorem FrMade.c0 {W w : World} {n r b c : Nat} {xs ys : List Int} (h : FrMade W n r b c xs ys w) : w.cell? ⟨r, 0, none⟩ = some (.slice (some ⟨b, 0, none⟩) n n) := by simp [World.cell?, h.box]
theorem FrMade.c1 {W w : World} {n r b c : Nat} {xs ys : List Int} (h : FrMade W n r b c xs ys w) : w.cell? ⟨r, 1, none⟩ = some (.slice (some ⟨c, 0, none⟩) n n) := by simp [World.cell?, h.box]
theorem Sl.heap_ {w : World} {base g c : Nat} {zs : List Int} (h : Sl w base (some ⟨g, 0, none⟩) c zs) : ∃ cur, w.heap[g]? = some (.cells cur 3 (0, 0)) := by
  rcases h.2 with ⟨hv, _⟩ | ⟨g', cap, cur, hv, hb, hg, _⟩
  · cases hv
  · injection hv with h1 h2 h3
    injection h1 with h1
    injection h1 with h1
    subst h1
    exact ⟨_, hg⟩
theorem ne_type {w : World} {g r : Nat} {cs ds : Array Value} {t u : TypeId} {x y : Nat × Nat} (h : w.heap[g]? = some (.cells cs t x)) (h' : w.heap[r]? = some (.cells ds u y)) (hne : t ≠ u) : g ≠ r := by
  intro e
  subst e
  rw [h] at h'
  injection h' with h'
  injection h' with _ h1 _
  exact hne h1
theorem FrMade.rne {W w : World} {n r b c : Nat} {xs ys : List Int} (h : FrMade W n r b c xs ys w) : b ≠ r ∧ c ≠ r := by
  obtain ⟨cu, h1⟩ := h.hi.heap_
  obtain ⟨cu', h2⟩ := h.lo.heap_
  exact ⟨ne_type h1 h.box (by decide), ne_type h2 h.box (by decide)⟩

theorem Sl.farS {w : World} {base b c g j : Nat} {zs : List Int} {u : Value} (h : Sl w base (some ⟨b, 0, none⟩) c zs) (hne : b ≠ g) : Sl (w.setCell ⟨g, j, none⟩ u) base (some ⟨b, 0, none⟩) c zs :=
  h.grown (grownBy_set w g j u) (.inr (by simp [blk]; exact hne))
theorem FrMade.step {W w : World} {n r b c : Nat} {xs ys : List Int} (h : FrMade W n r b c xs ys w) (k : Nat) (x y : Int) (o : Obj) :
    FrMade W n r b c (xs.set k x) (ys.set k y) (((w.setCell ⟨b, k, none⟩ (.int .i64 x)).setCell ⟨c, k, none⟩ (.int .i64 y)).alloc o) := by
  have ⟨n1, n2⟩ := h.rne
  have hb := (h.hi.lt b rfl).1
  have hc := (h.lo.lt c rfl).1
  refine ⟨?_, ((h.hi.set_ k x).farS h.ne).alloc o, ((h.lo.farS (Ne.symm h.ne)).set_ k y).alloc o, h.ne, h.rb, ((h.bel.setCell (by simpa using hb) _).setCell (by simpa using hc) _).alloc (by simpa using h.bel.size) o⟩
  rw [Below.heap_alloc _ _ _ (by simpa using h.rlt), Below.heap_setCell _ _ _ _ (by simp; exact fun e => n2 e.symm), Below.heap_setCell _ _ _ _ (by simp; exact fun e => n1 e.symm)]
  exact h.box

set_option maxRecDepth 100000 in
set_option maxHeartbeats 1000000 in
theorem beadsFrame (p g base : Nat) (hs ls : List Int) (w : World) (R1 : Rods w base p g hs ls) (hn : hs.length ≤ 6) :
    Calls Tryd.prog 30 #[.pointer (some ⟨p, 0, none⟩)] w (NewFr w hs ls) := by
  go_enter Tryd.func30, Tryd.ntmps30
  go_wp2_with fail
  have hb0 : Below w.heap.size w (w.alloc (.cells #[.slice none 0 0, .slice none 0 0] 27)) := (Below.refl _ _).alloc (Nat.le_refl _) _
  have R2 := R1.below hb0
  have HB0 := Lib.hid hb0
  have HR1 := Lib.hid R1
  clear hb0 R1
  have hW : (w.alloc (.cells #[.slice none 0 0, .slice none 0 0] 27)).heap.size = w.heap.size + 1 := by simp
  have hret : (w.alloc (.cells #[.slice none 0 0, .slice none 0 0] 27)).heap[w.heap.size]? = some (.cells #[.slice none 0 0, .slice none 0 0] 27 (0, 0)) := heap_alloc_new _ _
  have HW := Lib.hid hW
  have HRET := Lib.hid hret
  clear hW hret
  generalize w.alloc (.cells #[.slice none 0 0, .slice none 0 0] 27) = W at *
  refine wp_region_tail (fun w1 w2 => Below w1.heap.size w1 w2) (fun w1 => Below W.heap.size W w1) (frT p g hs.length W.heap.size) 4 9 (DMk hs.length)
    (fun v w1 => ∃ r b c, v 11 = .pointer (some ⟨r, 0, none⟩) ∧ FrMade W hs.length r b c (List.replicate hs.length 0) (List.replicate hs.length 0) w1) 12 (by kernel_rfl) (by kernel_rfl) frT_keep (Below.refl _ _).drew ?_ ?_
  · refine lawsP_cons rfl ?_ (lawsP_cons rfl ?_ (lawsP_cons rfl ?_ (lawsP_cons rfl ?_ (lawsP_cons rfl ?_ (lawsP_cons rfl ?_ (lawsP_cons rfl ?_ (lawsP_cons rfl ?_ (lawsP_cons rfl ?_ (lawsP_cons rfl ?_ (lawsP_cons rfl ?_ (lawsP_cons rfl ?_ (lawsP_last rfl ?_))))))))))))
    · intro v w6 hI _ _
      clear R2
      go_light
      refine ⟨?_⟩
      unfold Gives
      simp only [fillL]
      go_simp
      exact ⟨Below.refl _ _, hI, rfl⟩
    · intro v w6 hI hd _
      have h1 : v 0 = _ := hd 0 (by kernel_rfl)
      clear hd R2
      go_light
      refine ⟨?_⟩
      unfold Gives
      simp only [fillL]
      go_simp
      exact ⟨Below.refl _ _, hI, rfl⟩
    · intro v w6 hI hd _
      have h1 : v 1 = _ := hd 1 (by kernel_rfl)
      have e1 := cell_later R2.cbox hI
      clear hd R2
      go_light
      refine ⟨?_⟩
      unfold Gives
      simp only [fillL]
      go_simp
      exact ⟨Below.refl _ _, hI, rfl⟩
    · intro v w6 hI hd _
      have h1 : v 2 = _ := hd 2 (by kernel_rfl)
      clear hd R2
      go_light
      refine ⟨?_⟩
      unfold Gives
      simp only [fillL]
      go_simp
      exact ⟨Below.refl _ _, hI, rfl⟩
    · intro v w6 hI hd _
      have h1 : v 3 = _ := hd 3 (by kernel_rfl)
      clear hd R2
      go_light
      obtain ⟨w7, hrun, s7, g7⟩ := mk_run w6 W.heap.size hs.length (by omega) hI.size
      have b7 := below_of_grown g7 (Nat.le_refl _) (fun _ hk => by cases hk)
      refine ⟨?_⟩
      unfold Gives
      simp only [fillL]
      go_simp
      exact ⟨b7, bstep hI b7, ⟨_, rfl, s7⟩, fun y hy => TMk.new_l hy⟩
    · intro v w6 hI _ _
      clear R2
      go_light
      refine ⟨?_⟩
      unfold Gives
      simp only [fillL]
      go_simp
      exact ⟨Below.refl _ _, hI, rfl⟩
    · intro v w6 hI hd _
      have h1 : v 5 = _ := hd 5 (by kernel_rfl)
      clear hd R2
      go_light
      refine ⟨?_⟩
      unfold Gives
      simp only [fillL]
      go_simp
      exact ⟨Below.refl _ _, hI, rfl⟩
    · intro v w6 hI hd _
      have h1 : v 6 = _ := hd 6 (by kernel_rfl)
      have e1 := cell_later R2.cbox hI
      clear hd R2
      go_light
      refine ⟨?_⟩
      unfold Gives
      simp only [fillL]
      go_simp
      exact ⟨Below.refl _ _, hI, rfl⟩
    · intro v w6 hI hd _
      have h1 : v 7 = _ := hd 7 (by kernel_rfl)
      clear hd R2
      go_light
      refine ⟨?_⟩
      unfold Gives
      simp only [fillL]
      go_simp
      exact ⟨Below.refl _ _, hI, rfl⟩
    · intro v w6 hI hd _
      have h1 : v 8 = _ := hd 8 (by kernel_rfl)
      clear hd R2
      go_light
      obtain ⟨w7, hrun, s7, g7⟩ := mk_run w6 W.heap.size hs.length (by omega) hI.size
      have b7 := below_of_grown g7 (Nat.le_refl _) (fun _ hk => by cases hk)
      refine ⟨?_⟩
      unfold Gives
      simp only [fillL]
      go_simp
      exact ⟨b7, bstep hI b7, ⟨_, rfl, s7⟩, fun y hy => TMk.new_r hy⟩
    · intro v w6 hI hd hD
      obtain ⟨b, h1, s1⟩ := hd 4 (by kernel_rfl)
      obtain ⟨c, h2, s2⟩ := hd 9 (by kernel_rfl)
      have hne := hD (by kernel_rfl) (by kernel_rfl) b c h1 h2
      clear hd hD R2
      go_light
      refine ⟨?_⟩
      unfold Gives
      simp only [fillL]
      go_simp
      exact ⟨Below.refl _ _, hI, ⟨b, c, rfl, s1, s2, hne⟩⟩
    · intro v w6 hI _ _
      have hz := hI.size
      clear R2
      go_light
      refine ⟨?_⟩
      unfold Gives
      simp only [fillL]
      go_simp
      exact ⟨(Below.refl _ _).alloc (Nat.le_refl _) _, bstep hI ((Below.refl _ _).alloc (Nat.le_refl _) _), ⟨_, rfl, hz, heap_alloc_new _ _⟩⟩
    · intro v w6 hI hall _
      obtain ⟨b, c, h1, s1, s2, hne⟩ := hall 10 (by decide)
      obtain ⟨r, h2, hr, hh⟩ := hall 11 (by decide)
      have hrlt : r < w6.heap.size := (Array.getElem?_eq_some_iff.1 hh).1
      have k0 : w6.cell? ⟨r, 0, none⟩ = some (.slice none 0 0) := by simp [World.cell?, hh]
      have k1 : w6.cell? ⟨r, 1, none⟩ = some (.slice none 0 0) := by simp [World.cell?, hh]
      have f0 : w6.frozen? ⟨r, 0, none⟩ = false := by simp [World.frozen?, hh]
      have f1 : w6.frozen? ⟨r, 1, none⟩ = false := by simp [World.frozen?, hh]
      have HH := Lib.hid hh
      obtain ⟨cu, q1⟩ := s1.heap_
      obtain ⟨cu', q2⟩ := s2.heap_
      have nb := ne_type q1 hh (by decide)
      have nc := ne_type q2 hh (by decide)
      clear hall R2 hh q1 q2
      go_light
      refine ⟨?_⟩
      unfold Gives
      simp only [fillL]
      go_simp
      have g1 := heap_setCell_same w6 r 0 _ _ (.slice (some ⟨b, 0, none⟩) hs.length hs.length) HH.out
      have g2 := heap_setCell_same _ r 1 _ _ (.slice (some ⟨c, 0, none⟩) hs.length hs.length) g1
      exact ⟨r, (upd_ne v _ (by decide)).trans h2, b, c, ⟨g2.trans (by simp), (s1.farS nb).farS nb, (s2.farS nc).farS nc, hne, hr, (hI.setCell (by simpa using hr) _).setCell (by simpa using hr) _⟩⟩
  · intro v w1 hF
    obtain ⟨r, b, c, hv, F⟩ := hF
    have R3 := R2.below F.bel
    have cb := R3.cbox
    have pl := R3.plt
    have HR2 := Lib.hid R2
    refine ⟨?_⟩
    simp only [fillL]
    go_simp
    clear R2
    have HF := Lib.hid F
    clear F
    go_wp2_with fail
    clear cb pl R3
    go_loopw [21] (fun i wr => ∃ k : Nat, k ≤ hs.length ∧ i = .int .i64 k ∧ FrMade W hs.length r b c (copTo hs k) (copTo ls k) wr) (fun i _ => hs.length - (intOf i).toNat)
    case atStart => exact ⟨0, Nat.zero_le _, rfl, by rw [copTo_zero, copTo_zero, ← HR1.out.len]; exact HF.out⟩
    case round =>
      obtain ⟨k, hk, rfl, F⟩ := hrel
      have c0 := F.c0
      have c1 := F.c1
      have rl := F.rlt
      have ⟨nb, nc⟩ := F.rne
      have hbl : b < wr.heap.size := (F.hi.lt b rfl).2
      have hcl : c < wr.heap.size := (F.lo.lt c rfl).2
      have R3 := HR2.out.below F.bel
      have gl := R3.glt
      by_cases hlt : k < hs.length
      · have k2 : k < ls.length := by have := HR1.out.len; omega
        have e1 := R3.chi hlt
        have e2 := R3.clo hlt
        have d1 := F.hi.cell (j := k) (by rw [copTo_len hs k hk]; exact hlt)
        have d2 := F.lo.cell (j := k) (by rw [copTo_len ls k (by omega)]; exact k2)
        have f1 := F.hi.free k
        have f2 := F.lo.free k
        have nbc := F.ne
        have HS := Lib.hid (F.step k (nth hs k) (nth ls k))
        have u0 : 0 ≤ (k : Int) := by omega
        have u1 : (k : Int) < hs.length := by omega
        clear R3 F
        go_wp2_with fail
        go_roundw
        case rel => exact ⟨k + 1, by omega, by go_num, by rw [← copTo_succ hs k hlt, ← copTo_succ ls k k2]; exact HS.out _⟩
        case measure => simp [intOf]; omega
      · obtain rfl : k = hs.length := by omega
        have a0 := F.bel.block w.heap.size (by rw [HW.out]; omega)
        rw [HRET.out] at a0
        have x0 : wr.cell? ⟨w.heap.size, 0, none⟩ = some (.slice none 0 0) := by simp [World.cell?, a0]
        have x1 : wr.cell? ⟨w.heap.size, 1, none⟩ = some (.slice none 0 0) := by simp [World.cell?, a0]
        have f0 : wr.frozen? ⟨w.heap.size, 0, none⟩ = false := by simp [World.frozen?, a0]
        have f1 : wr.frozen? ⟨w.heap.size, 1, none⟩ = false := by simp [World.frozen?, a0]
        have hwl : w.heap.size < wr.heap.size := by have := F.bel.size; rw [HW.out] at this; omega
        have HF2 := Lib.hid F
        have HLe := Lib.hid HR1.out.len
        clear R3 F a0
        go_wp2_with fail
        refine bodyPost_ret (v := .agg #[.slice (some ⟨b, 0, none⟩) hs.length hs.length, .slice (some ⟨c, 0, none⟩) hs.length hs.length]) (by simp [results, Tryd.results30, go_sem, *]) rfl ?_
        have F := HF2.out
        have hbb : W.heap.size ≤ b := (F.hi.lt b rfl).1
        have hcb : W.heap.size ≤ c := (F.lo.lt c rfl).1
        have hW := HW.out
        have hi := ((F.hi.farS (g := w.heap.size) (j := 0) (u := .slice (some ⟨b, 0, none⟩) hs.length hs.length) (by omega)).farS (g := w.heap.size) (j := 1) (u := .slice (some ⟨c, 0, none⟩) hs.length hs.length) (by omega)).down (B := w.heap.size) (by omega)
        have lo := ((F.lo.farS (g := w.heap.size) (j := 0) (u := .slice (some ⟨b, 0, none⟩) hs.length hs.length) (by omega)).farS (g := w.heap.size) (j := 1) (u := .slice (some ⟨c, 0, none⟩) hs.length hs.length) (by omega)).down (B := w.heap.size) (by omega)
        have hl := HLe.out
        rw [copTo_all] at hi
        have e := copTo_all ls
        rw [← hl] at e
        rw [e] at lo
        refine ⟨some ⟨b, 0, none⟩, some ⟨c, 0, none⟩, hs.length, hs.length, by rw [← hl], ⟨hi, lo, fun k hk he => ?_⟩, ((bstep HB0.out F.bel).setCell (by simp) _).setCell (by simp) _⟩
        simp [blk] at hk he
        exact F.ne (by omega)
end Go.Proofs.YtfdbhaojdccomaaDoor
