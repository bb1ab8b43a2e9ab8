/- What l92Frame draws: a frame of few rods. -/
import Derived.Test.YtfdbhaojdccomaaFrBx
import Derived.Test.YtfdbhaojdccomaaPickI
import Derived.Deep.Light
namespace Go.Proofs.Ytfdbhaojdccomaa
open Go.RowKit

/-- The slice lies in new memory, and reads as zs. -/
def RdN (w : World) (base : Nat) (A : Option Addr) (zs : List Int) : Prop := zs ≠ [] → ∃ b off, A = some ⟨b, off, none⟩ ∧ base ≤ b ∧ ∀ j, j < zs.length → w.cell? ⟨b, off + j, none⟩ = some (.int .i64 (nth zs j))
/-- A frame is drawn. -/
structure FrDr (W w : World) (B0 g m : Nat) (A B : Option Addr) (hs ls : List Int) : Prop where
  hi : RdN w W.heap.size A hs
  lo : RdN w W.heap.size B ls
  lh : hs.length ≤ 8
  ll : ls.length ≤ 8
  rdy : RdyI B0 w g m
  gr : W.grownBy w (some g)
def FrDrawn (B0 g m : Nat) (w : World) (e : Ending) (w' : World) : Prop := ∃ A B c d hs ls, e = .returned (.agg #[.slice A hs.length c, .slice B ls.length d]) ∧ FrDr w w' B0 g m A B hs ls

theorem RdN.of {w : World} {b0 base c : Nat} {A : Option Addr} {zs : List Int} (h : Sl w base A c zs) (hb : b0 ≤ base) : RdN w b0 A zs := fun hn => by
  obtain ⟨g, rfl, h1, _⟩ := h.addr hn
  exact ⟨g, 0, rfl, by omega, fun j hj => by rw [Nat.zero_add]; exact h.cell hj⟩
theorem RdN.tail_ {w : World} {b0 base c b : Nat} {zs : List Int} (h : Sl w base (some ⟨b, 0, none⟩) c zs) (hb : b0 ≤ base) : RdN w b0 (some ⟨b, 1, none⟩) zs.tail := fun _ => by
  have hbb := (h.lt b rfl).1
  refine ⟨b, 1, rfl, by omega, fun j hj => ?_⟩
  have hj' : 1 + j < zs.length := by simp at hj; omega
  rw [h.cell hj']
  cases zs with
  | nil => simp at hj
  | cons z zs => simp [nth, Nat.add_comm 1 j]
theorem FrBx.done {w W wr : World} {g r B0 M : Nat} {A B : Option Addr} {c d : Nat} {xs ys : List Int} {u u' : Value} (F : FrBx W wr g r A B c d xs ys) (hW : W.heap.size = w.heap.size + 1) (hB : Below w.heap.size w W) (hR : RdyI B0 wr g M) (hB0 : B0 ≤ w.heap.size) (lh : xs.length ≤ 8) (ll : ys.length ≤ 8) :
    FrDr w ((wr.setCell ⟨w.heap.size, 0, none⟩ u).setCell ⟨w.heap.size, 1, none⟩ u') B0 g M A B xs ys := by
  have ha := (F.fr.hi.farN (g := w.heap.size) (j := 0) (u := u) (fun k hk => by have := (F.fr.hi.lt k hk).1; omega)).farN (g := w.heap.size) (j := 1) (u := u') (fun k hk => by have := (F.fr.hi.lt k hk).1; omega)
  have hb := (F.fr.lo.farN (g := w.heap.size) (j := 0) (u := u) (fun k hk => by have := (F.fr.lo.lt k hk).1; omega)).farN (g := w.heap.size) (j := 1) (u := u') (fun k hk => by have := (F.fr.lo.lt k hk).1; omega)
  refine ⟨RdN.of ha (by omega), RdN.of hb (by omega), lh, ll, ?_, ?_⟩
  · exact (hR.own (grownBy_set wr w.heap.size 0 u) (fun j hj => by injection hj; omega)).own (grownBy_set _ w.heap.size 1 u') (fun j hj => by injection hj; omega)
  · have h1 := grownBy_trans (grownBy_of_below hB (some g)) F.gr
    exact grown_le (grown_le h1 (grownBy_set wr w.heap.size 0 u) (fun j hj => by injection hj; omega)) (grownBy_set _ w.heap.size 1 u') (fun j hj => by injection hj; omega)
theorem FrBx.doneT {w W wr : World} {g r B0 M b : Nat} {A : Option Addr} {c d : Nat} {xs ys : List Int} {u u' : Value} {v : Value} {j : Nat} (B' : Option Addr) (ls' : List Int) (F : FrBx W wr g r A (some ⟨b, 0, none⟩) c d xs ys) (hW : W.heap.size = w.heap.size + 1) (hB : Below w.heap.size w W) (hR : RdyI B0 wr g M) (hB0 : B0 ≤ w.heap.size) (lh : xs.length ≤ 8) (ll : ls'.length ≤ 8)
    (hlo : ∀ w', Sl w' W.heap.size (some ⟨b, 0, none⟩) d ys → RdN w' w.heap.size B' ls') :
    FrDr w (((wr.setCell ⟨r, j, none⟩ v).setCell ⟨w.heap.size, 0, none⟩ u).setCell ⟨w.heap.size, 1, none⟩ u') B0 g M A B' xs ls' := by
  have hr := F.rb
  have ha := ((F.fr.hi.farN (g := r) (j := j) (u := v) (F.fr.hi.ne_box F.box)).farN (g := w.heap.size) (j := 0) (u := u) (fun k hk => by have := (F.fr.hi.lt k hk).1; omega)).farN (g := w.heap.size) (j := 1) (u := u') (fun k hk => by have := (F.fr.hi.lt k hk).1; omega)
  have hb := ((F.fr.lo.farN (g := r) (j := j) (u := v) (F.fr.lo.ne_box F.box)).farN (g := w.heap.size) (j := 0) (u := u) (fun k hk => by have := (F.fr.lo.lt k hk).1; omega)).farN (g := w.heap.size) (j := 1) (u := u') (fun k hk => by have := (F.fr.lo.lt k hk).1; omega)
  refine ⟨RdN.of ha (by omega), hlo _ hb, lh, ll, ?_, ?_⟩
  · exact ((hR.own (grownBy_set wr r j v) (fun i hi => by injection hi; omega)).own (grownBy_set _ w.heap.size 0 u) (fun j hj => by injection hj; omega)).own (grownBy_set _ w.heap.size 1 u') (fun j hj => by injection hj; omega)
  · have h1 := grownBy_trans (grownBy_of_below hB (some g)) F.gr
    exact grown_le (grown_le (grown_le h1 (grownBy_set wr r j v) (fun i hi => by injection hi; omega)) (grownBy_set _ w.heap.size 0 u) (fun j hj => by injection hj; omega)) (grownBy_set _ w.heap.size 1 u') (fun j hj => by injection hj; omega)
theorem FrDr.more {W w : World} {B0 g m m' : Nat} {A B : Option Addr} {hs ls : List Int} (h : FrDr W w B0 g m A B hs ls) (hm : m ≤ m') : FrDr W w B0 g m' A B hs ls := ⟨h.hi, h.lo, h.lh, h.ll, h.rdy.more hm, h.gr⟩

/-- What the operations of 'f.X[0] = []int{..}[r.pick(2)]' give. -/
def asT (r fo g b len c : Nat) (tab : List Int) (lo hi : Int) : Nat → World → Value → Prop
  | 0, _, v => v = .pointer (some ⟨r, fo, none⟩)
  | 1, _, v => v = .slice (some ⟨b, 0, none⟩) len c
  | 2, w, v => TTab g tab w v
  | 3, w, v => TRdr g w v
  | 4, w, v => TInt 0 1 w v
  | 5, w, v => TAdr g lo hi w v
  | 6, w, v => TInt lo hi w v
  | _, _, v => v = .pointer (some ⟨b, 0, none⟩)
def asR (g i : Nat) (_ : Nat → Value) (w1 w2 : World) : Prop := if i = 4 then w1.grownBy w2 (some g) else Below w1.heap.size w1 w2
theorem asR_of {g i : Nat} {v : Nat → Value} {w1 w2 : World} (h : i ≠ 4) (hb : Below w1.heap.size w1 w2) : asR g i v w1 w2 := by rw [asR, if_neg h]; exact hb
theorem asR_4 {g : Nat} {v : Nat → Value} {w1 w2 : World} (h : w1.grownBy w2 (some g)) : asR g 4 v w1 w2 := by rw [asR, if_pos rfl]; exact h
theorem asR_g {g i : Nat} {v : Nat → Value} {w1 w2 : World} (h : asR g i v w1 w2) : w1.grownBy w2 (some g) := by
  unfold asR at h
  split at h
  · exact h
  · exact grownBy_of_below h _
theorem asT_stable {l : List Oper} {r fo g b len c n : Nat} {tab : List Int} {lo hi : Int} : StableU l (asR g) (asT r fo g b len c tab lo hi) (fun _ => 100) 0 1 (fun _ _ => True) n := by
  intro i j v w1 w2 _ _ _ _ hR hT
  have hg := asR_g hR
  match j, hT with
  | 0, h => exact h
  | 1, h => exact h
  | 2, h => exact TTab.keep h hg
  | 3, h => exact h
  | 4, h => exact h
  | 5, h => exact TAdr.keep h hg
  | 6, h => exact h
  | _ + 7, h => exact h

set_option maxRecDepth 100000 in
set_option maxHeartbeats 2000000 in
theorem l92Frame (B0 g m n : Nat) (w : World) (h : RdyI B0 w g m) (hB : B0 ≤ w.heap.size) (hm : m ≤ 1000000) (hn : n ≤ 8) (n1 : 1 ≤ n) :
    Calls Try.prog 53 #[.pointer (some ⟨g, 0, none⟩), .int .i64 (n : Int)] w (FrDrawn B0 g (m + 20) w) := by
  have hgw := h.lt
  have hW : (w.alloc (.cells #[.slice none 0 0, .slice none 0 0] 27)).heap.size = w.heap.size + 1 := by simp
  have hret : (w.alloc (.cells #[.slice none 0 0, .slice none 0 0] 27)).heap[w.heap.size]? = some (.cells #[.slice none 0 0, .slice none 0 0] 27 (0, 0)) := heap_alloc_new _ _
  have HB := Lib.hid (below_new w (.cells #[.slice none 0 0, .slice none 0 0] 27))
  have HR := Lib.hid (h.below HB.out)
  have HW := Lib.hid hW
  have HRET := Lib.hid hret
  clear hW hret h
  go_enter Try.func53, Try.ntmps53
  go_wp2_with fail
  generalize w.alloc (.cells #[.slice none 0 0, .slice none 0 0] 27) = W at *
  have HF0 := Lib.hid (FrBx.new W g (by rw [HW.out]; omega))
  rw [HW.out] at HF0
  go_loopw [6] (fun i wr => ∃ (k : Nat) (A B : Option Addr) (c d : Nat) (xs ys : List Int), k ≤ n ∧ i = .int .i64 k ∧ xs.length = k ∧ ys.length = k ∧ FrBx W wr g (w.heap.size + 3) A B c d xs ys ∧ RdyI B0 wr g (m + 2 * k)) (fun i _ => n - (intOf i).toNat)
  case atStart => exact ⟨0, _, _, _, _, [], [], Nat.zero_le _, rfl, rfl, rfl, HF0.out, ((HR.out.below (below_new _ _)).below (below_new _ _)).below (below_new _ _)⟩
  case round =>
    obtain ⟨k, A, B, c, d, xs, ys, hk, rfl, hx, hy, FB, hrd⟩ := hrel
    have HX := Lib.hid hx
    have HY := Lib.hid hy
    have lx : xs.length ≤ 8 := by omega
    have ly : ys.length ≤ 8 := by omega
    clear hx hy
    by_cases hlt : k < n
    · go_wp2_with fail
      refine (pickI B0 g (m + 2 * k) 10 wr hrd (by omega) (by omega) (by omega)).mono ?_
      rintro e wq ⟨x, rfl, x0, x1, hrq, gq⟩
      have FBq := FB.pick gq
      clear FB hrd gq
      by_cases hk1 : k + 1 = n
      · have hd21 : ((k : Int) == (n : Int) - 1) = true := by rw [beq_iff_eq]; omega
        go_wp2_with fail
        refine (pickI B0 g (m + 2 * k + 1) 3 wq hrq (by omega) (by omega) (by omega)).mono ?_
        rintro e wz ⟨y, rfl, y0, y1, hrz, gz⟩
        have FBz := FBq.pick gz
        clear FBq hrq gz
        have FBq := FBz
        have hrq := hrz
        clear FBz hrz
        by_cases hy0 : y = 0
        · subst hy0
          have c0 : wz.cell? ⟨w.heap.size + 3, 0, none⟩ = some (.slice A xs.length c) := by simp [World.cell?, FBq.box]
          have c1 : wz.cell? ⟨w.heap.size + 3, 1, none⟩ = some (.slice B ys.length d) := by simp [World.cell?, FBq.box]
          have rl := FBq.rlt
          have hzq := FBq.size
          go_wp2_with (at_builtin; refine wp_ap1 _ _ rfl rfl wz W.heap.size A c xs _ rfl rfl FBq.fr.hi (by omega) hzq ?_; intro A1 c2 w1 s1 g1 t1; refine Hid.out ?_)
          have FB1 := FBq.stepH s1 g1 t1
          have HR1 := Lib.hid ((hrq.own g1 (fun j hj => by have := (FBq.fr.hi.lt j hj).1; have := HW.out; omega)).own (grownBy_set w1 (w.heap.size + 3) 0 (.slice A1 (xs.length + 1) c2)) (fun j hj => by injection hj; omega))
          obtain ⟨x0', x1', f0, f1, xl⟩ := box_facts (FBq.midH g1)
          simp only [List.length_append, List.length_cons, List.length_nil, Nat.zero_add] at FB1
          have hz1 := FB1.size
          have HFB := Lib.hid FB1
          clear FBq FB1 c0 c1
          refine Lib.hid ?_
          go_wp2_with (at_builtin; refine wp_ap1 _ _ rfl rfl (w1.setCell ⟨w.heap.size + 3, 0, none⟩ (.slice A1 (xs.length + 1) c2)) W.heap.size B d ys _ rfl (by first | rfl | (go_simp; done) | simp) HFB.out.fr.lo (by omega) hz1 ?_; intro B1 d2 w2 s2 g2 t2; refine Hid.out ?_)
          have FB2 := HFB.out.stepL s2 g2 t2
          have HR2 := Lib.hid ((HR1.out.own g2 (fun j hj => by have := (HFB.out.fr.lo.lt j hj).1; have := HW.out; omega)).own (grownBy_set w2 (w.heap.size + 3) 1 (.slice B1 (ys.length + 1) d2)) (fun j hj => by injection hj; omega))
          clear x0' x1' f0 f1 xl
          obtain ⟨x0', x1', f0, f1, xl⟩ := box_facts (HFB.out.midL g2)
          simp only [List.length_append, List.length_cons, List.length_nil, Nat.zero_add] at FB2
          have HFB2 := Lib.hid FB2
          clear FB2 HFB HR1
          refine Lib.hid ?_
          go_wp2_with fail
          go_roundw
          case rel => exact ⟨k + 1, A1, B1, c2, d2, _, _, by omega, by go_num, by rw [List.length_append]; simp [HX.out], by rw [List.length_append]; simp [HY.out], HFB2.out, HR2.out.more (by omega)⟩
          case measure => simp [intOf]; omega
        · have hyd : (y == 0) = false := beq_eq_false_iff_ne.2 hy0
          have c0 : wz.cell? ⟨w.heap.size + 3, 0, none⟩ = some (.slice A xs.length c) := by simp [World.cell?, FBq.box]
          have c1 : wz.cell? ⟨w.heap.size + 3, 1, none⟩ = some (.slice B ys.length d) := by simp [World.cell?, FBq.box]
          have rl := FBq.rlt
          have hzq := FBq.size
          go_wp2_with (at_builtin; refine wp_ap1 _ _ rfl rfl wz W.heap.size A c xs _ rfl rfl FBq.fr.hi (by omega) hzq ?_; intro A1 c2 w1 s1 g1 t1; refine Hid.out ?_)
          have FB1 := FBq.stepH s1 g1 t1
          have HR1 := Lib.hid ((hrq.own g1 (fun j hj => by have := (FBq.fr.hi.lt j hj).1; have := HW.out; omega)).own (grownBy_set w1 (w.heap.size + 3) 0 (.slice A1 (xs.length + 1) c2)) (fun j hj => by injection hj; omega))
          obtain ⟨x0', x1', f0, f1, xl⟩ := box_facts (FBq.midH g1)
          simp only [List.length_append, List.length_cons, List.length_nil, Nat.zero_add] at FB1
          have hz1 := FB1.size
          have HFB := Lib.hid FB1
          clear FBq FB1 c0 c1
          refine Lib.hid ?_
          go_wp2_with (at_builtin; refine wp_ap1 _ _ rfl rfl (w1.setCell ⟨w.heap.size + 3, 0, none⟩ (.slice A1 (xs.length + 1) c2)) W.heap.size B d ys _ rfl (by first | rfl | (go_simp; done) | simp) HFB.out.fr.lo (by omega) hz1 ?_; intro B1 d2 w2 s2 g2 t2; refine Hid.out ?_)
          have FB2 := HFB.out.stepL s2 g2 t2
          have HR2 := Lib.hid ((HR1.out.own g2 (fun j hj => by have := (HFB.out.fr.lo.lt j hj).1; have := HW.out; omega)).own (grownBy_set w2 (w.heap.size + 3) 1 (.slice B1 (ys.length + 1) d2)) (fun j hj => by injection hj; omega))
          clear x0' x1' f0 f1 xl
          obtain ⟨x0', x1', f0, f1, xl⟩ := box_facts (HFB.out.midL g2)
          simp only [List.length_append, List.length_cons, List.length_nil, Nat.zero_add] at FB2
          have HFB2 := Lib.hid FB2
          clear FB2 HFB HR1
          refine Lib.hid ?_
          go_wp2_with fail
          go_roundw
          case rel => exact ⟨k + 1, A1, B1, c2, d2, _, _, by omega, by go_num, by rw [List.length_append]; simp [HX.out], by rw [List.length_append]; simp [HY.out], HFB2.out, HR2.out.more (by omega)⟩
          case measure => simp [intOf]; omega
      · have hd21 : ((k : Int) == (n : Int) - 1) = false := beq_eq_false_iff_ne.2 (by omega)
        have c0 : wq.cell? ⟨w.heap.size + 3, 0, none⟩ = some (.slice A xs.length c) := by simp [World.cell?, FBq.box]
        have c1 : wq.cell? ⟨w.heap.size + 3, 1, none⟩ = some (.slice B ys.length d) := by simp [World.cell?, FBq.box]
        have rl := FBq.rlt
        have hzq := FBq.size
        go_wp2_with (at_builtin; refine wp_ap1 _ _ rfl rfl wq W.heap.size A c xs _ rfl rfl FBq.fr.hi (by omega) hzq ?_; intro A1 c2 w1 s1 g1 t1; refine Hid.out ?_)
        have FB1 := FBq.stepH s1 g1 t1
        have HR1 := Lib.hid ((hrq.own g1 (fun j hj => by have := (FBq.fr.hi.lt j hj).1; have := HW.out; omega)).own (grownBy_set w1 (w.heap.size + 3) 0 (.slice A1 (xs.length + 1) c2)) (fun j hj => by injection hj; omega))
        obtain ⟨x0', x1', f0, f1, xl⟩ := box_facts (FBq.midH g1)
        simp only [List.length_append, List.length_cons, List.length_nil, Nat.zero_add] at FB1
        have hz1 := FB1.size
        have HFB := Lib.hid FB1
        clear FBq FB1 c0 c1
        refine Lib.hid ?_
        go_wp2_with (at_builtin; refine wp_ap1 _ _ rfl rfl (w1.setCell ⟨w.heap.size + 3, 0, none⟩ (.slice A1 (xs.length + 1) c2)) W.heap.size B d ys _ rfl (by first | rfl | (go_simp; done) | simp) HFB.out.fr.lo (by omega) hz1 ?_; intro B1 d2 w2 s2 g2 t2; refine Hid.out ?_)
        have FB2 := HFB.out.stepL s2 g2 t2
        have HR2 := Lib.hid ((HR1.out.own g2 (fun j hj => by have := (HFB.out.fr.lo.lt j hj).1; have := HW.out; omega)).own (grownBy_set w2 (w.heap.size + 3) 1 (.slice B1 (ys.length + 1) d2)) (fun j hj => by injection hj; omega))
        clear x0' x1' f0 f1 xl
        obtain ⟨x0', x1', f0, f1, xl⟩ := box_facts (HFB.out.midL g2)
        simp only [List.length_append, List.length_cons, List.length_nil, Nat.zero_add] at FB2
        have HFB2 := Lib.hid FB2
        clear FB2 HFB HR1
        refine Lib.hid ?_
        go_wp2_with fail
        go_roundw
        case rel => exact ⟨k + 1, A1, B1, c2, d2, _, _, by omega, by go_num, by rw [List.length_append]; simp [HX.out], by rw [List.length_append]; simp [HY.out], HFB2.out, HR2.out.more (by omega)⟩
        case measure => simp [intOf]; omega
    · obtain rfl : k = n := by omega
      go_wp2_with fail
      refine (pickI B0 g (m + 2 * k) 40 wr hrd (by omega) (by omega) (by omega)).mono ?_
      rintro e wq ⟨y, rfl, y0, y1, hrq, gq⟩
      have FBq := FB.pick gq
      clear FB hrd gq
      have hn0 : xs ≠ [] := fun h => by have := HX.out; rw [h] at this; simp at this; omega
      have hn1 : ys ≠ [] := fun h => by have := HY.out; rw [h] at this; simp at this; omega
      obtain ⟨a, rfl, _, _⟩ := FBq.fr.hi.addr hn0
      obtain ⟨b, rfl, _, _⟩ := FBq.fr.lo.addr hn1
      have pos1 : 0 < xs.length := List.length_pos_iff.2 hn0
      have pos2 : 0 < ys.length := List.length_pos_iff.2 hn1
      have HN := Lib.hid (And.intro hn0 hn1)
      clear hn0 hn1
      by_cases h0 : y = 0
      · subst h0
        have hpos := pos1
        go_wp2_with fail
        refine wp_region_use (asR g) (fun w' => wq.grownBy w' (some g) ∧ RdyI B0 w' g (m + 2 * k + 2)) (fun w' => RdyI B0 w' g (m + 2 * k + 1)) 4 (asT (w.heap.size + 3) 0 g a xs.length c [(-1), 2] (-1) 2) (fun _ => 100) 0 1 (fun _ _ => True)
          (fun _ w' => ∃ z, FrBx W w' g (w.heap.size + 3) (some ⟨a, 0, none⟩) (some ⟨b, 0, none⟩) c d (xs.set 0 z) ys ∧ RdyI B0 w' g (m + 2 * k + 2)) 8 (by kernel_rfl) (by kernel_rfl) asT_stable (fun i v w1 w2 hi hR hj => by rw [asR, if_neg hi] at hR; exact hj.below hR) ⟨grownBy_of_below (Below.refl _ _).drew _, (hrq.below (Below.refl _ _).drew).more (by omega)⟩ (hrq.below (Below.refl _ _).drew) ?_ ?_
        · refine lawsU_cons rfl ?_ (lawsU_cons rfl ?_ (lawsU_cons rfl ?_ (lawsU_cons rfl ?_ (lawsU_cons rfl ?_ (lawsU_cons rfl ?_ (lawsU_cons rfl ?_ (lawsU_cons rfl ?_ (lawsU_last rfl ?_))))))))
          · intro v w6 hI _ hd _
            go_light
            refine ⟨?_⟩
            unfold Gives
            simp only [fillL]
            go_simp
            exact ⟨asR_of (by decide) (Below.refl _ _), hI, rfl⟩
          · intro v w6 hI _ hd _
            have h1 : v 0 = _ := hd 0 (by kernel_rfl) rfl
            have e1 : w6.cell? ⟨w.heap.size + 3, 0, none⟩ = some (.slice (some ⟨a, 0, none⟩) xs.length c) := by simp [World.cell?, (FBq.pick hI.1).box]
            clear hd
            go_light
            refine ⟨?_⟩
            unfold Gives
            simp only [fillL]
            go_simp
            exact ⟨asR_of (by decide) (Below.refl _ _), hI, rfl⟩
          · intro v w6 hI _ hd _
            have hg6 := hI.2.lt
            go_light
            refine ⟨?_⟩
            unfold Gives
            simp only [fillL]
            go_simp
            exact ⟨asR_of (by decide) (below_new _ _), ⟨grownBy_trans hI.1 (grownBy_of_below (below_new _ _) _), hI.2.below (below_new _ _)⟩, TTab.new (zs := [(-1), 2]) hg6 _ rfl⟩
          · intro v w6 hI _ hd _
            go_light
            refine ⟨?_⟩
            unfold Gives
            simp only [fillL]
            go_simp
            exact ⟨asR_of (by decide) (Below.refl _ _), hI, rfl⟩
          · intro v w6 hI hJ hd _
            have h1 : v 3 = _ := hd 3 (by kernel_rfl) rfl
            have hJ6 := hJ rfl
            clear hd hJ
            go_light
            refine ⟨?_⟩
            unfold Gives
            simp only [fillL]
            go_simp
            refine (pickI B0 g (m + 2 * k + 1) 2 w6 hJ6 (by omega) (by omega) (by omega)).mono ?_
            rintro e w7 ⟨z, rfl, z0, z1, r7, g7⟩
            exact ⟨_, rfl, asR_4 g7, ⟨grownBy_trans hI.1 g7, r7⟩, z, rfl, z0, by omega⟩
          · intro v w6 hI _ hd _
            obtain ⟨x, h0, hb, hlt, hc⟩ : TTab g [(-1), 2] w6 (v 2) := hd 2 (by kernel_rfl) rfl
            obtain ⟨j, h1, j0, j1⟩ : TInt 0 1 w6 (v 4) := hd 4 (by kernel_rfl) rfl
            have k0 := hc 0 (by simp)
            have k1 := hc 1 (by simp)
            clear hd hc
            go_light
            simp at h0
            rcases (show j = 0 ∨ j = 1 by omega) with rfl | rfl
            all_goals
              refine ⟨?_⟩
              unfold Gives
              simp only [fillL]
              go_simp
            · exact ⟨asR_of (by decide) (Below.refl _ _), hI, x, 0, (-1), rfl, hb, hlt, k0, by omega, by omega⟩
            · exact ⟨asR_of (by decide) (Below.refl _ _), hI, x, 1, 2, rfl, hb, hlt, k1, by omega, by omega⟩
          · intro v w6 hI _ hd _
            obtain ⟨x, j, z, h0, hb, hlt, hc, z0, z1⟩ : TAdr g (-1) 2 w6 (v 5) := hd 5 (by kernel_rfl) rfl
            clear hd
            go_light
            refine ⟨?_⟩
            unfold Gives
            simp only [fillL]
            go_simp
            exact ⟨asR_of (by decide) (Below.refl _ _), hI, z, rfl, z0, z1⟩
          · intro v w6 hI _ hd _
            have h1 : v 1 = _ := hd 1 (by kernel_rfl) rfl
            clear hd
            go_light
            refine ⟨?_⟩
            unfold Gives
            simp only [fillL]
            go_simp
            exact ⟨asR_of (by decide) (Below.refl _ _), hI, rfl⟩
          · intro v w6 hI hall
            obtain ⟨z, h1, _, _⟩ : TInt (-1) 2 w6 (v 6) := hall 6 (by decide) (by decide)
            have h2 : v 7 = _ := hall 7 (by decide) (by decide)
            have F6 := FBq.pick hI.1
            have e1 := F6.fr.hi.cell (j := 0) hpos
            have e2 := F6.fr.hi.free 0
            have e3 := (F6.fr.hi.lt a rfl).2
            have F7 := F6.setH 0 z
            have hbx := (F6.fr.hi.lt a rfl).1
            have R7 := hI.2.own (grownBy_set w6 a 0 (.int .i64 z)) (fun j hj => by injection hj; have := HW.out; omega)
            clear hall
            go_light
            refine ⟨?_⟩
            unfold Gives
            simp only [fillL]
            go_simp
            exact ⟨⟨z, F7⟩, R7⟩
        intro v wx hF
        obtain ⟨z, FBx, hrx⟩ := hF
        have c0 : wx.cell? ⟨w.heap.size + 3, 0, none⟩ = some (.slice (some ⟨a, 0, none⟩) (xs.set 0 z).length c) := by simp [World.cell?, FBx.box]
        have c1 : wx.cell? ⟨w.heap.size + 3, 1, none⟩ = some (.slice (some ⟨b, 0, none⟩) ys.length d) := by simp [World.cell?, FBx.box]
        have rl := FBx.rlt
        obtain ⟨x0', x1', f0, f1, xl⟩ := box_facts ((FBx.gr.block w.heap.size (by rw [HW.out]; omega) (by simp; omega)).trans HRET.out)
        have HD := Lib.hid (fun u u' => FBx.done (u := u) (u' := u') HW.out HB.out hrx hB (by first | exact lx | (rw [List.length_set]; exact lx)) (by first | exact ly | (rw [List.length_set]; exact ly)))
        refine ⟨?_⟩
        simp only [fillL]
        go_simp
        clear FBx FBq hrx
        go_wp2_with fail
        refine bodyPost_ret (v := .agg #[.slice (some ⟨a, 0, none⟩) xs.length c, .slice (some ⟨b, 0, none⟩) ys.length d]) (by simp [results, Try.results53, go_sem, *]) rfl ?_
        exact ⟨_, _, c, d, xs.set 0 z, ys, by rw [List.length_set], (HD.out _ _).more (by omega)⟩
      by_cases h1 : y = 1
      · subst h1
        have hpos := pos2
        go_wp2_with fail
        refine wp_region_use (asR g) (fun w' => wq.grownBy w' (some g) ∧ RdyI B0 w' g (m + 2 * k + 2)) (fun w' => RdyI B0 w' g (m + 2 * k + 1)) 4 (asT (w.heap.size + 3) 1 g b ys.length d [(-1), 5] (-1) 5) (fun _ => 100) 0 1 (fun _ _ => True)
          (fun _ w' => ∃ z, FrBx W w' g (w.heap.size + 3) (some ⟨a, 0, none⟩) (some ⟨b, 0, none⟩) c d xs (ys.set 0 z) ∧ RdyI B0 w' g (m + 2 * k + 2)) 8 (by kernel_rfl) (by kernel_rfl) asT_stable (fun i v w1 w2 hi hR hj => by rw [asR, if_neg hi] at hR; exact hj.below hR) ⟨grownBy_of_below (Below.refl _ _).drew _, (hrq.below (Below.refl _ _).drew).more (by omega)⟩ (hrq.below (Below.refl _ _).drew) ?_ ?_
        · refine lawsU_cons rfl ?_ (lawsU_cons rfl ?_ (lawsU_cons rfl ?_ (lawsU_cons rfl ?_ (lawsU_cons rfl ?_ (lawsU_cons rfl ?_ (lawsU_cons rfl ?_ (lawsU_cons rfl ?_ (lawsU_last rfl ?_))))))))
          · intro v w6 hI _ hd _
            go_light
            refine ⟨?_⟩
            unfold Gives
            simp only [fillL]
            go_simp
            exact ⟨asR_of (by decide) (Below.refl _ _), hI, rfl⟩
          · intro v w6 hI _ hd _
            have h1 : v 0 = _ := hd 0 (by kernel_rfl) rfl
            have e1 : w6.cell? ⟨w.heap.size + 3, 1, none⟩ = some (.slice (some ⟨b, 0, none⟩) ys.length d) := by simp [World.cell?, (FBq.pick hI.1).box]
            clear hd
            go_light
            refine ⟨?_⟩
            unfold Gives
            simp only [fillL]
            go_simp
            exact ⟨asR_of (by decide) (Below.refl _ _), hI, rfl⟩
          · intro v w6 hI _ hd _
            have hg6 := hI.2.lt
            go_light
            refine ⟨?_⟩
            unfold Gives
            simp only [fillL]
            go_simp
            exact ⟨asR_of (by decide) (below_new _ _), ⟨grownBy_trans hI.1 (grownBy_of_below (below_new _ _) _), hI.2.below (below_new _ _)⟩, TTab.new (zs := [(-1), 5]) hg6 _ rfl⟩
          · intro v w6 hI _ hd _
            go_light
            refine ⟨?_⟩
            unfold Gives
            simp only [fillL]
            go_simp
            exact ⟨asR_of (by decide) (Below.refl _ _), hI, rfl⟩
          · intro v w6 hI hJ hd _
            have h1 : v 3 = _ := hd 3 (by kernel_rfl) rfl
            have hJ6 := hJ rfl
            clear hd hJ
            go_light
            refine ⟨?_⟩
            unfold Gives
            simp only [fillL]
            go_simp
            refine (pickI B0 g (m + 2 * k + 1) 2 w6 hJ6 (by omega) (by omega) (by omega)).mono ?_
            rintro e w7 ⟨z, rfl, z0, z1, r7, g7⟩
            exact ⟨_, rfl, asR_4 g7, ⟨grownBy_trans hI.1 g7, r7⟩, z, rfl, z0, by omega⟩
          · intro v w6 hI _ hd _
            obtain ⟨x, h0, hb, hlt, hc⟩ : TTab g [(-1), 5] w6 (v 2) := hd 2 (by kernel_rfl) rfl
            obtain ⟨j, h1, j0, j1⟩ : TInt 0 1 w6 (v 4) := hd 4 (by kernel_rfl) rfl
            have k0 := hc 0 (by simp)
            have k1 := hc 1 (by simp)
            clear hd hc
            go_light
            simp at h0
            rcases (show j = 0 ∨ j = 1 by omega) with rfl | rfl
            all_goals
              refine ⟨?_⟩
              unfold Gives
              simp only [fillL]
              go_simp
            · exact ⟨asR_of (by decide) (Below.refl _ _), hI, x, 0, (-1), rfl, hb, hlt, k0, by omega, by omega⟩
            · exact ⟨asR_of (by decide) (Below.refl _ _), hI, x, 1, 5, rfl, hb, hlt, k1, by omega, by omega⟩
          · intro v w6 hI _ hd _
            obtain ⟨x, j, z, h0, hb, hlt, hc, z0, z1⟩ : TAdr g (-1) 5 w6 (v 5) := hd 5 (by kernel_rfl) rfl
            clear hd
            go_light
            refine ⟨?_⟩
            unfold Gives
            simp only [fillL]
            go_simp
            exact ⟨asR_of (by decide) (Below.refl _ _), hI, z, rfl, z0, z1⟩
          · intro v w6 hI _ hd _
            have h1 : v 1 = _ := hd 1 (by kernel_rfl) rfl
            clear hd
            go_light
            refine ⟨?_⟩
            unfold Gives
            simp only [fillL]
            go_simp
            exact ⟨asR_of (by decide) (Below.refl _ _), hI, rfl⟩
          · intro v w6 hI hall
            obtain ⟨z, h1, _, _⟩ : TInt (-1) 5 w6 (v 6) := hall 6 (by decide) (by decide)
            have h2 : v 7 = _ := hall 7 (by decide) (by decide)
            have F6 := FBq.pick hI.1
            have e1 := F6.fr.lo.cell (j := 0) hpos
            have e2 := F6.fr.lo.free 0
            have e3 := (F6.fr.lo.lt b rfl).2
            have F7 := F6.setL 0 z
            have hbx := (F6.fr.lo.lt b rfl).1
            have R7 := hI.2.own (grownBy_set w6 b 0 (.int .i64 z)) (fun j hj => by injection hj; have := HW.out; omega)
            clear hall
            go_light
            refine ⟨?_⟩
            unfold Gives
            simp only [fillL]
            go_simp
            exact ⟨⟨z, F7⟩, R7⟩
        intro v wx hF
        obtain ⟨z, FBx, hrx⟩ := hF
        have c0 : wx.cell? ⟨w.heap.size + 3, 0, none⟩ = some (.slice (some ⟨a, 0, none⟩) xs.length c) := by simp [World.cell?, FBx.box]
        have c1 : wx.cell? ⟨w.heap.size + 3, 1, none⟩ = some (.slice (some ⟨b, 0, none⟩) (ys.set 0 z).length d) := by simp [World.cell?, FBx.box]
        have rl := FBx.rlt
        obtain ⟨x0', x1', f0, f1, xl⟩ := box_facts ((FBx.gr.block w.heap.size (by rw [HW.out]; omega) (by simp; omega)).trans HRET.out)
        have HD := Lib.hid (fun u u' => FBx.done (u := u) (u' := u') HW.out HB.out hrx hB (by first | exact lx | (rw [List.length_set]; exact lx)) (by first | exact ly | (rw [List.length_set]; exact ly)))
        refine ⟨?_⟩
        simp only [fillL]
        go_simp
        clear FBx FBq hrx
        go_wp2_with fail
        refine bodyPost_ret (v := .agg #[.slice (some ⟨a, 0, none⟩) xs.length c, .slice (some ⟨b, 0, none⟩) ys.length d]) (by simp [results, Try.results53, go_sem, *]) rfl ?_
        exact ⟨_, _, c, d, xs, ys.set 0 z, by rw [List.length_set], (HD.out _ _).more (by omega)⟩
      have d0 : (y == 0) = false := beq_eq_false_iff_ne.2 h0
      have d1 : (y == 1) = false := beq_eq_false_iff_ne.2 h1
      have FBx := FBq
      have hrx := hrq
      generalize hwx : wq = wx at *
      clear hwx
      by_cases h2 : y = 2
      · subst h2
        have c0 : wx.cell? ⟨w.heap.size + 3, 0, none⟩ = some (.slice (some ⟨a, 0, none⟩) xs.length c) := by simp [World.cell?, FBx.box]
        have c1 : wx.cell? ⟨w.heap.size + 3, 1, none⟩ = some (.slice (some ⟨b, 0, none⟩) ys.length d) := by simp [World.cell?, FBx.box]
        have rl := FBx.rlt
        obtain ⟨x0', x1', f0, f1, xl⟩ := box_facts ((FBx.gr.block w.heap.size (by rw [HW.out]; omega) (by simp; omega)).trans HRET.out)
        have HD := Lib.hid (fun u u' => FBx.done (u := u) (u' := u') HW.out HB.out hrx hB (by first | exact lx | (rw [List.length_set]; exact lx)) (by first | exact ly | (rw [List.length_set]; exact ly)))
        clear HD
        have HD := Lib.hid (fun v u u' => FBx.doneT (j := 1) (v := v) (u := u) (u' := u') (some ⟨b, 1, none⟩) ys.tail HW.out HB.out hrx hB lx (by simp; omega) (fun w' h => RdN.tail_ h (by rw [HW.out]; omega)))
        have hf := FBx.fr.lo.le
        have HD2 := Lib.hid (fun (h1 : ys.length ≤ 1) v u u' => FBx.doneT (j := 1) (v := v) (u := u) (u' := u') (some ⟨b, 0, none⟩) ys.tail HW.out HB.out hrx hB lx (by simp; omega) (fun w' h hn => absurd (List.eq_nil_of_length_eq_zero (by simp; omega)) hn))
        have fr1 : wx.frozen? ⟨w.heap.size + 3, 1, none⟩ = false := by simp [World.frozen?, FBx.box]
        clear FBx FBq hrx
        go_wp2_with fail
        · refine bodyPost_ret (v := .agg #[.slice (some ⟨a, 0, none⟩) xs.length c, .slice (some ⟨b, 0, none⟩) (ys.length - 1) 0]) (by simp [results, Try.results53, go_sem, *]) rfl ?_
          exact ⟨_, _, c, 0, xs, ys.tail, by rw [List.length_tail], (HD2.out (by omega) _ _ _).more (by omega)⟩
        · refine bodyPost_ret (v := .agg #[.slice (some ⟨a, 0, none⟩) xs.length c, .slice (some ⟨b, 1, none⟩) (ys.length - 1) (d - 1)]) (by simp [results, Try.results53, go_sem, *]) rfl ?_
          exact ⟨_, _, c, d - 1, xs, ys.tail, by rw [List.length_tail], (HD.out _ _ _).more (by omega)⟩
      · have d2 : (y == 2) = false := beq_eq_false_iff_ne.2 h2
        have c0 : wx.cell? ⟨w.heap.size + 3, 0, none⟩ = some (.slice (some ⟨a, 0, none⟩) xs.length c) := by simp [World.cell?, FBx.box]
        have c1 : wx.cell? ⟨w.heap.size + 3, 1, none⟩ = some (.slice (some ⟨b, 0, none⟩) ys.length d) := by simp [World.cell?, FBx.box]
        have rl := FBx.rlt
        obtain ⟨x0', x1', f0, f1, xl⟩ := box_facts ((FBx.gr.block w.heap.size (by rw [HW.out]; omega) (by simp; omega)).trans HRET.out)
        have HD := Lib.hid (fun u u' => FBx.done (u := u) (u' := u') HW.out HB.out hrx hB (by first | exact lx | (rw [List.length_set]; exact lx)) (by first | exact ly | (rw [List.length_set]; exact ly)))
        clear FBx FBq hrx
        go_wp2_with fail
        refine bodyPost_ret (v := .agg #[.slice (some ⟨a, 0, none⟩) xs.length c, .slice (some ⟨b, 0, none⟩) ys.length d]) (by simp [results, Try.results53, go_sem, *]) rfl ?_
        exact ⟨_, _, c, d, xs, ys, rfl, (HD.out _ _).more (by omega)⟩
end Go.Proofs.Ytfdbhaojdccomaa
