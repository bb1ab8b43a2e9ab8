/- What DrawFrameValue, DrawFrameNines, DrawFramePushes draw. -/
import Derived.Test.YtfdbhaojdccomaaDrawF
import Derived.Test.YtfdbhaojdccomaaFrEnd
namespace Go.Proofs.Ytfdbhaojdccomaa
open Go.RowKit

theorem RdN.grown {w w' : World} {base g : Nat} {A : Option Addr} {zs : List Int} (h : RdN w base A zs) (k : w.grownBy w' (some g)) (hg : g < base) : RdN w' base A zs := fun hn => by
  obtain ⟨b, off, hA, hb, hc⟩ := h hn
  exact ⟨b, off, hA, hb, fun j hj => k.cell (hc j hj) (by simp; omega)⟩
theorem RdN.down {w : World} {base b0 : Nat} {A : Option Addr} {zs : List Int} (h : RdN w base A zs) (hb : b0 ≤ base) : RdN w b0 A zs := fun hn => by
  obtain ⟨b, off, hA, h1, hc⟩ := h hn
  exact ⟨b, off, hA, by omega, hc⟩
theorem RdN.rd {w : World} {base : Nat} {A : Option Addr} {zs : List Int} (h : RdN w base A zs) : Rd .i64 w A zs := fun hn => by
  obtain ⟨b, off, hA, _, hc⟩ := h hn
  exact ⟨b, off, hA, hc⟩
theorem RdN.below {w w' : World} {base : Nat} {A : Option Addr} {zs : List Int} (h : RdN w base A zs) (k : Below w.heap.size w w') : RdN w' base A zs := fun hn => by
  obtain ⟨b, off, hA, hb, hc⟩ := h hn
  exact ⟨b, off, hA, hb, fun j hj => cell_later (hc j hj) k⟩

theorem FrDr.ret {W W1 w2 : World} {B0 g M : Nat} {A B : Option Addr} {hs ls : List Int} {u u' : Value} (h : FrDr W1 w2 B0 g M A B hs ls) (hW : W.heap.size < W1.heap.size) (hg : W.grownBy W1 (some g)) (hB0 : B0 ≤ W.heap.size) :
    FrDr W ((w2.setCell ⟨W.heap.size, 0, none⟩ u).setCell ⟨W.heap.size, 1, none⟩ u') B0 g M A B hs ls :=
  ⟨((h.hi.grown (grownBy_set _ _ 0 u) hW).grown (grownBy_set _ _ 1 u') hW).down (by omega), ((h.lo.grown (grownBy_set _ _ 0 u) hW).grown (grownBy_set _ _ 1 u') hW).down (by omega), h.lh, h.ll,
    (h.rdy.own (grownBy_set _ _ 0 u) (fun j hj => by injection hj; omega)).own (grownBy_set _ _ 1 u') (fun j hj => by injection hj; omega),
    grown_le (grown_le (grownBy_trans hg h.gr) (grownBy_set _ _ 0 u) (fun j hj => by injection hj; omega)) (grownBy_set _ _ 1 u') (fun j hj => by injection hj; omega)⟩

set_option maxRecDepth 100000 in
theorem l92Some (B0 g m : Nat) (w : World) (h : RdyI B0 w g m) (hB : B0 ≤ w.heap.size) (hm : m ≤ 900000) :
    Calls Try.prog 55 #[.pointer (some ⟨g, 0, none⟩)] w (FrDrawn B0 g (m + 21) w) := by
  have hgw := h.lt
  have hb0 := below_new w (.cells #[.slice none 0 0, .slice none 0 0] 27)
  have HB := Lib.hid hb0
  have HX := Lib.hid (Bx.new w 27 (.slice none 0 0) (.slice none 0 0))
  go_enter Try.func55, Try.ntmps55
  go_wp2_with fail
  refine (pickI B0 g m 5 _ (h.below hb0) (by omega) (by omega) (by omega)).mono ?_
  rintro e w1 ⟨x, rfl, x0, x1, h1, g1⟩
  obtain ⟨N, rfl⟩ := Int.eq_ofNat_of_zero_le x0
  have z1 := g1.size
  simp at z1
  have G1 := Lib.hid (grownBy_trans (grownBy_of_below hb0 (some g)) g1)
  have HX1 := Lib.hid ((g1.block w.heap.size (by simp) (by simp; omega)).trans HX.out)
  clear hb0
  go_wp2_with fail
  rw [show (1 : Int) + (N : Int) = ((N + 1 : Nat) : Int) by omega]
  refine (l92Frame B0 g (m + 1) (N + 1) w1 h1 (by omega) (by omega) (by omega) (by omega)).mono ?_
  rintro e w2 ⟨A, B, c, d, hs, ls, rfl, D⟩
  obtain ⟨y0, y1, f0, f1, yl⟩ := box_facts ((D.gr.block w.heap.size (by omega) (by simp; omega)).trans HX1.out)
  have HD := Lib.hid (fun u u' => D.ret (W := w) (u := u) (u' := u') (by omega) G1.out hB)
  clear D
  go_wp2_with fail
  refine bodyPost_ret (v := .agg #[.slice A hs.length c, .slice B ls.length d]) (by simp [results, Try.results55, go_sem, *]) rfl ?_
  exact ⟨A, B, c, d, hs, ls, rfl, (HD.out _ _).more (by omega)⟩

theorem came_below {k : IntKind} {w w' : World} {A : Option Addr} {c : Nat} {zs : List Int} (h : Came k w A c zs) (hb : Below w.heap.size w w') : Came k w' A c zs := ⟨h.1, h.2.1, h.2.2.1.below hb, h.2.2.2⟩
/-- A frame is drawn from a code. -/
def DrawFr (w : World) (e : Ending) (w' : World) : Prop := ∃ A B c d hs ls, e = .returned (.agg #[.slice A hs.length c, .slice B ls.length d]) ∧ FrRd w' A B hs ls ∧ hs.length ≤ 8 ∧ ls.length ≤ 8 ∧ Below w.heap.size w w'

theorem below_of_g {a b : World} {B g : Nat} (h : a.grownBy b (some g)) (hB : B ≤ a.heap.size) (hg : B ≤ g) : Below B a b := below_of_grown h hB (fun k hk => by injection hk; omega)

set_option maxRecDepth 100000 in
theorem DrawFrameValue (A : Option Addr) (c : Nat) (zs : List Int) (w : World) (h : Came .u8 w A c zs) :
    Calls Try.prog 36 #[.slice A zs.length c] w (DrawFr w) := by
  have hb0 := below_new w (.cells #[.slice none 0 0, .slice none 0 0] 27)
  have HB := Lib.hid hb0
  have hz : (w.alloc (.cells #[.slice none 0 0, .slice none 0 0] 27)).heap.size = w.heap.size + 1 := by simp
  have HX := Lib.hid (Bx.new w 27 (.slice none 0 0) (.slice none 0 0))
  go_enter Try.func36, Try.ntmps36
  go_wp2_with fail
  refine (l6Open _ _ _ _ (came_below h hb0)).mono ?_
  rintro e w1 ⟨rfl, r1, b1⟩
  rw [hz] at r1
  have z1 := b1.size
  simp at z1
  have HX1 := Lib.hid (HX.out.below b1)
  have HB1 := Lib.hid (bstep hb0 b1)
  have hr1 := RdyI.of r1
  have hgl := r1.lt
  clear hb0 hz
  go_wp2_with fail
  refine (l92Some w1.heap.size (w.heap.size + 1) 0 w1 hr1 (Nat.le_refl _) (by omega)).mono ?_
  rintro e w2 ⟨A2, B2, c2, d2, hs, ls, rfl, D⟩
  obtain ⟨y0, y1, f0, f1, yl⟩ := box_facts ((D.gr.block w.heap.size (by omega) (by simp)).trans HX1.out)
  have HD := Lib.hid D
  have HB2 := Lib.hid (HB1.out.trans (below_of_g D.gr (by omega) (by omega)))
  clear D
  go_wp2_with fail
  refine bodyPost_ret (v := .agg #[.slice A2 hs.length c2, .slice B2 ls.length d2]) (by simp [results, Try.results36, go_sem, *]) rfl ?_
  have D := HD.out
  exact ⟨A2, B2, c2, d2, hs, ls, rfl, ⟨((D.hi.grown (grownBy_set _ _ 0 _) (by omega)).grown (grownBy_set _ _ 1 _) (by omega)).rd, ((D.lo.grown (grownBy_set _ _ 0 _) (by omega)).grown (grownBy_set _ _ 1 _) (by omega)).rd⟩, D.lh, D.ll, (HB2.out.setCell (by simp) _).setCell (by simp) _⟩
set_option maxRecDepth 100000 in
theorem DrawFrameNines (A : Option Addr) (c : Nat) (zs : List Int) (w : World) (h : Came .u8 w A c zs) :
    Calls Try.prog 34 #[.slice A zs.length c] w (DrawFr w) := by
  have hb0 := below_new w (.cells #[.slice none 0 0, .slice none 0 0] 27)
  have HB := Lib.hid hb0
  have hz : (w.alloc (.cells #[.slice none 0 0, .slice none 0 0] 27)).heap.size = w.heap.size + 1 := by simp
  have HX := Lib.hid (Bx.new w 27 (.slice none 0 0) (.slice none 0 0))
  go_enter Try.func34, Try.ntmps34
  go_wp2_with fail
  refine (l6Open _ _ _ _ (came_below h hb0)).mono ?_
  rintro e w1 ⟨rfl, r1, b1⟩
  rw [hz] at r1
  have z1 := b1.size
  simp at z1
  have HX1 := Lib.hid (HX.out.below b1)
  have HB1 := Lib.hid (bstep hb0 b1)
  have hr1 := RdyI.of r1
  have hgl := r1.lt
  clear hb0 hz
  go_wp2_with fail
  refine (l92Some w1.heap.size (w.heap.size + 1) 0 w1 hr1 (Nat.le_refl _) (by omega)).mono ?_
  rintro e w2 ⟨A2, B2, c2, d2, hs, ls, rfl, D⟩
  obtain ⟨y0, y1, f0, f1, yl⟩ := box_facts ((D.gr.block w.heap.size (by omega) (by simp)).trans HX1.out)
  have HD := Lib.hid D
  have HB2 := Lib.hid (HB1.out.trans (below_of_g D.gr (by omega) (by omega)))
  clear D
  go_wp2_with fail
  refine bodyPost_ret (v := .agg #[.slice A2 hs.length c2, .slice B2 ls.length d2]) (by simp [results, Try.results34, go_sem, *]) rfl ?_
  have D := HD.out
  exact ⟨A2, B2, c2, d2, hs, ls, rfl, ⟨((D.hi.grown (grownBy_set _ _ 0 _) (by omega)).grown (grownBy_set _ _ 1 _) (by omega)).rd, ((D.lo.grown (grownBy_set _ _ 0 _) (by omega)).grown (grownBy_set _ _ 1 _) (by omega)).rd⟩, D.lh, D.ll, (HB2.out.setCell (by simp) _).setCell (by simp) _⟩
end Go.Proofs.Ytfdbhaojdccomaa
