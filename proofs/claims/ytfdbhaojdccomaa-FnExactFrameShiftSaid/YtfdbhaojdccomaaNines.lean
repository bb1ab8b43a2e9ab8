/- Contracts of the program's FrameNines. -/
import Derived.Test.YtfdbhaojdccomaaFrOf
namespace Go.Proofs.Ytfdbhaojdccomaa
open Go.RowKit

def nnH (hs ls : List Int) : List Int := if frB hs ls then ninH hs else []
def nnL (hs ls : List Int) : List Int := if frB hs ls then ninL ls else []

theorem box_second {w w1 : World} {o : Obj} {cs : Array Value} {t : TypeId} (q : Below ((w.alloc o).alloc (.cells cs t)).heap.size ((w.alloc o).alloc (.cells cs t)) w1) : w1.heap[w.heap.size + 1]? = some (.cells cs t (0, 0)) := by
  rw [q.block _ (by simp)]
  have := heap_alloc_new (w.alloc o) (.cells cs t)
  simpa using this
theorem box_first {w w1 : World} {cs : Array Value} {t : TypeId} {o : Obj} (q : Below ((w.alloc (.cells cs t)).alloc o).heap.size ((w.alloc (.cells cs t)).alloc o) w1) : w1.heap[w.heap.size]? = some (.cells cs t (0, 0)) := by
  rw [q.block _ (by simp; omega), Below.heap_alloc _ _ _ (by simp)]
  exact heap_alloc_new w (.cells cs t)
theorem Rods.past {w w1 : World} {o o' : Obj} {p g : Nat} {hs ls : List Int} (h : Rods w1 ((w.alloc o).alloc o').heap.size p g hs ls) : w.heap.size + 2 ≤ p ∧ w.heap.size + 2 ≤ g := by
  have a := h.pb
  have b := h.gb
  simp at a b
  omega

set_option maxRecDepth 100000 in
theorem impl_FrameNines_n (A B : Option Addr) (c d : Nat) (hs ls : List Int) (w : World) (hr : FrRd w A B hs ls) (hh : hs.length ≤ 4194304) (hl : ls.length ≤ 4194304) (hbad : frB hs ls = false) :
    Calls Try.prog 31 #[.agg #[.slice A hs.length c, .slice B ls.length d]] w (NoFr w) := by
  have hb0 := ((Below.refl w.heap.size w).alloc (Nat.le_refl _) (.cells #[.slice A hs.length c, .slice B ls.length d] 27)).alloc (by simp) (.cells #[.slice none 0 0, .slice none 0 0] 27)
  have hr0 := hr.below hb0
  go_enter Try.func31, Try.ntmps31
  go_wp2_with fail
  refine (rodsOf_no _ _ _ _ _ _ _ hr0 hh hl hbad).mono ?_
  rintro e w1 ⟨rfl, q1⟩
  obtain ⟨x1, x2, x3, x4, z1, z2⟩ := box22 q1
  have f1 : w1.frozen? ⟨w.heap.size + 1, 0, none⟩ = false := (q1.frozen (p := ⟨w.heap.size + 1, 0, none⟩) (by simp)).trans (by simp)
  have f2 : w1.frozen? ⟨w.heap.size + 1, 1, none⟩ = false := (q1.frozen (p := ⟨w.heap.size + 1, 1, none⟩) (by simp)).trans (by simp)
  have hb1 := Lib.hid (bstep hb0 q1)
  go_wp2_with fail
  refine bodyPost_ret (v := .tuple #[.agg #[.slice none 0 0, .slice none 0 0], .bool false]) (by simp [results, Try.results31, go_sem, *]) rfl ?_
  exact ⟨rfl, (hb1.out.setCell (by simp) _).setCell (by simp) _⟩

set_option maxRecDepth 100000 in
set_option maxHeartbeats 400000 in
theorem impl_FrameNines_y (A B : Option Addr) (c d : Nat) (hs ls : List Int) (w : World) (hr : FrRd w A B hs ls) (ok : FrOk hs ls) :
    Calls Try.prog 31 #[.agg #[.slice A hs.length c, .slice B ls.length d]] w (FrPost w (ninH hs) (ninL ls) true) := by
  have hb0 := ((Below.refl w.heap.size w).alloc (Nat.le_refl _) (.cells #[.slice A hs.length c, .slice B ls.length d] 27)).alloc (by simp) (.cells #[.slice none 0 0, .slice none 0 0] 27)
  have hr0 := hr.below hb0
  have n6 := ok.n6
  have HlH : Hid ((ninH hs).length = hs.length) := Lib.hid (ninH_len hs)
  have HlL : Hid ((ninL ls).length = ls.length) := Lib.hid (ninL_len ls)
  go_enter Try.func31, Try.ntmps31
  go_wp2_with fail
  refine (rodsOf_yes _ _ _ _ _ _ _ hr0 ok).mono ?_
  rintro e w1 ⟨p, g, rfl, R1, q1⟩
  have F0 := box_second q1
  have B0 := bstep hb0 q1
  have ⟨pb, gb⟩ := R1.past
  have cb := R1.cbox
  have pl := R1.plt
  have hzz := B0.size
  have HR0 := Lib.hid R1
  have HF0 := Lib.hid F0
  have HB0 := Lib.hid B0
  clear F0 B0 R1
  go_wp2_with fail
  clear cb pl hr0 hb0 q1
  generalize ((w.alloc (.cells #[.slice A hs.length c, .slice B ls.length d] 27)).alloc (.cells #[.slice none 0 0, .slice none 0 0] 27)).heap.size = base at *
  go_loopw [20] (fun i wr => ∃ k : Nat, k ≤ hs.length ∧ i = .int .i64 k ∧ Rods wr base p g (mix (ninH hs) hs k) (mix (ninL ls) ls k) ∧ Hid (wr.heap[w.heap.size + 1]? = some (.cells #[.slice none 0 0, .slice none 0 0] 27 (0, 0))) ∧ Below w.heap.size w wr) (fun i _ => hs.length - (intOf i).toNat)
  case atStart => exact ⟨0, Nat.zero_le _, rfl, by rw [mix_zero, mix_zero]; exact HR0.out, HF0, HB0.out⟩
  case round =>
    obtain ⟨k, hk, rfl, R, HF, bw⟩ := hrel
    have hlh : (mix (ninH hs) hs k).length = hs.length := mix_len HlH.out hk
    have hcb := R.cbox
    rw [hlh] at hcb
    have plt := R.plt
    have glt := R.glt
    by_cases hlt : k < hs.length
    · have k2 : k < ls.length := by have := ok.len; omega
      have ch := R.chi (j := k) (by omega)
      have cl := R.clo (j := k) (by omega)
      rw [mix_at HlH.out hlt] at ch
      rw [mix_at HlL.out k2] at cl
      have fh := R.free (k * 2)
      have fl := R.free (k * 2 + 1)
      have ⟨a0, a1⟩ := ok.hi k hlt
      have ⟨e0, e1⟩ := ok.lo k hlt
      have HeH : Hid (nth (ninH hs) k = (9 - (5 * nth hs k + nth ls k)) / 5) := Lib.hid (by rw [ninH_nth hlt]; omega)
      have HeL : Hid (nth (ninL ls) k = (9 - (5 * nth hs k + nth ls k)) % 5) := Lib.hid (by rw [ninL_nth k2]; omega)
      have HR := Lib.hid R
      have u0 : 0 ≤ (k : Int) := by omega
      have u1 : (k : Int) < hs.length := by omega
      clear R hlh
      go_wp2_with fail
      refine (beadDigit g (k * 2) _ _ wr ch cl a0 a1 e0 e1).mono ?_
      rintro e w' ⟨rfl, m, rfl⟩
      go_wp2_with fail
      refine (beadShow g (k * 2) _ _ (9 - (5 * nth hs k + nth ls k)) (wr.drewN m) ch cl fh fl (by omega) (by omega)).mono ?_
      rintro e w2 ⟨rfl, w1, b1, rfl⟩
      have HS := Lib.hid (((HR.out.drewN m).below b1).set_ k ((9 - (5 * nth hs k + nth ls k)) / 5) ((9 - (5 * nth hs k + nth ls k)) % 5))
      have HB := Lib.hid (((bstep (bw.drewN m) b1).setCell (p := ⟨g, k * 2, none⟩) (by simp; omega) (.int .i64 ((9 - (5 * nth hs k + nth ls k)) / 5))).setCell (p := ⟨g, k * 2 + 1, none⟩) (by simp; omega) (.int .i64 ((9 - (5 * nth hs k + nth ls k)) % 5)))
      have HF1 : Hid (((w1.setCell ⟨g, k * 2, none⟩ (.int .i64 ((9 - (5 * nth hs k + nth ls k)) / 5))).setCell ⟨g, k * 2 + 1, none⟩ (.int .i64 ((9 - (5 * nth hs k + nth ls k)) % 5))).heap[w.heap.size + 1]? = some (.cells #[.slice none 0 0, .slice none 0 0] 27 (0, 0))) := Lib.hid (by
        rw [Below.heap_setCell _ _ _ _ (by simp; omega), Below.heap_setCell _ _ _ _ (by simp; omega)]
        exact (b1.block _ (show w.heap.size + 1 < wr.heap.size by omega)).trans HF.out)
      clear ch cl fh fl hcb
      generalize (w1.setCell ⟨g, k * 2, none⟩ (.int .i64 ((9 - (5 * nth hs k + nth ls k)) / 5))).setCell ⟨g, k * 2 + 1, none⟩ (.int .i64 ((9 - (5 * nth hs k + nth ls k)) % 5)) = w2 at *
      go_wp2_with fail
      go_roundw
      case rel => exact ⟨k + 1, by omega, by go_num, by rw [← mix_succ HlH.out hlt, ← mix_succ HlL.out k2, HeH.out, HeL.out]; exact HS.out, HF1, HB.out⟩
      case measure => simp [intOf]; omega
    · obtain rfl : k = hs.length := by omega
      have e1 := mix_all HlH.out
      have e2 := mix_all HlL.out
      rw [← ok.len] at e2
      rw [e1, e2] at R
      clear hlh e1 e2 hcb
      have HlK : Hid ((ninH hs).length ≤ 6) := Lib.hid (by rw [ninH_len]; exact n6)
      go_wp2_with fail
      refine (beadsFrame p g base (ninH hs) (ninL ls) wr R HlK.out).mono ?_
      rintro e w3 ⟨A3, B3, c3, d3, rfl, s3, b3⟩
      have a0 := (b3.block (w.heap.size + 1) (by omega)).trans HF.out
      have x0 : w3.cell? ⟨w.heap.size + 1, 0, none⟩ = some (.slice none 0 0) := by simp [World.cell?, a0]
      have x1 : w3.cell? ⟨w.heap.size + 1, 1, none⟩ = some (.slice none 0 0) := by simp [World.cell?, a0]
      have f0 : w3.frozen? ⟨w.heap.size + 1, 0, none⟩ = false := by simp [World.frozen?, a0]
      have f1 : w3.frozen? ⟨w.heap.size + 1, 1, none⟩ = false := by simp [World.frozen?, a0]
      have hwl : w.heap.size + 1 < w3.heap.size := by have := b3.size; omega
      have HS3 := Lib.hid s3
      have HB3 := Lib.hid (bstep bw b3)
      clear R s3 b3 a0
      go_wp2_with fail
      refine bodyPost_ret (v := .tuple #[.agg #[.slice A3 (ninH hs).length c3, .slice B3 (ninL ls).length d3], .bool true]) (by simp [results, Try.results31, go_sem, *]) rfl ?_
      have hA : ∀ j, blk A3 = some j → j ≠ w.heap.size + 1 := fun j hj => by have := (HS3.out.hi.lt j hj).1; omega
      have hB : ∀ j, blk B3 = some j → j ≠ w.heap.size + 1 := fun j hj => by have := (HS3.out.lo.lt j hj).1; omega
      exact ⟨A3, B3, c3, d3, rfl, ((HS3.out.far hA hB).far hA hB).down (by omega), (HB3.out.setCell (by simp) _).setCell (by simp) _⟩

theorem nnPost_no {hs ls : List Int} (hb : frB hs ls = false) {w : World} {e : Ending} {w' : World} (h : NoFr w e w') : FrPost w (nnH hs ls) (nnL hs ls) (frB hs ls) e w' :=
  FrPost.no (by simp [nnH, hb]) (by simp [nnL, hb]) hb h
theorem impl_FrameNines (A B : Option Addr) (c d : Nat) (hs ls : List Int) (w : World) (hr : FrRd w A B hs ls) (hh : hs.length ≤ 4194304) (hl : ls.length ≤ 4194304) :
    Calls Try.prog 31 #[.agg #[.slice A hs.length c, .slice B ls.length d]] w (FrPost w (nnH hs ls) (nnL hs ls) (frB hs ls)) := by
  cases hb : frB hs ls
  · exact hb ▸ (impl_FrameNines_n A B c d hs ls w hr hh hl hb).mono fun _ _ h => nnPost_no hb h
  · rw [show nnH hs ls = ninH hs by simp [nnH, hb], show nnL hs ls = ninL ls by simp [nnL, hb]]
    exact impl_FrameNines_y A B c d hs ls w hr (frB_ok hb)
end Go.Proofs.Ytfdbhaojdccomaa
