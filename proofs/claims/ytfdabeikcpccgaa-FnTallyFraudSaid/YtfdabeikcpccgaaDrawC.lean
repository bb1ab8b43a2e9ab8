/- The tally with notches that were perhaps cut later, that the reference draws. -/
import Derived.Test.YtfdabeikcpccgaaDrawT
namespace Go.Proofs.Ytfdabeikcpccgaa
open Go.RowKit

/-- The tally lies in a box of the call's own, beside the box of the result. -/
structure CutSt (w : World) (B g m j2 j3 : Nat) (d c : Int) (s f : ByteArray) (w1 : World) : Prop where
  gr : w.grownBy w1 (some g)
  rdy : RdyI B w1 g m
  le2 : w.heap.size ≤ j2
  le3 : w.heap.size ≤ j3
  hB : B ≤ w.heap.size
  b3 : w1.heap[j3]? = some (.cells #[.int .i64 d, .int .i64 c, .string s, .string f] 28)
  b2 : w1.heap[j2]? = some (.cells #[.int .i64 0, .int .i64 0, .string { data := #[] }, .string { data := #[] }] 28)
section
variable {w w1 w2 : World} {B g m m' j2 j3 : Nat} {d c : Int} {s f x : ByteArray}
theorem CutSt.gw (h : CutSt w B g m j2 j3 d c s f w1) : g < w.heap.size := by
  have := h.rdy.1
  have := h.hB
  omega
theorem CutSt.go (h : CutSt w B g m j2 j3 d c s f w1) (k : w1.grownBy w2 (some g)) (hr : RdyI B w2 g m') : CutSt w B g m' j2 j3 d c s f w2 := by
  have := h.gw
  have := h.le2
  have := h.le3
  exact ⟨grownBy_trans h.gr k, hr, h.le2, h.le3, h.hB, (k.block _ (Array.getElem?_eq_some_iff.1 h.b3).1 (by simp; omega)).trans h.b3, (k.block _ (Array.getElem?_eq_some_iff.1 h.b2).1 (by simp; omega)).trans h.b2⟩
theorem CutSt.set2 (h : CutSt w B g m j2 j3 d c s f w1) (hne : j2 ≠ j3) : CutSt w B g m j2 j3 d c x f (w1.setCell ⟨j3, 2, none⟩ (.string x)) := by
  have hb := (Below.refl w.heap.size w1).setCell (p := ⟨j3, 2, none⟩) h.le3 (.string x)
  refine ⟨gr_then h.gr hb, h.rdy.keep hb h.hB, h.le2, h.le3, h.hB, ?_, (Below.heap_setCell w1 _ _ j2 (by simpa using hne)).trans h.b2⟩
  exact (heap_setCell_same w1 j3 2 _ _ _ h.b3).trans (by simp)
theorem CutSt.set3 (h : CutSt w B g m j2 j3 d c s f w1) (hne : j2 ≠ j3) : CutSt w B g m j2 j3 d c s x (w1.setCell ⟨j3, 3, none⟩ (.string x)) := by
  have hb := (Below.refl w.heap.size w1).setCell (p := ⟨j3, 3, none⟩) h.le3 (.string x)
  refine ⟨gr_then h.gr hb, h.rdy.keep hb h.hB, h.le2, h.le3, h.hB, ?_, (Below.heap_setCell w1 _ _ j2 (by simpa using hne)).trans h.b2⟩
  exact (heap_setCell_same w1 j3 3 _ _ _ h.b3).trans (by simp)
theorem CutSt.c3 (h : CutSt w B g m j2 j3 d c s f w1) : w1.cell? ⟨j3, 0, none⟩ = some (.int .i64 d) ∧ w1.cell? ⟨j3, 1, none⟩ = some (.int .i64 c) ∧ w1.cell? ⟨j3, 2, none⟩ = some (.string s) ∧ w1.cell? ⟨j3, 3, none⟩ = some (.string f) := by
  refine ⟨?_, ?_, ?_, ?_⟩ <;> simp [World.cell?, h.b3]
theorem CutSt.f3 (h : CutSt w B g m j2 j3 d c s f w1) : w1.frozen? ⟨j3, 2, none⟩ = false ∧ w1.frozen? ⟨j3, 3, none⟩ = false := by
  refine ⟨?_, ?_⟩ <;> simp [World.frozen?, h.b3]
theorem CutSt.c2 (h : CutSt w B g m j2 j3 d c s f w1) : w1.cell? ⟨j2, 0, none⟩ = some (.int .i64 0) ∧ w1.cell? ⟨j2, 1, none⟩ = some (.int .i64 0) ∧ w1.cell? ⟨j2, 2, none⟩ = some (.string { data := #[] }) ∧ w1.cell? ⟨j2, 3, none⟩ = some (.string { data := #[] }) := by
  refine ⟨?_, ?_, ?_, ?_⟩ <;> simp [World.cell?, h.b2]
theorem CutSt.f2 (h : CutSt w B g m j2 j3 d c s f w1) : w1.frozen? ⟨j2, 0, none⟩ = false ∧ w1.frozen? ⟨j2, 1, none⟩ = false ∧ w1.frozen? ⟨j2, 2, none⟩ = false ∧ w1.frozen? ⟨j2, 3, none⟩ = false := by
  refine ⟨?_, ?_, ?_, ?_⟩ <;> simp [World.frozen?, h.b2]
end

/-- The reader is ready, f operations ahead. -/
structure CutI (W : World) (B g M f : Nat) (w : World) : Prop where
  gr : W.grownBy w (some g)
  rdy : ∃ m, m + f ≤ M ∧ RdyI B w g m
section
variable {W w w' : World} {B g M f : Nat}
theorem CutI.same (h : CutI W B g M (f + 1) w) : CutI W B g M f w := by
  obtain ⟨m, hm, hr⟩ := h.rdy
  exact ⟨h.gr, m, by omega, hr⟩
theorem CutI.below (h : CutI W B g M (f + 1) w) (k : Below w.heap.size w w') : CutI W B g M f w' := by
  obtain ⟨m, hm, hr⟩ := h.rdy
  exact ⟨gr_below h.gr k, m, by omega, hr.below k⟩
theorem CutI.start {m : Nat} (hr : RdyI B W g m) (hm : m + f ≤ M) : CutI W B g M f W.drew := ⟨grownBy_drew (World.grownBy.refl _ _), m, hm, hr.below ((Below.refl _ _).drewN 1)⟩
theorem CutI.fin (h : CutI W B g M f w) : RdyI B w g M := by
  obtain ⟨m, hm, hr⟩ := h.rdy
  exact hr.more (by omega)
end

/-- A new table of three letters. -/
def TTxt (g : Nat) (w : World) (v : Value) : Prop := ∃ b, v = .slice (some ⟨b, 0, none⟩) 3 3 ∧ g ≠ b ∧ TxtTab w b 3 1
theorem TTxt.keep {g : Nat} {w1 w2 : World} {v : Value} (h : TTxt g w1 v) (hR : w1.grownBy w2 (some g)) : TTxt g w2 v := by
  obtain ⟨b, h1, h2, h3, h4⟩ := h
  exact ⟨b, h1, h2, Nat.lt_of_lt_of_le h3 hR.size, fun j hj => by
    obtain ⟨s, hs, hc⟩ := h4 j hj
    exact ⟨s, hs, hR.cell hc (by simp; omega)⟩⟩

def cutT (g j k n : Nat) (s : ByteArray) : Nat → World → Value → Prop
  | 0 => fun _ v => v = .pointer (some ⟨j, k, none⟩)
  | 1 => fun _ v => v = .string s
  | 2 => TRdr g
  | 3 => TTxt g
  | 4 => fun _ v => ∃ l : ByteArray, v = .string l ∧ l.size ≤ 1
  | 5 => fun _ v => ∃ (x : ByteArray) (b : Bool), v = .tuple #[.string x, .bool b] ∧ x.size ≤ n
  | 6 => fun _ v => ∃ (x : ByteArray) (b : Bool), v = .tuple #[.string x, .bool b] ∧ x.size ≤ n
  | 7 => fun _ v => ∃ x : ByteArray, v = .string x ∧ x.size ≤ n
  | 8 => fun _ v => ∃ b : Bool, v = .bool b
  | 9 => fun _ v => ∃ x : ByteArray, v = .string x ∧ x.size ≤ n
  | _ => fun _ v => ∃ b : Bool, v = .bool b
theorem cutT_keep {g j k n : Nat} {s : ByteArray} (i : Nat) (w1 w2 : World) (v : Value) (hR : w1.grownBy w2 (some g)) (h : cutT g j k n s i w1 v) : cutT g j k n s i w2 v := by
  match i, h with
  | 0, h => exact h
  | 1, h => exact h
  | 2, h => exact h
  | 3, h => exact TTxt.keep h hR
  | 4, h => exact h
  | 5, h => exact h
  | 6, h => exact h
  | 7, h => exact h
  | 8, h => exact h
  | 9, h => exact h
  | _ + 10, h => exact h

set_option maxRecDepth 100000 in
set_option maxHeartbeats 4000000 in
theorem l92Cut (B g m : Nat) (w : World) (h : RdyI B w g m) (hB : B ≤ w.heap.size) (hm : m ≤ 900000) :
    Calls Try.prog 52 #[.pointer (some ⟨g, 0, none⟩)] w (TalDrawn B g (m + 40) 60 w) := by
  have hgw := h.lt
  have hne : w.heap.size ≠ g := by omega
  go_enter Try.func52, Try.ntmps52
  go_wp2_with fail
  refine (l92Tally B g m _ (h.keep (N := w.heap.size) ((Below.refl _ _).alloc (Nat.le_refl _) _) hB) (by simp; omega) (by omega)).mono ?_
  rintro e w1 ⟨d, c, s, f, rfl, hs, hf, h1, g1⟩
  have hz : w.heap.size < w1.heap.size := by have := g1.size; simp at this; omega
  have st : CutSt w B g (m + 6) w.heap.size w1.heap.size d c s f (w1.alloc (.cells #[.int .i64 d, .int .i64 c, .string s, .string f] 28)) := by
    refine ⟨gr_below (grownBy_trans (grownBy_alloc w _ _) g1) ((Below.refl _ _).alloc (Nat.le_refl _) _), h1.below ((Below.refl _ _).alloc (Nat.le_refl _) _), Nat.le_refl _, by omega, hB, by simp only [World.alloc, Array.getElem?_push_size], ?_⟩
    rw [Below.heap_alloc _ _ _ hz, g1.block _ (by simp) (by simp; omega)]
    simp only [World.alloc, Array.getElem?_push_size]
  generalize hj : w1.heap.size = j3 at st
  generalize hW : w1.alloc (.cells #[.int .i64 d, .int .i64 c, .string s, .string f] 28) = W at st
  have hne3 : w.heap.size ≠ j3 := by omega
  clear hz h1 g1 h
  obtain ⟨cd, cc, cs, cf⟩ := st.c3
  have HC := Lib.hid cs
  have hgj := st.gw
  have hl3 := st.le3
  go_wp2_with fail
  refine wp_region_lawful (fun w1 w2 => w1.grownBy w2 (some g)) (CutI W B g (m + 6 + 11)) (cutT g j3 2 (41) s) (by kernel_rfl) (by kernel_rfl) cutT_keep ?_ ?_ ?_
  · exact CutI.start st.rdy (by simp)
  · refine lawsFrom_cons rfl ?_ (lawsFrom_cons rfl ?_ (lawsFrom_cons rfl ?_ (lawsFrom_cons rfl ?_ (lawsFrom_cons rfl ?_ (lawsFrom_cons rfl ?_ (lawsFrom_cons rfl ?_ (lawsFrom_cons rfl ?_ (lawsFrom_cons rfl ?_ (lawsFrom_cons rfl ?_ (lawsFrom_cons rfl ?_ lawsFrom_nil))))))))))
    · intro f' v w6 hI hd
      clear hd
      go_light
      refine ⟨?_⟩
      unfold Gives
      simp only [fillL]
      go_simp
      exact ⟨World.grownBy.refl _ _, hI.same, rfl⟩
    · intro f' v w6 hI hd
      have h0 : v 0 = _ := hd 0 (by kernel_rfl)
      have hc6 := hI.gr.cell HC.out (by simp; omega)
      clear hd
      go_light
      refine ⟨?_⟩
      unfold Gives
      simp only [fillL]
      go_simp
      exact ⟨World.grownBy.refl _ _, hI.same, rfl⟩
    · intro f' v w6 hI hd
      clear hd
      go_light
      refine ⟨?_⟩
      unfold Gives
      simp only [fillL]
      go_simp
      exact ⟨World.grownBy.refl _ _, hI.same, rfl⟩
    · intro f' v w6 hI hd
      clear hd
      go_light
      refine ⟨?_⟩
      unfold Gives
      simp only [fillL]
      go_simp
      refine ⟨grownBy_alloc _ _ _, hI.below ((Below.refl _ _).alloc (Nat.le_refl _) _), w6.heap.size, rfl, ?_, by simp, fun j hj => ?_⟩
      · obtain ⟨_, _, hr⟩ := hI.rdy
        have := hr.lt
        omega
      · rcases (show j = 0 ∨ j = 1 ∨ j = 2 by omega) with rfl | rfl | rfl
        · exact ⟨⟨#[73]⟩, by decide, by simp⟩
        · exact ⟨⟨#[88]⟩, by decide, by simp⟩
        · exact ⟨⟨#[67]⟩, by decide, by simp⟩
    · intro f' v w6 hI hd
      have h2 : v 2 = _ := hd 2 (by kernel_rfl)
      obtain ⟨b, h3, hgb, ht⟩ : TTxt g w6 (v 3) := hd 3 (by kernel_rfl)
      obtain ⟨m6, hm6, hr6⟩ := hI.rdy
      clear hd
      go_light
      refine ⟨?_⟩
      unfold Gives
      simp only [fillL]
      go_simp
      refine (ofI B g m6 b 3 1 3 w6 hr6 (by omega) (by omega) (by omega) hgb ht).mono ?_
      rintro e w7 ⟨l, rfl, hl, hr7, g7⟩
      exact ⟨_, rfl, g7, ⟨grownBy_trans hI.gr g7, m6 + 1, by omega, hr7⟩, l, rfl, hl⟩
    · intro f' v w6 hI hd
      have h1 : v 1 = _ := hd 1 (by kernel_rfl)
      obtain ⟨l, h4, hl⟩ : ∃ l : ByteArray, v 4 = .string l ∧ l.size ≤ 1 := hd 4 (by kernel_rfl)
      clear hd
      go_light
      refine ⟨?_⟩
      unfold Gives
      simp only [fillL]
      go_simp
      refine (spec_NotchesCut s l w6 (by omega) hl).mono ?_
      rintro e w7 ⟨x, b, rfl, hx, n, rfl⟩
      exact ⟨_, rfl, grownBy_drewN (World.grownBy.refl _ _) n, hI.below ((Below.refl _ _).drewN n), x, b, rfl, by omega⟩
    · intro f' v w6 hI hd
      obtain ⟨x, b, h5, hx⟩ : ∃ (x : ByteArray) (b : Bool), v 5 = .tuple #[.string x, .bool b] ∧ x.size ≤ 41 := hd 5 (by kernel_rfl)
      clear hd
      go_light
      refine ⟨?_⟩
      unfold Gives
      simp only [fillL]
      go_simp
      exact ⟨World.grownBy.refl _ _, hI.same, x, b, rfl, hx⟩
    · intro f' v w6 hI hd
      obtain ⟨x, b, h6, hx⟩ : ∃ (x : ByteArray) (b : Bool), v 6 = .tuple #[.string x, .bool b] ∧ x.size ≤ 41 := hd 6 (by kernel_rfl)
      clear hd
      go_light
      refine ⟨?_⟩
      unfold Gives
      simp only [fillL]
      go_simp
      exact ⟨World.grownBy.refl _ _, hI.same, x, rfl, hx⟩
    · intro f' v w6 hI hd
      obtain ⟨x, b, h6, hx⟩ : ∃ (x : ByteArray) (b : Bool), v 6 = .tuple #[.string x, .bool b] ∧ x.size ≤ 41 := hd 6 (by kernel_rfl)
      clear hd
      go_light
      refine ⟨?_⟩
      unfold Gives
      simp only [fillL]
      go_simp
      exact ⟨World.grownBy.refl _ _, hI.same, b, rfl⟩
    · intro f' v w6 hI hd
      obtain ⟨x, h7, hx⟩ : ∃ x : ByteArray, v 7 = .string x ∧ x.size ≤ 41 := hd 7 (by kernel_rfl)
      clear hd
      go_light
      refine ⟨?_⟩
      unfold Gives
      simp only [fillL]
      go_simp
      exact ⟨World.grownBy.refl _ _, hI.same, x, rfl, hx⟩
    · intro f' v w6 hI hd
      obtain ⟨b, h8⟩ : ∃ b : Bool, v 8 = .bool b := hd 8 (by kernel_rfl)
      clear hd
      go_light
      refine ⟨?_⟩
      unfold Gives
      simp only [fillL]
      go_simp
      exact ⟨World.grownBy.refl _ _, hI.same, b, rfl⟩
  intro f' v wa hI hall
  obtain ⟨xa, h9, hxa⟩ : ∃ x : ByteArray, v 9 = .string x ∧ x.size ≤ 41 := hall 9 (by decide)
  obtain ⟨ba, h10⟩ : ∃ b : Bool, v 10 = .bool b := hall 10 (by decide)
  clear hall
  have sta := st.go hI.gr hI.fin
  clear hI HC cd cc cs cf hgj hl3 st
  refine ⟨?_⟩
  simp only [fillL]
  go_simp
  clear h9 h10
  cases ba
  · go_wp2_with fail
    obtain ⟨cd, cc, cs, cf⟩ := sta.c3
    have HC := Lib.hid cf
    have hgj := sta.gw
    have hl3 := sta.le3
    go_wp2_with fail
    refine wp_region_lawful (fun w1 w2 => w1.grownBy w2 (some g)) (CutI wa B g (m + 17 + 11)) (cutT g j3 3 (41) f) (by kernel_rfl) (by kernel_rfl) cutT_keep ?_ ?_ ?_
    · exact CutI.start sta.rdy (by simp)
    · refine lawsFrom_cons rfl ?_ (lawsFrom_cons rfl ?_ (lawsFrom_cons rfl ?_ (lawsFrom_cons rfl ?_ (lawsFrom_cons rfl ?_ (lawsFrom_cons rfl ?_ (lawsFrom_cons rfl ?_ (lawsFrom_cons rfl ?_ (lawsFrom_cons rfl ?_ (lawsFrom_cons rfl ?_ (lawsFrom_cons rfl ?_ lawsFrom_nil))))))))))
      · intro f' v w6 hI hd
        clear hd
        go_light
        refine ⟨?_⟩
        unfold Gives
        simp only [fillL]
        go_simp
        exact ⟨World.grownBy.refl _ _, hI.same, rfl⟩
      · intro f' v w6 hI hd
        have h0 : v 0 = _ := hd 0 (by kernel_rfl)
        have hc6 := hI.gr.cell HC.out (by simp; omega)
        clear hd
        go_light
        refine ⟨?_⟩
        unfold Gives
        simp only [fillL]
        go_simp
        exact ⟨World.grownBy.refl _ _, hI.same, rfl⟩
      · intro f' v w6 hI hd
        clear hd
        go_light
        refine ⟨?_⟩
        unfold Gives
        simp only [fillL]
        go_simp
        exact ⟨World.grownBy.refl _ _, hI.same, rfl⟩
      · intro f' v w6 hI hd
        clear hd
        go_light
        refine ⟨?_⟩
        unfold Gives
        simp only [fillL]
        go_simp
        refine ⟨grownBy_alloc _ _ _, hI.below ((Below.refl _ _).alloc (Nat.le_refl _) _), w6.heap.size, rfl, ?_, by simp, fun j hj => ?_⟩
        · obtain ⟨_, _, hr⟩ := hI.rdy
          have := hr.lt
          omega
        · rcases (show j = 0 ∨ j = 1 ∨ j = 2 by omega) with rfl | rfl | rfl
          · exact ⟨⟨#[73]⟩, by decide, by simp⟩
          · exact ⟨⟨#[88]⟩, by decide, by simp⟩
          · exact ⟨⟨#[67]⟩, by decide, by simp⟩
      · intro f' v w6 hI hd
        have h2 : v 2 = _ := hd 2 (by kernel_rfl)
        obtain ⟨b, h3, hgb, ht⟩ : TTxt g w6 (v 3) := hd 3 (by kernel_rfl)
        obtain ⟨m6, hm6, hr6⟩ := hI.rdy
        clear hd
        go_light
        refine ⟨?_⟩
        unfold Gives
        simp only [fillL]
        go_simp
        refine (ofI B g m6 b 3 1 3 w6 hr6 (by omega) (by omega) (by omega) hgb ht).mono ?_
        rintro e w7 ⟨l, rfl, hl, hr7, g7⟩
        exact ⟨_, rfl, g7, ⟨grownBy_trans hI.gr g7, m6 + 1, by omega, hr7⟩, l, rfl, hl⟩
      · intro f' v w6 hI hd
        have h1 : v 1 = _ := hd 1 (by kernel_rfl)
        obtain ⟨l, h4, hl⟩ : ∃ l : ByteArray, v 4 = .string l ∧ l.size ≤ 1 := hd 4 (by kernel_rfl)
        clear hd
        go_light
        refine ⟨?_⟩
        unfold Gives
        simp only [fillL]
        go_simp
        refine (spec_NotchesCut f l w6 (by omega) hl).mono ?_
        rintro e w7 ⟨x, b, rfl, hx, n, rfl⟩
        exact ⟨_, rfl, grownBy_drewN (World.grownBy.refl _ _) n, hI.below ((Below.refl _ _).drewN n), x, b, rfl, by omega⟩
      · intro f' v w6 hI hd
        obtain ⟨x, b, h5, hx⟩ : ∃ (x : ByteArray) (b : Bool), v 5 = .tuple #[.string x, .bool b] ∧ x.size ≤ 41 := hd 5 (by kernel_rfl)
        clear hd
        go_light
        refine ⟨?_⟩
        unfold Gives
        simp only [fillL]
        go_simp
        exact ⟨World.grownBy.refl _ _, hI.same, x, b, rfl, hx⟩
      · intro f' v w6 hI hd
        obtain ⟨x, b, h6, hx⟩ : ∃ (x : ByteArray) (b : Bool), v 6 = .tuple #[.string x, .bool b] ∧ x.size ≤ 41 := hd 6 (by kernel_rfl)
        clear hd
        go_light
        refine ⟨?_⟩
        unfold Gives
        simp only [fillL]
        go_simp
        exact ⟨World.grownBy.refl _ _, hI.same, x, rfl, hx⟩
      · intro f' v w6 hI hd
        obtain ⟨x, b, h6, hx⟩ : ∃ (x : ByteArray) (b : Bool), v 6 = .tuple #[.string x, .bool b] ∧ x.size ≤ 41 := hd 6 (by kernel_rfl)
        clear hd
        go_light
        refine ⟨?_⟩
        unfold Gives
        simp only [fillL]
        go_simp
        exact ⟨World.grownBy.refl _ _, hI.same, b, rfl⟩
      · intro f' v w6 hI hd
        obtain ⟨x, h7, hx⟩ : ∃ x : ByteArray, v 7 = .string x ∧ x.size ≤ 41 := hd 7 (by kernel_rfl)
        clear hd
        go_light
        refine ⟨?_⟩
        unfold Gives
        simp only [fillL]
        go_simp
        exact ⟨World.grownBy.refl _ _, hI.same, x, rfl, hx⟩
      · intro f' v w6 hI hd
        obtain ⟨b, h8⟩ : ∃ b : Bool, v 8 = .bool b := hd 8 (by kernel_rfl)
        clear hd
        go_light
        refine ⟨?_⟩
        unfold Gives
        simp only [fillL]
        go_simp
        exact ⟨World.grownBy.refl _ _, hI.same, b, rfl⟩
    intro f' v wb hI hall
    obtain ⟨xb, h9, hxb⟩ : ∃ x : ByteArray, v 9 = .string x ∧ x.size ≤ 41 := hall 9 (by decide)
    obtain ⟨bb, h10⟩ : ∃ b : Bool, v 10 = .bool b := hall 10 (by decide)
    clear hall
    have stb := sta.go hI.gr hI.fin
    clear hI HC cd cc cs cf hgj hl3 sta
    refine ⟨?_⟩
    simp only [fillL]
    go_simp
    clear h9 h10
    cases bb
    · skip
      obtain ⟨cd, cc, cs, cf⟩ := stb.c3
      obtain ⟨e0, e1, e2, e3⟩ := stb.c2
      obtain ⟨f0, f1, f2, f3⟩ := stb.f2
      have gr := Lib.hid stb.gr
      have rd := Lib.hid stb.rdy
      clear stb
      go_wp2_with fail
      refine bodyPost_ret (v := .agg #[.int .i64 d, .int .i64 c, .string s, .string f]) (by simp [results, Try.results52, go_sem, *]) rfl ?_
      exact ⟨_, _, _, _, rfl, by omega, by omega, (rd.out.keep (N := w.heap.size) (((((Below.refl w.heap.size _).setCell (Nat.le_refl _) _).setCell (Nat.le_refl _) _).setCell (Nat.le_refl _) _).setCell (Nat.le_refl _) _) hB).more (by omega), gr_then gr.out (((((Below.refl w.heap.size _).setCell (Nat.le_refl _) _).setCell (Nat.le_refl _) _).setCell (Nat.le_refl _) _).setCell (Nat.le_refl _) _)⟩
    · go_wp2_with fail
      refine (pickI B g _ 3 _ stb.rdy (by omega) (by omega) (by omega)).mono ?_
      rintro e w8 ⟨k8, rfl, k80, k81, h8, g8⟩
      have st8 := stb.go g8 h8
      clear h8 g8 stb
      by_cases e8 : k8 = 0
      · subst e8
        obtain ⟨p2, p3⟩ := st8.f3
        have st9 := st8.set3 (x := xb) hne3
        obtain ⟨cd, cc, cs, cf⟩ := st8.c3
        obtain ⟨e0, e1, e2, e3⟩ := st8.c2
        obtain ⟨f0, f1, f2, f3⟩ := st8.f2
        have gr := Lib.hid st9.gr
        have rd := Lib.hid st9.rdy
        clear st8 st9
        go_wp2_with fail
        refine bodyPost_ret (v := .agg #[.int .i64 d, .int .i64 c, .string s, .string xb]) (by simp [results, Try.results52, go_sem, *]) rfl ?_
        exact ⟨_, _, _, _, rfl, by omega, by omega, (rd.out.keep (N := w.heap.size) (((((Below.refl w.heap.size _).setCell (Nat.le_refl _) _).setCell (Nat.le_refl _) _).setCell (Nat.le_refl _) _).setCell (Nat.le_refl _) _) hB).more (by omega), gr_then gr.out (((((Below.refl w.heap.size _).setCell (Nat.le_refl _) _).setCell (Nat.le_refl _) _).setCell (Nat.le_refl _) _).setCell (Nat.le_refl _) _)⟩
      · have d8 : (k8 == 0) = false := beq_eq_false_iff_ne.2 e8
        clear e8
        obtain ⟨cd, cc, cs, cf⟩ := st8.c3
        obtain ⟨e0, e1, e2, e3⟩ := st8.c2
        obtain ⟨f0, f1, f2, f3⟩ := st8.f2
        have gr := Lib.hid st8.gr
        have rd := Lib.hid st8.rdy
        clear st8
        go_wp2_with fail
        refine bodyPost_ret (v := .agg #[.int .i64 d, .int .i64 c, .string s, .string f]) (by simp [results, Try.results52, go_sem, *]) rfl ?_
        exact ⟨_, _, _, _, rfl, by omega, by omega, (rd.out.keep (N := w.heap.size) (((((Below.refl w.heap.size _).setCell (Nat.le_refl _) _).setCell (Nat.le_refl _) _).setCell (Nat.le_refl _) _).setCell (Nat.le_refl _) _) hB).more (by omega), gr_then gr.out (((((Below.refl w.heap.size _).setCell (Nat.le_refl _) _).setCell (Nat.le_refl _) _).setCell (Nat.le_refl _) _).setCell (Nat.le_refl _) _)⟩
  · go_wp2_with fail
    refine (pickI B g _ 2 _ sta.rdy (by omega) (by omega) (by omega)).mono ?_
    rintro e w7 ⟨k7, rfl, k70, k71, h7, g7⟩
    have st7 := sta.go g7 h7
    clear h7 g7 sta
    by_cases e7 : k7 = 0
    · subst e7
      obtain ⟨p2, p3⟩ := st7.f3
      obtain ⟨cd, cc, cs, cf⟩ := st7.c3
      go_wp2_with fail
      have st9 := st7.set2 (x := xa) hne3
      clear st7 p2 p3 cd cc cs cf
      generalize hW9 : w7.setCell ⟨j3, 2, none⟩ (.string xa) = W9 at st9
      obtain ⟨cd, cc, cs, cf⟩ := st9.c3
      have HC := Lib.hid cf
      have hgj := st9.gw
      have hl3 := st9.le3
      go_wp2_with fail
      refine wp_region_lawful (fun w1 w2 => w1.grownBy w2 (some g)) (CutI W9 B g (m + 18 + 11)) (cutT g j3 3 (41) f) (by kernel_rfl) (by kernel_rfl) cutT_keep ?_ ?_ ?_
      · exact CutI.start st9.rdy (by simp)
      · refine lawsFrom_cons rfl ?_ (lawsFrom_cons rfl ?_ (lawsFrom_cons rfl ?_ (lawsFrom_cons rfl ?_ (lawsFrom_cons rfl ?_ (lawsFrom_cons rfl ?_ (lawsFrom_cons rfl ?_ (lawsFrom_cons rfl ?_ (lawsFrom_cons rfl ?_ (lawsFrom_cons rfl ?_ (lawsFrom_cons rfl ?_ lawsFrom_nil))))))))))
        · intro f' v w6 hI hd
          clear hd
          go_light
          refine ⟨?_⟩
          unfold Gives
          simp only [fillL]
          go_simp
          exact ⟨World.grownBy.refl _ _, hI.same, rfl⟩
        · intro f' v w6 hI hd
          have h0 : v 0 = _ := hd 0 (by kernel_rfl)
          have hc6 := hI.gr.cell HC.out (by simp; omega)
          clear hd
          go_light
          refine ⟨?_⟩
          unfold Gives
          simp only [fillL]
          go_simp
          exact ⟨World.grownBy.refl _ _, hI.same, rfl⟩
        · intro f' v w6 hI hd
          clear hd
          go_light
          refine ⟨?_⟩
          unfold Gives
          simp only [fillL]
          go_simp
          exact ⟨World.grownBy.refl _ _, hI.same, rfl⟩
        · intro f' v w6 hI hd
          clear hd
          go_light
          refine ⟨?_⟩
          unfold Gives
          simp only [fillL]
          go_simp
          refine ⟨grownBy_alloc _ _ _, hI.below ((Below.refl _ _).alloc (Nat.le_refl _) _), w6.heap.size, rfl, ?_, by simp, fun j hj => ?_⟩
          · obtain ⟨_, _, hr⟩ := hI.rdy
            have := hr.lt
            omega
          · rcases (show j = 0 ∨ j = 1 ∨ j = 2 by omega) with rfl | rfl | rfl
            · exact ⟨⟨#[73]⟩, by decide, by simp⟩
            · exact ⟨⟨#[88]⟩, by decide, by simp⟩
            · exact ⟨⟨#[67]⟩, by decide, by simp⟩
        · intro f' v w6 hI hd
          have h2 : v 2 = _ := hd 2 (by kernel_rfl)
          obtain ⟨b, h3, hgb, ht⟩ : TTxt g w6 (v 3) := hd 3 (by kernel_rfl)
          obtain ⟨m6, hm6, hr6⟩ := hI.rdy
          clear hd
          go_light
          refine ⟨?_⟩
          unfold Gives
          simp only [fillL]
          go_simp
          refine (ofI B g m6 b 3 1 3 w6 hr6 (by omega) (by omega) (by omega) hgb ht).mono ?_
          rintro e w7 ⟨l, rfl, hl, hr7, g7⟩
          exact ⟨_, rfl, g7, ⟨grownBy_trans hI.gr g7, m6 + 1, by omega, hr7⟩, l, rfl, hl⟩
        · intro f' v w6 hI hd
          have h1 : v 1 = _ := hd 1 (by kernel_rfl)
          obtain ⟨l, h4, hl⟩ : ∃ l : ByteArray, v 4 = .string l ∧ l.size ≤ 1 := hd 4 (by kernel_rfl)
          clear hd
          go_light
          refine ⟨?_⟩
          unfold Gives
          simp only [fillL]
          go_simp
          refine (spec_NotchesCut f l w6 (by omega) hl).mono ?_
          rintro e w7 ⟨x, b, rfl, hx, n, rfl⟩
          exact ⟨_, rfl, grownBy_drewN (World.grownBy.refl _ _) n, hI.below ((Below.refl _ _).drewN n), x, b, rfl, by omega⟩
        · intro f' v w6 hI hd
          obtain ⟨x, b, h5, hx⟩ : ∃ (x : ByteArray) (b : Bool), v 5 = .tuple #[.string x, .bool b] ∧ x.size ≤ 41 := hd 5 (by kernel_rfl)
          clear hd
          go_light
          refine ⟨?_⟩
          unfold Gives
          simp only [fillL]
          go_simp
          exact ⟨World.grownBy.refl _ _, hI.same, x, b, rfl, hx⟩
        · intro f' v w6 hI hd
          obtain ⟨x, b, h6, hx⟩ : ∃ (x : ByteArray) (b : Bool), v 6 = .tuple #[.string x, .bool b] ∧ x.size ≤ 41 := hd 6 (by kernel_rfl)
          clear hd
          go_light
          refine ⟨?_⟩
          unfold Gives
          simp only [fillL]
          go_simp
          exact ⟨World.grownBy.refl _ _, hI.same, x, rfl, hx⟩
        · intro f' v w6 hI hd
          obtain ⟨x, b, h6, hx⟩ : ∃ (x : ByteArray) (b : Bool), v 6 = .tuple #[.string x, .bool b] ∧ x.size ≤ 41 := hd 6 (by kernel_rfl)
          clear hd
          go_light
          refine ⟨?_⟩
          unfold Gives
          simp only [fillL]
          go_simp
          exact ⟨World.grownBy.refl _ _, hI.same, b, rfl⟩
        · intro f' v w6 hI hd
          obtain ⟨x, h7, hx⟩ : ∃ x : ByteArray, v 7 = .string x ∧ x.size ≤ 41 := hd 7 (by kernel_rfl)
          clear hd
          go_light
          refine ⟨?_⟩
          unfold Gives
          simp only [fillL]
          go_simp
          exact ⟨World.grownBy.refl _ _, hI.same, x, rfl, hx⟩
        · intro f' v w6 hI hd
          obtain ⟨b, h8⟩ : ∃ b : Bool, v 8 = .bool b := hd 8 (by kernel_rfl)
          clear hd
          go_light
          refine ⟨?_⟩
          unfold Gives
          simp only [fillL]
          go_simp
          exact ⟨World.grownBy.refl _ _, hI.same, b, rfl⟩
      intro f' v wb hI hall
      obtain ⟨xb, h9, hxb⟩ : ∃ x : ByteArray, v 9 = .string x ∧ x.size ≤ 41 := hall 9 (by decide)
      obtain ⟨bb, h10⟩ : ∃ b : Bool, v 10 = .bool b := hall 10 (by decide)
      clear hall
      have stb := st9.go hI.gr hI.fin
      clear hI HC cd cc cs cf hgj hl3 st9
      refine ⟨?_⟩
      simp only [fillL]
      go_simp
      clear h9 h10
      cases bb
      · skip
        obtain ⟨cd, cc, cs, cf⟩ := stb.c3
        obtain ⟨e0, e1, e2, e3⟩ := stb.c2
        obtain ⟨f0, f1, f2, f3⟩ := stb.f2
        have gr := Lib.hid stb.gr
        have rd := Lib.hid stb.rdy
        clear stb
        go_wp2_with fail
        refine bodyPost_ret (v := .agg #[.int .i64 d, .int .i64 c, .string xa, .string f]) (by simp [results, Try.results52, go_sem, *]) rfl ?_
        exact ⟨_, _, _, _, rfl, by omega, by omega, (rd.out.keep (N := w.heap.size) (((((Below.refl w.heap.size _).setCell (Nat.le_refl _) _).setCell (Nat.le_refl _) _).setCell (Nat.le_refl _) _).setCell (Nat.le_refl _) _) hB).more (by omega), gr_then gr.out (((((Below.refl w.heap.size _).setCell (Nat.le_refl _) _).setCell (Nat.le_refl _) _).setCell (Nat.le_refl _) _).setCell (Nat.le_refl _) _)⟩
      · go_wp2_with fail
        refine (pickI B g _ 3 _ stb.rdy (by omega) (by omega) (by omega)).mono ?_
        rintro e w8 ⟨k8, rfl, k80, k81, h8, g8⟩
        have st8 := stb.go g8 h8
        clear h8 g8 stb
        by_cases e8 : k8 = 0
        · subst e8
          obtain ⟨p2, p3⟩ := st8.f3
          have st9 := st8.set3 (x := xb) hne3
          obtain ⟨cd, cc, cs, cf⟩ := st8.c3
          obtain ⟨e0, e1, e2, e3⟩ := st8.c2
          obtain ⟨f0, f1, f2, f3⟩ := st8.f2
          have gr := Lib.hid st9.gr
          have rd := Lib.hid st9.rdy
          clear st8 st9
          go_wp2_with fail
          refine bodyPost_ret (v := .agg #[.int .i64 d, .int .i64 c, .string xa, .string xb]) (by simp [results, Try.results52, go_sem, *]) rfl ?_
          exact ⟨_, _, _, _, rfl, by omega, by omega, (rd.out.keep (N := w.heap.size) (((((Below.refl w.heap.size _).setCell (Nat.le_refl _) _).setCell (Nat.le_refl _) _).setCell (Nat.le_refl _) _).setCell (Nat.le_refl _) _) hB).more (by omega), gr_then gr.out (((((Below.refl w.heap.size _).setCell (Nat.le_refl _) _).setCell (Nat.le_refl _) _).setCell (Nat.le_refl _) _).setCell (Nat.le_refl _) _)⟩
        · have d8 : (k8 == 0) = false := beq_eq_false_iff_ne.2 e8
          clear e8
          obtain ⟨cd, cc, cs, cf⟩ := st8.c3
          obtain ⟨e0, e1, e2, e3⟩ := st8.c2
          obtain ⟨f0, f1, f2, f3⟩ := st8.f2
          have gr := Lib.hid st8.gr
          have rd := Lib.hid st8.rdy
          clear st8
          go_wp2_with fail
          refine bodyPost_ret (v := .agg #[.int .i64 d, .int .i64 c, .string xa, .string f]) (by simp [results, Try.results52, go_sem, *]) rfl ?_
          exact ⟨_, _, _, _, rfl, by omega, by omega, (rd.out.keep (N := w.heap.size) (((((Below.refl w.heap.size _).setCell (Nat.le_refl _) _).setCell (Nat.le_refl _) _).setCell (Nat.le_refl _) _).setCell (Nat.le_refl _) _) hB).more (by omega), gr_then gr.out (((((Below.refl w.heap.size _).setCell (Nat.le_refl _) _).setCell (Nat.le_refl _) _).setCell (Nat.le_refl _) _).setCell (Nat.le_refl _) _)⟩
    · have d7 : (k7 == 0) = false := beq_eq_false_iff_ne.2 e7
      clear e7
      obtain ⟨cd, cc, cs, cf⟩ := st7.c3
      have HC := Lib.hid cf
      have hgj := st7.gw
      have hl3 := st7.le3
      go_wp2_with fail
      refine wp_region_lawful (fun w1 w2 => w1.grownBy w2 (some g)) (CutI w7 B g (m + 18 + 11)) (cutT g j3 3 (41) f) (by kernel_rfl) (by kernel_rfl) cutT_keep ?_ ?_ ?_
      · exact CutI.start st7.rdy (by simp)
      · refine lawsFrom_cons rfl ?_ (lawsFrom_cons rfl ?_ (lawsFrom_cons rfl ?_ (lawsFrom_cons rfl ?_ (lawsFrom_cons rfl ?_ (lawsFrom_cons rfl ?_ (lawsFrom_cons rfl ?_ (lawsFrom_cons rfl ?_ (lawsFrom_cons rfl ?_ (lawsFrom_cons rfl ?_ (lawsFrom_cons rfl ?_ lawsFrom_nil))))))))))
        · intro f' v w6 hI hd
          clear hd
          go_light
          refine ⟨?_⟩
          unfold Gives
          simp only [fillL]
          go_simp
          exact ⟨World.grownBy.refl _ _, hI.same, rfl⟩
        · intro f' v w6 hI hd
          have h0 : v 0 = _ := hd 0 (by kernel_rfl)
          have hc6 := hI.gr.cell HC.out (by simp; omega)
          clear hd
          go_light
          refine ⟨?_⟩
          unfold Gives
          simp only [fillL]
          go_simp
          exact ⟨World.grownBy.refl _ _, hI.same, rfl⟩
        · intro f' v w6 hI hd
          clear hd
          go_light
          refine ⟨?_⟩
          unfold Gives
          simp only [fillL]
          go_simp
          exact ⟨World.grownBy.refl _ _, hI.same, rfl⟩
        · intro f' v w6 hI hd
          clear hd
          go_light
          refine ⟨?_⟩
          unfold Gives
          simp only [fillL]
          go_simp
          refine ⟨grownBy_alloc _ _ _, hI.below ((Below.refl _ _).alloc (Nat.le_refl _) _), w6.heap.size, rfl, ?_, by simp, fun j hj => ?_⟩
          · obtain ⟨_, _, hr⟩ := hI.rdy
            have := hr.lt
            omega
          · rcases (show j = 0 ∨ j = 1 ∨ j = 2 by omega) with rfl | rfl | rfl
            · exact ⟨⟨#[73]⟩, by decide, by simp⟩
            · exact ⟨⟨#[88]⟩, by decide, by simp⟩
            · exact ⟨⟨#[67]⟩, by decide, by simp⟩
        · intro f' v w6 hI hd
          have h2 : v 2 = _ := hd 2 (by kernel_rfl)
          obtain ⟨b, h3, hgb, ht⟩ : TTxt g w6 (v 3) := hd 3 (by kernel_rfl)
          obtain ⟨m6, hm6, hr6⟩ := hI.rdy
          clear hd
          go_light
          refine ⟨?_⟩
          unfold Gives
          simp only [fillL]
          go_simp
          refine (ofI B g m6 b 3 1 3 w6 hr6 (by omega) (by omega) (by omega) hgb ht).mono ?_
          rintro e w7 ⟨l, rfl, hl, hr7, g7⟩
          exact ⟨_, rfl, g7, ⟨grownBy_trans hI.gr g7, m6 + 1, by omega, hr7⟩, l, rfl, hl⟩
        · intro f' v w6 hI hd
          have h1 : v 1 = _ := hd 1 (by kernel_rfl)
          obtain ⟨l, h4, hl⟩ : ∃ l : ByteArray, v 4 = .string l ∧ l.size ≤ 1 := hd 4 (by kernel_rfl)
          clear hd
          go_light
          refine ⟨?_⟩
          unfold Gives
          simp only [fillL]
          go_simp
          refine (spec_NotchesCut f l w6 (by omega) hl).mono ?_
          rintro e w7 ⟨x, b, rfl, hx, n, rfl⟩
          exact ⟨_, rfl, grownBy_drewN (World.grownBy.refl _ _) n, hI.below ((Below.refl _ _).drewN n), x, b, rfl, by omega⟩
        · intro f' v w6 hI hd
          obtain ⟨x, b, h5, hx⟩ : ∃ (x : ByteArray) (b : Bool), v 5 = .tuple #[.string x, .bool b] ∧ x.size ≤ 41 := hd 5 (by kernel_rfl)
          clear hd
          go_light
          refine ⟨?_⟩
          unfold Gives
          simp only [fillL]
          go_simp
          exact ⟨World.grownBy.refl _ _, hI.same, x, b, rfl, hx⟩
        · intro f' v w6 hI hd
          obtain ⟨x, b, h6, hx⟩ : ∃ (x : ByteArray) (b : Bool), v 6 = .tuple #[.string x, .bool b] ∧ x.size ≤ 41 := hd 6 (by kernel_rfl)
          clear hd
          go_light
          refine ⟨?_⟩
          unfold Gives
          simp only [fillL]
          go_simp
          exact ⟨World.grownBy.refl _ _, hI.same, x, rfl, hx⟩
        · intro f' v w6 hI hd
          obtain ⟨x, b, h6, hx⟩ : ∃ (x : ByteArray) (b : Bool), v 6 = .tuple #[.string x, .bool b] ∧ x.size ≤ 41 := hd 6 (by kernel_rfl)
          clear hd
          go_light
          refine ⟨?_⟩
          unfold Gives
          simp only [fillL]
          go_simp
          exact ⟨World.grownBy.refl _ _, hI.same, b, rfl⟩
        · intro f' v w6 hI hd
          obtain ⟨x, h7, hx⟩ : ∃ x : ByteArray, v 7 = .string x ∧ x.size ≤ 41 := hd 7 (by kernel_rfl)
          clear hd
          go_light
          refine ⟨?_⟩
          unfold Gives
          simp only [fillL]
          go_simp
          exact ⟨World.grownBy.refl _ _, hI.same, x, rfl, hx⟩
        · intro f' v w6 hI hd
          obtain ⟨b, h8⟩ : ∃ b : Bool, v 8 = .bool b := hd 8 (by kernel_rfl)
          clear hd
          go_light
          refine ⟨?_⟩
          unfold Gives
          simp only [fillL]
          go_simp
          exact ⟨World.grownBy.refl _ _, hI.same, b, rfl⟩
      intro f' v wb hI hall
      obtain ⟨xb, h9, hxb⟩ : ∃ x : ByteArray, v 9 = .string x ∧ x.size ≤ 41 := hall 9 (by decide)
      obtain ⟨bb, h10⟩ : ∃ b : Bool, v 10 = .bool b := hall 10 (by decide)
      clear hall
      have stb := st7.go hI.gr hI.fin
      clear hI HC cd cc cs cf hgj hl3 st7
      refine ⟨?_⟩
      simp only [fillL]
      go_simp
      clear h9 h10
      cases bb
      · skip
        obtain ⟨cd, cc, cs, cf⟩ := stb.c3
        obtain ⟨e0, e1, e2, e3⟩ := stb.c2
        obtain ⟨f0, f1, f2, f3⟩ := stb.f2
        have gr := Lib.hid stb.gr
        have rd := Lib.hid stb.rdy
        clear stb
        go_wp2_with fail
        refine bodyPost_ret (v := .agg #[.int .i64 d, .int .i64 c, .string s, .string f]) (by simp [results, Try.results52, go_sem, *]) rfl ?_
        exact ⟨_, _, _, _, rfl, by omega, by omega, (rd.out.keep (N := w.heap.size) (((((Below.refl w.heap.size _).setCell (Nat.le_refl _) _).setCell (Nat.le_refl _) _).setCell (Nat.le_refl _) _).setCell (Nat.le_refl _) _) hB).more (by omega), gr_then gr.out (((((Below.refl w.heap.size _).setCell (Nat.le_refl _) _).setCell (Nat.le_refl _) _).setCell (Nat.le_refl _) _).setCell (Nat.le_refl _) _)⟩
      · go_wp2_with fail
        refine (pickI B g _ 3 _ stb.rdy (by omega) (by omega) (by omega)).mono ?_
        rintro e w8 ⟨k8, rfl, k80, k81, h8, g8⟩
        have st8 := stb.go g8 h8
        clear h8 g8 stb
        by_cases e8 : k8 = 0
        · subst e8
          obtain ⟨p2, p3⟩ := st8.f3
          have st9 := st8.set3 (x := xb) hne3
          obtain ⟨cd, cc, cs, cf⟩ := st8.c3
          obtain ⟨e0, e1, e2, e3⟩ := st8.c2
          obtain ⟨f0, f1, f2, f3⟩ := st8.f2
          have gr := Lib.hid st9.gr
          have rd := Lib.hid st9.rdy
          clear st8 st9
          go_wp2_with fail
          refine bodyPost_ret (v := .agg #[.int .i64 d, .int .i64 c, .string s, .string xb]) (by simp [results, Try.results52, go_sem, *]) rfl ?_
          exact ⟨_, _, _, _, rfl, by omega, by omega, (rd.out.keep (N := w.heap.size) (((((Below.refl w.heap.size _).setCell (Nat.le_refl _) _).setCell (Nat.le_refl _) _).setCell (Nat.le_refl _) _).setCell (Nat.le_refl _) _) hB).more (by omega), gr_then gr.out (((((Below.refl w.heap.size _).setCell (Nat.le_refl _) _).setCell (Nat.le_refl _) _).setCell (Nat.le_refl _) _).setCell (Nat.le_refl _) _)⟩
        · have d8 : (k8 == 0) = false := beq_eq_false_iff_ne.2 e8
          clear e8
          obtain ⟨cd, cc, cs, cf⟩ := st8.c3
          obtain ⟨e0, e1, e2, e3⟩ := st8.c2
          obtain ⟨f0, f1, f2, f3⟩ := st8.f2
          have gr := Lib.hid st8.gr
          have rd := Lib.hid st8.rdy
          clear st8
          go_wp2_with fail
          refine bodyPost_ret (v := .agg #[.int .i64 d, .int .i64 c, .string s, .string f]) (by simp [results, Try.results52, go_sem, *]) rfl ?_
          exact ⟨_, _, _, _, rfl, by omega, by omega, (rd.out.keep (N := w.heap.size) (((((Below.refl w.heap.size _).setCell (Nat.le_refl _) _).setCell (Nat.le_refl _) _).setCell (Nat.le_refl _) _).setCell (Nat.le_refl _) _) hB).more (by omega), gr_then gr.out (((((Below.refl w.heap.size _).setCell (Nat.le_refl _) _).setCell (Nat.le_refl _) _).setCell (Nat.le_refl _) _).setCell (Nat.le_refl _) _)⟩
end Go.Proofs.Ytfdabeikcpccgaa
