/- The tally that the reference draws. -/
import Derived.Test.YtfdabeikcpccgaaOfT
import Derived.Test.YtfdabeikcpccgaaTalNew
import Derived.Test.YtfdabeikcpccgaaFraud
namespace Go.Proofs.Ytfdabeikcpccgaa
open Go.RowKit

theorem RdyI.keep {B N g m : Nat} {w w' : World} (h : RdyI B w g m) (k : Below N w w') (hN : B ≤ N) : RdyI B w' g m := by
  obtain ⟨h0, A, c, zs, p, h1, h2, h3⟩ := h
  refine ⟨h0, A, c, zs, p, ⟨(k.block g (by omega)).trans h1.blk, fun hn => ?_, h1.ne, h1.len, h1.u8⟩, h2, h3⟩
  obtain ⟨b, off, hA, hc⟩ := h1.rd hn
  have hb := h3 hn b off hA
  exact ⟨b, off, hA, fun j hj => (k.cell (p := ⟨b, off + j, none⟩) (by simp; omega)).trans (hc j hj)⟩
theorem gr_then {a b c : World} {g : Nat} (h : a.grownBy b (some g)) (k : Below a.heap.size b c) : a.grownBy c (some g) :=
  ⟨k.os.trans h.os, k.tape.trans h.tape, k.output.trans h.output, Nat.le_trans h.size k.size, fun i hi hne => (k.block i hi).trans (h.block i hi hne)⟩
theorem gr_below {a b c : World} {g : Nat} (h : a.grownBy b (some g)) (k : Below b.heap.size b c) : a.grownBy c (some g) := gr_then h (k.mono h.size)
theorem gcell {W w1 : World} {g : Nat} (h : W.grownBy w1 (some g)) : (∀ b o, b < W.heap.size → b ≠ g → w1.cell? ⟨b, o, none⟩ = W.cell? ⟨b, o, none⟩) ∧ (∀ b o, b < W.heap.size → b ≠ g → w1.frozen? ⟨b, o, none⟩ = W.frozen? ⟨b, o, none⟩) :=
  ⟨fun b o h1 h2 => World.cell?_of_block (w := W) (h.block b h1 (by simp; omega)), fun b o h1 h2 => World.frozen?_of_block (w := W) (h.block b h1 (by simp; omega))⟩

/-- A tally with short notches is drawn. -/
def TalDrawn (B g m n : Nat) (w : World) (e : Ending) (w' : World) : Prop := ∃ (d c : Int) (s f : ByteArray), e = .returned (.agg #[.int .i64 d, .int .i64 c, .string s, .string f]) ∧ s.size ≤ n ∧ f.size ≤ n ∧ RdyI B w' g m ∧ w.grownBy w' (some g)

set_option maxRecDepth 100000 in
set_option maxHeartbeats 1000000 in
theorem l92Tally (B g m : Nat) (w : World) (h : RdyI B w g m) (hB : B ≤ w.heap.size) (hm : m ≤ 999000) :
    Calls Try.prog 65 #[.pointer (some ⟨g, 0, none⟩)] w (TalDrawn B g (m + 6) 40 w) := by
  have hgw := h.lt
  have hne : w.heap.size ≠ g := by omega
  go_enter Try.func65, Try.ntmps65
  go_wp2_with fail
  refine (pickI B g m 5 _ (h.keep (N := w.heap.size) ((Below.refl _ _).alloc (Nat.le_refl _) _) hB) (by omega) (by omega) (by omega)).mono ?_
  rintro e w1 ⟨a, rfl, a0, a1, h1, g1⟩
  go_wp2_with fail
  refine (pickI B g _ 4 _ h1 (by omega) (by omega) (by omega)).mono ?_
  rintro e w2 ⟨k, rfl, k0, k1, h2, g2⟩
  replace g2 := grownBy_trans g1 g2
  clear g1 h1
  have htwo : twoB a ((a + 1 + k) % 5) = true := by
    simp only [twoB, inB, Bool.and_eq_true, decide_eq_true_eq, bne_iff_ne]
    omega
  go_wp2_with fail
  refine (pickI B g _ 60 _ h2 (by omega) (by omega) (by omega)).mono ?_
  rintro e w3 ⟨x, rfl, x0, x1, h3, g3⟩
  replace g3 := grownBy_trans g2 g3
  clear g2 h2
  go_wp2_with fail
  refine (pickI B g _ 20 _ h3 (by omega) (by omega) (by omega)).mono ?_
  rintro e w4 ⟨y, rfl, y0, y1, h4, g4⟩
  replace g4 := grownBy_trans g3 g4
  clear g3 h3
  have m0 : 0 ≤ x * (1 + y) := Int.mul_nonneg x0 (by omega)
  have m1 : x * (1 + y) ≤ 59 * 20 := Int.mul_le_mul (by omega) (by omega) (by omega) (by omega)
  obtain ⟨n, hn⟩ : ∃ n : Nat, 1 + x * (1 + y) = (n : Int) := ⟨(1 + x * (1 + y)).toNat, by omega⟩
  have n1 : 1 ≤ n := by omega
  have n2 : n ≤ 9999 := by omega
  go_wp2_with fail
  refine (spec_TallyNew_y _ _ n _ n2 n1 htwo).mono ?_
  rintro e w5 ⟨rfl, b5⟩
  replace h4 := h4.below b5
  replace g4 := gr_below g4 b5
  have hs5 := notL_size n n2
  obtain ⟨q1, q2⟩ := gcell g4
  have hz5 : w.heap.size < w5.heap.size := by have := g4.size; simp at this; omega
  clear m0 m1 hn htwo b5
  go_wp2_with fail
  refine (pickI B g _ 60 _ (h4.below ((Below.refl _ _).alloc (Nat.le_refl _) _)) (by omega) (by omega) (by omega)).mono ?_
  rintro e w6 ⟨k6, rfl, k60, k61, h6, g6⟩
  have hg5 := h4.lt
  have hne5 : w5.heap.size ≠ g := by omega
  have hz56 : w.heap.size < w5.heap.size + 1 := by omega
  obtain ⟨q3, q4⟩ := gcell g6
  have hz6 : w5.heap.size < w6.heap.size := by have := g6.size; simp at this; omega
  have hz26 : w.heap.size < w6.heap.size := by omega
  have G6 := Lib.hid (grownBy_trans (grownBy_trans (grownBy_alloc w _ _) (gr_below g4 ((Below.refl _ _).alloc (Nat.le_refl _) _))) g6)
  clear g4 g6 h4
  have hg6 := h6.lt
  have hne6 : w6.heap.size ≠ g := by omega
  have hz57 : w5.heap.size < w6.heap.size + 1 := by omega
  have hz27 : w.heap.size < w6.heap.size + 1 := by omega
  by_cases e0 : k6 = 0
  · subst e0
    go_wp2_with fail
    refine (pickI B g _ 3 _ (h6.below ((Below.refl _ _).alloc (Nat.le_refl _) _)) (by omega) (by omega) (by omega)).mono ?_
    rintro e w7 ⟨k7, rfl, k70, k71, h7, g7⟩
    obtain ⟨q5, q6⟩ := gcell g7
    have t0 := tab_cell g7 hg6 0 _ rfl
    have t1 := tab_cell g7 hg6 1 _ rfl
    have t2 := tab_cell g7 hg6 2 _ rfl
    have G7 := Lib.hid (grownBy_trans (gr_below G6.out ((Below.refl _ _).alloc (Nat.le_refl _) _)) g7)
    have hz25 : ¬ w5.heap.size < w.heap.size := by omega
    clear g7
    rcases (show k7 = 0 ∨ k7 = 1 ∨ k7 = 2 by omega) with rfl | rfl | rfl
    · go_wp2_with fail
      refine bodyPost_ret (v := .agg #[.int .i64 a, .int .i64 (a), .string (str (notL n)), .string (str (notL n))]) (by simp [results, Try.results65, go_sem, *]) rfl ?_
      exact ⟨_, _, _, _, rfl, by omega, by omega, (h7.keep (N := w.heap.size) ((((((Below.refl w.heap.size _).setCell (by simp; omega) _).setCell (Nat.le_refl _) _).setCell (Nat.le_refl _) _).setCell (Nat.le_refl _) _).setCell (Nat.le_refl _) _) hB).more (by omega), gr_then G7.out ((((((Below.refl w.heap.size _).setCell (by simp; omega) _).setCell (Nat.le_refl _) _).setCell (Nat.le_refl _) _).setCell (Nat.le_refl _) _).setCell (Nat.le_refl _) _)⟩
    · go_wp2_with fail
      refine bodyPost_ret (v := .agg #[.int .i64 a, .int .i64 (5), .string (str (notL n)), .string (str (notL n))]) (by simp [results, Try.results65, go_sem, *]) rfl ?_
      exact ⟨_, _, _, _, rfl, by omega, by omega, (h7.keep (N := w.heap.size) ((((((Below.refl w.heap.size _).setCell (by simp; omega) _).setCell (Nat.le_refl _) _).setCell (Nat.le_refl _) _).setCell (Nat.le_refl _) _).setCell (Nat.le_refl _) _) hB).more (by omega), gr_then G7.out ((((((Below.refl w.heap.size _).setCell (by simp; omega) _).setCell (Nat.le_refl _) _).setCell (Nat.le_refl _) _).setCell (Nat.le_refl _) _).setCell (Nat.le_refl _) _)⟩
    · go_wp2_with fail
      refine bodyPost_ret (v := .agg #[.int .i64 a, .int .i64 (-1), .string (str (notL n)), .string (str (notL n))]) (by simp [results, Try.results65, go_sem, *]) rfl ?_
      exact ⟨_, _, _, _, rfl, by omega, by omega, (h7.keep (N := w.heap.size) ((((((Below.refl w.heap.size _).setCell (by simp; omega) _).setCell (Nat.le_refl _) _).setCell (Nat.le_refl _) _).setCell (Nat.le_refl _) _).setCell (Nat.le_refl _) _) hB).more (by omega), gr_then G7.out ((((((Below.refl w.heap.size _).setCell (by simp; omega) _).setCell (Nat.le_refl _) _).setCell (Nat.le_refl _) _).setCell (Nat.le_refl _) _).setCell (Nat.le_refl _) _)⟩
  by_cases e1 : k6 = 1
  · subst e1
    go_wp2_with fail
    refine (ofI B g _ w6.heap.size 3 2 3 _ (h6.below ((Below.refl _ _).alloc (Nat.le_refl _) _)) (by omega) (by omega) (by omega) (by omega) ⟨by simp, fun j hj => ?_⟩).mono ?_
    · rcases (show j = 0 ∨ j = 1 ∨ j = 2 by omega) with rfl | rfl | rfl
      · exact ⟨⟨#[]⟩, by decide, by simp⟩
      · exact ⟨⟨#[73]⟩, by decide, by simp⟩
      · exact ⟨⟨#[73, 88]⟩, by decide, by simp⟩
    rintro e w7 ⟨s7, rfl, hs7, h7, g7⟩
    obtain ⟨q5, q6⟩ := gcell g7
    have G7 := Lib.hid (grownBy_trans (gr_below G6.out ((Below.refl _ _).alloc (Nat.le_refl _) _)) g7)
    clear g7
    go_wp2_with fail
    refine bodyPost_ret (v := .agg #[.int .i64 a, .int .i64 (((a + 1 + k) % 5)), .string (str (notL n)), .string (s7)]) (by simp [results, Try.results65, go_sem, *]) rfl ?_
    exact ⟨_, _, _, _, rfl, by omega, by omega, (h7.keep (N := w.heap.size) ((((((Below.refl w.heap.size _).setCell (by simp; omega) _).setCell (Nat.le_refl _) _).setCell (Nat.le_refl _) _).setCell (Nat.le_refl _) _).setCell (Nat.le_refl _) _) hB).more (by omega), gr_then G7.out ((((((Below.refl w.heap.size _).setCell (by simp; omega) _).setCell (Nat.le_refl _) _).setCell (Nat.le_refl _) _).setCell (Nat.le_refl _) _).setCell (Nat.le_refl _) _)⟩
  have d0 : (k6 == 0) = false := beq_eq_false_iff_ne.2 e0
  have d1 : (k6 == 1) = false := beq_eq_false_iff_ne.2 e1
  clear e0 e1
  go_wp2_with fail
  refine bodyPost_ret (v := .agg #[.int .i64 a, .int .i64 (((a + 1 + k) % 5)), .string (str (notL n)), .string (str (notL n))]) (by simp [results, Try.results65, go_sem, *]) rfl ?_
  exact ⟨_, _, _, _, rfl, by omega, by omega, (h6.keep (N := w.heap.size) (((((Below.refl w.heap.size _).setCell (Nat.le_refl _) _).setCell (Nat.le_refl _) _).setCell (Nat.le_refl _) _).setCell (Nat.le_refl _) _) hB).more (by omega), gr_then G6.out (((((Below.refl w.heap.size _).setCell (Nat.le_refl _) _).setCell (Nat.le_refl _) _).setCell (Nat.le_refl _) _).setCell (Nat.le_refl _) _)⟩
end Go.Proofs.Ytfdabeikcpccgaa
