/- What DrawNumeralExchange and DrawNumeralSlip draw. -/
import Derived.Test.YtceigfdmaeanaaaDrawN
namespace Go.Proofs.Ytceigfdmaeanaaa
open Go.RowKit

theorem IntDrawn.of {lo hi : Int} {B0 g m m' : Nat} {w w' : World} {k : Int} (h0 : lo ≤ k) (h1 : k ≤ hi) (hr : RdyI B0 w' g m) (hm : m ≤ m') (hg : w.grownBy w' (some g)) : IntDrawn lo hi B0 g m' w (.returned (.int .i64 k)) w' := ⟨k, rfl, h0, h1, hr.more hm, hg⟩

set_option maxRecDepth 100000 in
theorem l91At (B0 g m n : Nat) (w : World) (h : RdyI B0 w g m) (hm : m ≤ 1000000) (hn : n ≤ 1000) :
    Calls Try.prog 56 #[.pointer (some ⟨g, 0, none⟩), .int .i64 (n : Int)] w (IntDrawn (-1) (n : Int) B0 g (m + 3) w) := by
  have hgw := h.lt
  by_cases h0 : n = 0
  · subst h0
    have bt := below_new w (.cells #[.int .i64 (-1), .int .i64 0] 3)
    have HGt := Lib.hid (grownBy_of_below bt (some g))
    go_enter Try.func56, Try.ntmps56
    go_wp2_with fail
    refine (pickI B0 g m 2 _ (h.below bt) (by omega) (by omega) (by omega)).mono ?_
    rintro e wz ⟨j, rfl, j0, j1, hrz, gz⟩
    have t0 := tab_cell gz hgw 0 _ rfl
    have t1 := tab_cell gz hgw 1 _ rfl
    have tl := World.block_lt_of_cell? wz _ t0
    simp only at tl
    have HZ := Lib.hid (grownBy_trans HGt.out gz)
    have HR := Lib.hid hrz
    clear hrz gz
    rcases (show j = 0 ∨ j = 1 by omega) with rfl | rfl
    · go_wp2_with fail
      go_ret
      exact IntDrawn.of (by omega) (by omega) HR.out (by omega) HZ.out
    · go_wp2_with fail
      go_ret
      exact IntDrawn.of (by omega) (by omega) HR.out (by omega) HZ.out
  have d0 : ((n : Int) == 0) = false := beq_eq_false_iff_ne.2 (by omega)
  go_enter Try.func56, Try.ntmps56
  go_wp2_with fail
  refine (pickI B0 g m 20 _ h (by omega) (by omega) (by omega)).mono ?_
  rintro e wq ⟨y, rfl, y0, y1, hrq, gq⟩
  have hgq := hrq.lt
  by_cases e0 : y = 0
  · subst e0
    have bt := below_new wq (.cells #[.int .i64 (-1), .int .i64 (n : Int)] 3)
    have HGt := Lib.hid (grownBy_trans gq (grownBy_of_below bt (some g)))
    go_wp2_with fail
    refine (pickI B0 g (m + 1) 2 _ (hrq.below bt) (by omega) (by omega) (by omega)).mono ?_
    rintro e wz ⟨j, rfl, j0, j1, hrz, gz⟩
    have t0 := tab_cell gz hgq 0 _ rfl
    have t1 := tab_cell gz hgq 1 _ rfl
    have tl := World.block_lt_of_cell? wz _ t0
    simp only at tl
    have HZ := Lib.hid (grownBy_trans HGt.out gz)
    have HR := Lib.hid hrz
    clear hrz gz
    rcases (show j = 0 ∨ j = 1 by omega) with rfl | rfl
    · go_wp2_with fail
      go_ret
      exact IntDrawn.of (by omega) (by omega) HR.out (by omega) HZ.out
    · go_wp2_with fail
      go_ret
      exact IntDrawn.of (by omega) (by omega) HR.out (by omega) HZ.out
  · have d1 : (y == 0) = false := beq_eq_false_iff_ne.2 e0
    go_wp2_with fail
    refine (pickI B0 g (m + 1) (n : Int) _ hrq (by omega) (by omega) (by omega)).mono ?_
    rintro e wz ⟨j, rfl, j0, j1, hrz, gz⟩
    have HZ := Lib.hid (grownBy_trans gq gz)
    go_wp2_with fail
    go_ret
    exact IntDrawn.of (by omega) (by omega) hrz (by omega) HZ.out

theorem l91At0 (B0 g m : Nat) (w : World) (h : RdyI B0 w g m) (hm : m ≤ 1000000) :
    Calls Try.prog 56 #[.pointer (some ⟨g, 0, none⟩), .int .i64 0] w (IntDrawn (-1) 7 B0 g (m + 3) w) := by
  refine (l91At B0 g m 0 w h hm (by omega)).mono ?_
  rintro e w' ⟨k, rfl, k0, k1, r, g1⟩
  exact ⟨k, rfl, k0, by omega, r, g1⟩
theorem l91At1 (B0 g m n : Nat) (w : World) (h : RdyI B0 w g m) (hm : m ≤ 1000000) (hn : 1 ≤ n) (h7 : n ≤ 7) :
    Calls Try.prog 56 #[.pointer (some ⟨g, 0, none⟩), .int .i64 ((n : Int) - 1)] w (IntDrawn (-1) 7 B0 g (m + 3) w) := by
  rw [show (n : Int) - 1 = ((n - 1 : Nat) : Int) by omega]
  refine (l91At B0 g m (n - 1) w h hm (by omega)).mono ?_
  rintro e w' ⟨k, rfl, k0, k1, r, g1⟩
  exact ⟨k, rfl, k0, by omega, r, g1⟩

set_option maxRecDepth 100000 in
theorem l91Digit (B0 g m : Nat) (w : World) (h : RdyI B0 w g m) (hm : m ≤ 1000000) :
    Calls Try.prog 57 #[.pointer (some ⟨g, 0, none⟩)] w (IntDrawn (-1) 10 B0 g (m + 3) w) := by
  go_enter Try.func57, Try.ntmps57
  go_wp2_with fail
  refine (pickI B0 g m 20 _ h (by omega) (by omega) (by omega)).mono ?_
  rintro e wq ⟨y, rfl, y0, y1, hrq, gq⟩
  have hgq := hrq.lt
  by_cases e0 : y = 0
  · subst e0
    have bt := below_new wq (.cells #[.int .i64 (-1), .int .i64 10] 3)
    have HGt := Lib.hid (grownBy_trans gq (grownBy_of_below bt (some g)))
    go_wp2_with fail
    refine (pickI B0 g (m + 1) 2 _ (hrq.below bt) (by omega) (by omega) (by omega)).mono ?_
    rintro e wz ⟨j, rfl, j0, j1, hrz, gz⟩
    have t0 := tab_cell gz hgq 0 _ rfl
    have t1 := tab_cell gz hgq 1 _ rfl
    have tl := World.block_lt_of_cell? wz _ t0
    simp only at tl
    have HZ := Lib.hid (grownBy_trans HGt.out gz)
    have HR := Lib.hid hrz
    clear hrz gz
    rcases (show j = 0 ∨ j = 1 by omega) with rfl | rfl
    · go_wp2_with fail
      go_ret
      exact IntDrawn.of (by omega) (by omega) HR.out (by omega) HZ.out
    · go_wp2_with fail
      go_ret
      exact IntDrawn.of (by omega) (by omega) HR.out (by omega) HZ.out
  · have d1 : (y == 0) = false := beq_eq_false_iff_ne.2 e0
    go_wp2_with fail
    refine (pickI B0 g (m + 1) 10 _ hrq (by omega) (by omega) (by omega)).mono ?_
    rintro e wz ⟨j, rfl, j0, j1, hrz, gz⟩
    have HZ := Lib.hid (grownBy_trans gq gz)
    go_wp2_with fail
    go_ret
    exact IntDrawn.of (by omega) (by omega) hrz (by omega) HZ.out

/-- A list and a place are drawn from a code. -/
def DrawNum1 (w : World) (e : Ending) (w' : World) : Prop := ∃ A c zs i, e = .returned (.tuple #[.slice A zs.length c, .int .i64 i]) ∧ Sl w' w.heap.size A c zs ∧ zs.length ≤ 7 ∧ -1 ≤ i ∧ i ≤ 10 ∧ Below w.heap.size w w'
def DrawNum2 (w : World) (e : Ending) (w' : World) : Prop := ∃ A c zs i d, e = .returned (.tuple #[.slice A zs.length c, .int .i64 i, .int .i64 d]) ∧ Sl w' w.heap.size A c zs ∧ zs.length ≤ 7 ∧ -1 ≤ i ∧ i ≤ 10 ∧ -1 ≤ d ∧ d ≤ 10 ∧ Below w.heap.size w w'

set_option maxRecDepth 100000 in
theorem DrawNumeralExchange (A : Option Addr) (c : Nat) (zs : List Int) (w : World) (h : Came .u8 w A c zs) : Calls Try.prog 40 #[.slice A zs.length c] w (DrawNum1 w) := by
  go_enter Try.func40, Try.ntmps40
  go_wp2_with fail
  refine (l6Open _ _ _ _ h).mono ?_
  rintro e w1 ⟨rfl, r1, b1⟩
  have hr1 := RdyI.of r1
  have hgl := r1.lt
  go_wp2_with fail
  refine (l91Numeral w1.heap.size w.heap.size 0 6 w1 hr1 (Nat.le_refl _) (by omega) (by omega) (by omega)).mono ?_
  rintro e w2 ⟨A2, c2, zs2, rfl, s2, l2, r2, g2⟩
  have hz2 := g2.size
  have HB := Lib.hid b1
  go_wp2_with fail
  · refine (l91At1 w1.heap.size w.heap.size 10 zs2.length _ r2 (by omega) (by omega) l2).mono ?_
    rintro e w3 ⟨k, rfl, k0, k1, r3, g3⟩
    have s3 := s2.pick g3 hgl
    have HB3 := Lib.hid (HB.out.trans ((below_of_g g2 (by omega) (Nat.le_refl _)).trans (below_of_g g3 (by omega) (Nat.le_refl _))))
    clear s2 r2 r3 g3
    go_wp2_with fail
    go_ret2
    exact ⟨A2, c2, zs2, k, rfl, s3.down (by omega), l2, k0, by omega, HB3.out⟩
  · refine (l91At0 w1.heap.size w.heap.size 10 _ r2 (by omega)).mono ?_
    rintro e w3 ⟨k, rfl, k0, k1, r3, g3⟩
    have s3 := s2.pick g3 hgl
    have HB3 := Lib.hid (HB.out.trans ((below_of_g g2 (by omega) (Nat.le_refl _)).trans (below_of_g g3 (by omega) (Nat.le_refl _))))
    clear s2 r2 r3 g3
    go_wp2_with fail
    go_ret2
    exact ⟨A2, c2, zs2, k, rfl, s3.down (by omega), l2, k0, by omega, HB3.out⟩

set_option maxRecDepth 100000 in
theorem DrawNumeralSlip (A : Option Addr) (c : Nat) (zs : List Int) (w : World) (h : Came .u8 w A c zs) : Calls Try.prog 38 #[.slice A zs.length c] w (DrawNum2 w) := by
  go_enter Try.func38, Try.ntmps38
  go_wp2_with fail
  refine (l6Open _ _ _ _ h).mono ?_
  rintro e w1 ⟨rfl, r1, b1⟩
  have hr1 := RdyI.of r1
  have hgl := r1.lt
  go_wp2_with fail
  refine (l91Numeral w1.heap.size w.heap.size 0 6 w1 hr1 (Nat.le_refl _) (by omega) (by omega) (by omega)).mono ?_
  rintro e w2 ⟨A2, c2, zs2, rfl, s2, l2, r2, g2⟩
  have hz2 := g2.size
  have HB := Lib.hid b1
  go_wp2_with fail
  refine (l91At w1.heap.size w.heap.size 10 zs2.length _ r2 (by omega) (by omega)).mono ?_
  rintro e w3 ⟨k, rfl, k0, k1, r3, g3⟩
  have hz3 := g3.size
  have s3 := s2.pick g3 hgl
  clear s2 r2
  go_wp2_with fail
  refine (l91Digit w1.heap.size w.heap.size 13 _ r3 (by omega)).mono ?_
  rintro e w4 ⟨d, rfl, d0, d1, r4, g4⟩
  have s4 := s3.pick g4 hgl
  have HB4 := Lib.hid (HB.out.trans ((below_of_g g2 (by omega) (Nat.le_refl _)).trans ((below_of_g g3 (by omega) (Nat.le_refl _)).trans (below_of_g g4 (by omega) (Nat.le_refl _)))))
  clear s3 r3 r4
  go_wp2_with fail
  refine bodyPost_ret (v := .tuple #[.slice A2 zs2.length c2, .int .i64 k, .int .i64 d]) (by simp [results, Try.results38, go_sem, *]) rfl ?_
  exact ⟨A2, c2, zs2, k, d, rfl, s4.down (by omega), l2, k0, by omega, d0, d1, HB4.out⟩
end Go.Proofs.Ytceigfdmaeanaaa
