/- What DrawNumeralFar draws: two lists. -/
import Derived.Test.YtceigfdmaeanaabDrawN
import Derived.Test.YtceigfdmaeanaabNinM
namespace Go.Proofs.Ytceigfdmaeanaab
open Go.RowKit

/-- Two lists are drawn from a code. -/
def DrawTwo (w : World) (e : Ending) (w' : World) : Prop := ∃ A c xs B d ys, e = .returned (.tuple #[.slice A xs.length c, .slice B ys.length d]) ∧ Rd .i64 w' A xs ∧ Rd .i64 w' B ys ∧ xs.length ≤ 7 ∧ ys.length ≤ 7 ∧ Below w.heap.size w w'

/-- A list and the reader stand by. -/
structure FarSt (w0 : World) (B0 g m : Nat) (A : Option Addr) (c : Nat) (zs : List Int) (w : World) : Prop where
  sl : Sl w B0 A c zs
  r : RdyI B0 w g m
  bel : Below w0.heap.size w0 w
  gw : w0.heap.size ≤ g
  bz : B0 ≤ w.heap.size
section
variable {w0 w w1 : World} {B0 g m : Nat} {A : Option Addr} {c : Nat} {zs : List Int}
theorem FarSt.pick (h : FarSt w0 B0 g m A c zs w) (r : RdyI B0 w1 g (m + 1)) (k : w.grownBy w1 (some g)) : FarSt w0 B0 g (m + 1) A c zs w1 :=
  ⟨h.sl.pick k h.r.1, r, h.bel.trans (below_of_g k h.bel.size h.gw), h.gw, Nat.le_trans h.bz k.size⟩
theorem FarSt.below (h : FarSt w0 B0 g m A c zs w) (k : Below w.heap.size w w1) : FarSt w0 B0 g m A c zs w1 :=
  ⟨h.sl.below k, h.r.below k, bstep h.bel k, h.gw, Nat.le_trans h.bz k.size⟩
end
theorem slipL_7 {zs : List Int} (h : zs.length ≤ 7) (i d : Int) : (slipL zs i d).length ≤ 7 := by
  unfold slipL; split
  · rw [List.length_set]; exact h
  · simp
theorem exchL_7 {zs : List Int} (h : zs.length ≤ 7) (i : Int) : (exchL zs i).length ≤ 7 := by
  unfold exchL; split
  · rw [List.length_set, List.length_set]; exact h
  · simp

set_option maxRecDepth 100000 in
set_option maxHeartbeats 2000000 in
theorem DrawNumeralFar (A : Option Addr) (c : Nat) (zs : List Int) (w : World) (h : Came .u8 w A c zs) : Calls Try.prog 9 #[.slice A zs.length c] w (DrawTwo w) := by
  go_enter Try.func9, Try.ntmps9
  go_wp2_with fail
  refine (l6Open _ _ _ _ h).mono ?_
  rintro e w1 ⟨rfl, r1, b1⟩
  have hr1 := RdyI.of r1
  have hgl := r1.lt
  go_wp2_with fail
  refine (l91Numeral w1.heap.size w.heap.size 0 6 w1 hr1 (Nat.le_refl _) (by omega) (by omega) (by omega)).mono ?_
  rintro e w2 ⟨A2, c2, zs2, rfl, s2, l2, r2, g2⟩
  have st2 : FarSt w w1.heap.size w.heap.size 10 A2 c2 zs2 w2 := ⟨s2, r2, b1.trans (below_of_g g2 (by omega) (Nat.le_refl _)), Nat.le_refl _, g2.size⟩
  clear s2 r2 g2 b1 hr1 r1
  go_wp2_with fail
  refine (pickI w1.heap.size w.heap.size 10 6 w2 st2.r (by omega) (by omega) (by omega)).mono ?_
  rintro e w3 ⟨k, rfl, k0, k1, r3, g3⟩
  have st3 := st2.pick r3 g3
  clear st2 r3 g3
  go_wp2_with fail
  refine (spec_NumeralExchange A2 c2 zs2 k w3 st3.sl.rd (by omega)).mono ?_
  rintro e w4 ⟨A4, c4, rfl, s4, b4⟩
  have st4 := st3.below b4
  have l4 := exchL_7 l2 k
  have hb4 := b4.size
  cases hx : exchB zs2 k
  · go_wp2_with fail
    refine (pickI w1.heap.size w.heap.size 11 6 w4 st4.r (by omega) (by omega) (by omega)).mono ?_
    rintro e v1 ⟨i, rfl, i0, i1, q1, h1⟩
    have t1 := st4.pick q1 h1
    clear q1 h1
    go_wp2_with fail
    refine (pickI w1.heap.size w.heap.size 12 10 v1 t1.r (by omega) (by omega) (by omega)).mono ?_
    rintro e v2 ⟨d, rfl, d0, d1, q2, h2⟩
    have t2 := t1.pick q2 h2
    clear q2 h2 t1
    go_wp2_with fail
    refine (spec_NumeralSlip A2 c2 zs2 i d v2 t2.sl.rd t2.sl.nz (by omega)).mono ?_
    rintro e v3 ⟨A5, c5, rfl, s5, b5⟩
    have t3 := t2.below b5
    have l5 := slipL_7 l2 i d
    have hb5 := t2.bz
    clear t2 b5
    cases hy : slipB zs2 i d
    · go_wp2_with fail
      refine (l91Numeral w1.heap.size w.heap.size 13 6 _ t3.r t3.bz (by omega) (by omega) (by omega)).mono ?_
      rintro e v5 ⟨A6, c6, zs6, rfl, s6, l6, r6, g6⟩
      have HA := Lib.hid (t3.sl.pick g6 hgl).rd
      have HB := Lib.hid (t3.bel.trans (below_of_g g6 t3.bel.size (Nat.le_refl _)))
      clear t3
      go_wp2_with fail
      go_ret2
      exact ⟨A2, c2, zs2, A6, c6, zs6, rfl, HA.out, s6.rd, l2, l6, HB.out⟩
    · go_wp2_with fail
      refine (pickI w1.heap.size w.heap.size 13 3 v3 t3.r (by omega) (by omega) (by omega)).mono ?_
      rintro e v4 ⟨j, rfl, j0, j1, q4, h4⟩
      have t4 := t3.pick q4 h4
      by_cases hj : j = 0
      · subst hj
        clear q4 h4 t3
        go_wp2_with fail
        refine (l91Numeral w1.heap.size w.heap.size 14 6 _ t4.r t4.bz (by omega) (by omega) (by omega)).mono ?_
        rintro e v5 ⟨A6, c6, zs6, rfl, s6, l6, r6, g6⟩
        have HA := Lib.hid (t4.sl.pick g6 hgl).rd
        have HB := Lib.hid (t4.bel.trans (below_of_g g6 t4.bel.size (Nat.le_refl _)))
        clear t4
        go_wp2_with fail
        go_ret2
        exact ⟨A2, c2, zs2, A6, c6, zs6, rfl, HA.out, s6.rd, l2, l6, HB.out⟩
      · have hj' : decide (0 < j) = true := by simp; omega
        have hz4 := t3.bz
        have HB := Lib.hid (s5.pick h4 (show w.heap.size < v2.heap.size by omega)).rd
        clear q4 h4 t3
        go_wp2_with fail
        go_ret2
        exact ⟨A2, c2, zs2, A5, c5, slipL zs2 i d, rfl, t4.sl.rd, HB.out, l2, l5, t4.bel⟩
  · go_wp2_with fail
    refine (pickI w1.heap.size w.heap.size 11 2 w4 st4.r (by omega) (by omega) (by omega)).mono ?_
    rintro e w5 ⟨j, rfl, j0, j1, q5, h5⟩
    have st5 := st4.pick q5 h5
    by_cases hj : j = 0
    · subst hj
      have hz4 := st3.bz
      have HB := Lib.hid (s4.pick h5 (show w.heap.size < w3.heap.size by omega)).rd
      clear q5 h5 st4 st3
      go_wp2_with fail
      go_ret2
      exact ⟨A2, c2, zs2, A4, c4, exchL zs2 k, rfl, st5.sl.rd, HB.out, l2, l4, st5.bel⟩
    · have hj' : (j == 0) = false := beq_eq_false_iff_ne.2 hj
      clear q5 h5 st4 st3
      go_wp2_with fail
      refine (pickI w1.heap.size w.heap.size 12 6 w5 st5.r (by omega) (by omega) (by omega)).mono ?_
      rintro e v1 ⟨i, rfl, i0, i1, q1, h1⟩
      have t1 := st5.pick q1 h1
      clear q1 h1
      go_wp2_with fail
      refine (pickI w1.heap.size w.heap.size 13 10 v1 t1.r (by omega) (by omega) (by omega)).mono ?_
      rintro e v2 ⟨d, rfl, d0, d1, q2, h2⟩
      have t2 := t1.pick q2 h2
      clear q2 h2 t1
      go_wp2_with fail
      refine (spec_NumeralSlip A2 c2 zs2 i d v2 t2.sl.rd t2.sl.nz (by omega)).mono ?_
      rintro e v3 ⟨A5, c5, rfl, s5, b5⟩
      have t3 := t2.below b5
      have l5 := slipL_7 l2 i d
      have hb5 := t2.bz
      clear t2 b5
      cases hy : slipB zs2 i d
      · go_wp2_with fail
        refine (l91Numeral w1.heap.size w.heap.size 14 6 _ t3.r t3.bz (by omega) (by omega) (by omega)).mono ?_
        rintro e v5 ⟨A6, c6, zs6, rfl, s6, l6, r6, g6⟩
        have HA := Lib.hid (t3.sl.pick g6 hgl).rd
        have HB := Lib.hid (t3.bel.trans (below_of_g g6 t3.bel.size (Nat.le_refl _)))
        clear t3
        go_wp2_with fail
        go_ret2
        exact ⟨A2, c2, zs2, A6, c6, zs6, rfl, HA.out, s6.rd, l2, l6, HB.out⟩
      · go_wp2_with fail
        refine (pickI w1.heap.size w.heap.size 14 3 v3 t3.r (by omega) (by omega) (by omega)).mono ?_
        rintro e v4 ⟨j, rfl, j0, j1, q4, h4⟩
        have t4 := t3.pick q4 h4
        by_cases hj : j = 0
        · subst hj
          clear q4 h4 t3
          go_wp2_with fail
          refine (l91Numeral w1.heap.size w.heap.size 15 6 _ t4.r t4.bz (by omega) (by omega) (by omega)).mono ?_
          rintro e v5 ⟨A6, c6, zs6, rfl, s6, l6, r6, g6⟩
          have HA := Lib.hid (t4.sl.pick g6 hgl).rd
          have HB := Lib.hid (t4.bel.trans (below_of_g g6 t4.bel.size (Nat.le_refl _)))
          clear t4
          go_wp2_with fail
          go_ret2
          exact ⟨A2, c2, zs2, A6, c6, zs6, rfl, HA.out, s6.rd, l2, l6, HB.out⟩
        · have hj' : decide (0 < j) = true := by simp; omega
          have hz4 := t3.bz
          have HB := Lib.hid (s5.pick h4 (show w.heap.size < v2.heap.size by omega)).rd
          clear q4 h4 t3
          go_wp2_with fail
          go_ret2
          exact ⟨A2, c2, zs2, A5, c5, slipL zs2 i d, rfl, t4.sl.rd, HB.out, l2, l5, t4.bel⟩
end Go.Proofs.Ytceigfdmaeanaab
