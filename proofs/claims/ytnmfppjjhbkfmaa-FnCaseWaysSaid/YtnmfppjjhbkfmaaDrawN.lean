/- What l91Numeral, l91At, l91Digit draw. -/
import Derived.Test.YtnmfppjjhbkfmaaPickI
namespace Go.Proofs.Ytnmfppjjhbkfmaa
open Go.RowKit

theorem grown_le {a b c : World} {g : Nat} {row : Option Nat} (h : a.grownBy b (some g)) (k : b.grownBy c row) (hr : ∀ j, row = some j → a.heap.size ≤ j) : a.grownBy c (some g) :=
  ⟨k.os.trans h.os, k.tape.trans h.tape, k.output.trans h.output, Nat.le_trans h.size k.size, fun i hi hne => (k.block i (Nat.lt_of_lt_of_le hi h.size) (fun e => by have := hr i e.symm; omega)).trans (h.block i hi hne)⟩
theorem below_new (w : World) (o : Obj) : Below w.heap.size w (w.alloc o) := (Below.refl _ _).alloc (Nat.le_refl _) _
theorem Sl.pick {w w1 : World} {base g c : Nat} {A : Option Addr} {zs : List Int} (h : Sl w base A c zs) (k : w.grownBy w1 (some g)) (hg : g < base) : Sl w1 base A c zs :=
  h.grown k (by
    rcases hx : blk A with _ | j
    · exact .inl rfl
    · refine .inr fun e => ?_
      have := (h.lt j hx).1
      injection e with e
      omega)

/-- A list of few numbers is drawn. -/
def NumDrawn (B0 g m : Nat) (w : World) (e : Ending) (w' : World) : Prop := ∃ A c zs, e = .returned (.slice A zs.length c) ∧ Sl w' w.heap.size A c zs ∧ zs.length ≤ 7 ∧ RdyI B0 w' g m ∧ w.grownBy w' (some g)

set_option maxRecDepth 100000 in
set_option maxHeartbeats 1000000 in
theorem l91Numeral (B0 g m M : Nat) (w : World) (h : RdyI B0 w g m) (hB : B0 ≤ w.heap.size) (hm : m ≤ 1000000) (hM : M ≤ 6) (hM1 : 1 ≤ M) :
    Calls Try.prog 20 #[.pointer (some ⟨g, 0, none⟩), .int .i64 (M : Int)] w (NumDrawn B0 g (m + 10) w) := by
  have hgw := h.lt
  have hb0 := below_new w (.cells #[] 3)
  have HS0 := Lib.hid (Sl.lit w w.heap.size (Nat.le_refl _) [] #[] rfl (by simp))
  go_enter Try.func20, Try.ntmps20
  go_wp2_with fail
  refine (pickI B0 g m (M : Int) _ (h.below hb0) (by omega) (by omega) (by omega)).mono ?_
  rintro e w1 ⟨x, rfl, x0, x1, h1, g1⟩
  obtain ⟨N, rfl⟩ := Int.eq_ofNat_of_zero_le x0
  have HS1 := Lib.hid (HS0.out.pick g1 hgw)
  have HR1 := Lib.hid h1
  have HG1 := Lib.hid (grownBy_trans (grownBy_of_below hb0 (some g)) g1)
  clear h1 g1 hb0 h
  go_wp2_with fail
  go_loopw [5, 7] (fun q i wr => ∃ (k : Nat) (A : Option Addr) (c : Nat) (xs : List Int), k ≤ N + 1 ∧ i = .int .i64 k ∧ q = .slice A xs.length c ∧ xs.length = k ∧ Sl wr w.heap.size A c xs ∧ RdyI B0 wr g (m + 1 + k) ∧ w.grownBy wr (some g)) (fun _ i _ => N + 1 - (intOf i).toNat)
  case atStart => exact ⟨0, _, _, [], Nat.zero_le _, rfl, rfl, rfl, HS1.out, HR1.out, HG1.out⟩
  case round =>
    obtain ⟨k, A, c, xs, hk, rfl, rfl, hx, hs, hrd, hg⟩ := hrel
    have HX := Lib.hid hx
    have lx : xs.length ≤ 6 := by omega
    have hzr := hg.size
    clear hx
    by_cases hlt : k < N + 1
    · go_wp2_with fail
      refine (pickI B0 g (m + 1 + k) 10 wr hrd (by omega) (by omega) (by omega)).mono ?_
      rintro e wq ⟨y, rfl, y0, y1, hrq, gq⟩
      have sq := hs.pick gq hgw
      have hzq := gq.size
      have HGq := Lib.hid (grownBy_trans hg gq)
      clear hs hrd hg gq
      go_wp2_with (at_builtin; refine wp_ap1 _ _ rfl rfl wq w.heap.size A c xs _ rfl rfl sq (by omega) (by omega) ?_; intro A1 c1 w2 s2 g2 _)
      go_roundw
      case rel => exact ⟨k + 1, A1, c1, _, by omega, by go_num, by rw [List.length_append]; rfl, by rw [List.length_append]; simp [HX.out], s2, hrq.own g2 (fun j hj => by have := (sq.lt j hj).1; omega), grown_le HGq.out g2 (fun j hj => (sq.lt j hj).1)⟩
      case measure => simp [intOf]; omega
    · obtain rfl : k = N + 1 := by omega
      go_wp2_with fail
      refine (pickI B0 g (m + 1 + (N + 1)) 40 wr hrd (by omega) (by omega) (by omega)).mono ?_
      rintro e wq ⟨y, rfl, y0, y1, hrq, gq⟩
      have sq := hs.pick gq hgw
      have hzq := gq.size
      have Gq := grownBy_trans hg gq
      clear hs hrd hg gq
      by_cases e0 : y = 0
      · subst e0
        have hn0 : xs ≠ [] := fun h => by have := HX.out; rw [h] at this; simp at this
        obtain ⟨a, rfl, _, _⟩ := sq.addr hn0
        have hp : 0 < xs.length := List.length_pos_iff.2 hn0
        have bt := below_new wq (.cells #[.int .i64 (-1), .int .i64 10] 3)
        have st := sq.alloc (.cells #[.int .i64 (-1), .int .i64 10] 3)
        have HGt := Lib.hid (grown_le Gq (grownBy_of_below bt none) (fun j hj => by cases hj))
        have hgq : g < wq.heap.size := by omega
        clear hn0
        go_wp2_with fail
        refine (pickI B0 g _ 2 _ (hrq.below bt) (by omega) (by omega) (by omega)).mono ?_
        rintro e wz ⟨j, rfl, j0, j1, hrz, gz⟩
        have sz := st.pick gz hgw
        have t0 := tab_cell gz hgq 0 _ rfl
        have t1 := tab_cell gz hgq 1 _ rfl
        have k0 := sz.cell (j := 0) hp
        have kf := sz.free 0
        have ⟨al, au⟩ := sz.lt a rfl
        have tl := World.block_lt_of_cell? wz _ t0
        simp only at tl
        have HR := Lib.hid (fun z : Int => hrz.own (grownBy_set wz a 0 (.int .i64 z)) (fun j hj => by injection hj; omega))
        have HZ := Lib.hid (fun z : Int => grown_le (grownBy_trans HGt.out gz) (grownBy_set wz a 0 (.int .i64 z)) (fun j hj => by injection hj; omega))
        have HS := Lib.hid (fun z : Int => sz.set_ 0 z)
        clear hrq hrz sz st sq
        rcases (show j = 0 ∨ j = 1 by omega) with rfl | rfl
        · go_wp2_with fail
          go_ret
          exact ⟨_, c, xs.set 0 (-1), by rw [List.length_set]; rfl, HS.out _, by rw [List.length_set]; omega, (HR.out _).more (by omega), HZ.out _⟩
        · go_wp2_with fail
          go_ret
          exact ⟨_, c, xs.set 0 10, by rw [List.length_set]; rfl, HS.out _, by rw [List.length_set]; omega, (HR.out _).more (by omega), HZ.out _⟩
      have d0 : (y == 0) = false := beq_eq_false_iff_ne.2 e0
      by_cases e1 : y = 1
      · subst e1
        go_wp2_with fail
        go_ret
        exact ⟨_, 0, [], rfl, Sl.lit wq w.heap.size (by omega) [] #[] rfl (by simp), by simp, (hrq.below (below_new _ _)).more (by omega), grown_le Gq (grownBy_of_below (below_new _ _) none) (fun j hj => by cases hj)⟩
      have d1 : (y == 1) = false := beq_eq_false_iff_ne.2 e1
      by_cases e2 : y = 2
      · subst e2
        go_wp2_with fail
        go_ret
        exact ⟨_, 7, [1, 2, 3, 4, 5, 6, 7], rfl, Sl.lit wq w.heap.size (by omega) [1, 2, 3, 4, 5, 6, 7] _ rfl (by simp), by simp, (hrq.below (below_new _ _)).more (by omega), grown_le Gq (grownBy_of_below (below_new _ _) none) (fun j hj => by cases hj)⟩
      have d2 : (y == 2) = false := beq_eq_false_iff_ne.2 e2
      go_wp2_with fail
      go_ret
      exact ⟨A, c, xs, rfl, sq, by omega, hrq.more (by omega), Gq⟩

/-- A number in range is drawn. -/
def IntDrawn (lo hi : Int) (B0 g m : Nat) (w : World) (e : Ending) (w' : World) : Prop := ∃ k : Int, e = .returned (.int .i64 k) ∧ lo ≤ k ∧ k ≤ hi ∧ RdyI B0 w' g m ∧ w.grownBy w' (some g)

/-- A list is drawn from a code. -/
def DrawNum (w : World) (e : Ending) (w' : World) : Prop := ∃ A c zs, e = .returned (.slice A zs.length c) ∧ Sl w' w.heap.size A c zs ∧ zs.length ≤ 7 ∧ Below w.heap.size w w'
theorem below_of_g {a b : World} {B g : Nat} (h : a.grownBy b (some g)) (hB : B ≤ a.heap.size) (hg : B ≤ g) : Below B a b := below_of_grown h hB (fun k hk => by injection hk; omega)

end Go.Proofs.Ytnmfppjjhbkfmaa
