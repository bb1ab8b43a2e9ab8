/- Boards: the program's layOut. -/
import Derived.Test.YtnmfppjjhbkfmaaDoorBrdI
namespace Go.Proofs.YtnmfppjjhbkfmaaDoor
open Go.RowKit

/-- A box of ten counters of the call's own. -/
def Bt (w : World) (base g : Nat) (zs : List Int) : Prop :=
  w.ownsRow base 41 1 (.slice (some ⟨g, 0, none⟩) 10 10) 10 (zs.map (Value.int .i64))
section
variable {w w' : World} {base g : Nat} {zs : List Int}
theorem Bt.len (h : Bt w base g zs) : zs.length = 10 := by
  have := h.1
  simpa using this
theorem Bt.lt (h : Bt w base g zs) : base ≤ g ∧ g < w.heap.size := World.ownsRow.lt h g rfl
theorem Bt.cell (h : Bt w base g zs) {j : Nat} (hj : j < 10) : w.cell? ⟨g, j, none⟩ = some (.int .i64 (nth zs j)) := by
  rw [World.ownsRow.cellAt h j (by omega), List.getElem?_map, nth_lt (by rw [h.len]; exact hj)]; rfl
theorem Bt.free (h : Bt w base g zs) (j : Nat) : w.frozen? ⟨g, j, none⟩ = false := World.ownsRow.frozenAt h j
theorem Bt.set_ (h : Bt w base g zs) (j : Nat) (z : Int) : Bt (w.setCell ⟨g, j, none⟩ (.int .i64 z)) base g (zs.set j z) := by
  have := (World.ownsRow.stored h j (.int .i64 z)).1
  unfold Bt
  rw [List.map_set]
  exact this
theorem Bt.grown (h : Bt w base g zs) {row : Option Nat} (hg : w.grownBy w' row) (hne : some g ≠ row) : Bt w' base g zs :=
  World.ownsRow.kept h hg (.inr hne)
theorem Bt.below (h : Bt w base g zs) (hb : Below w.heap.size w w') : Bt w' base g zs :=
  h.grown (row := none) ⟨hb.os, hb.tape, hb.output, hb.size, fun k hk _ => hb.block k hk⟩ (by simp)
theorem Bt.alloc (h : Bt w base g zs) (o : Obj) : Bt (w.alloc o) base g zs := World.ownsRow.alloc h o
theorem Bt.new (w : World) : Bt (w.alloc (.cells #[.int .i64 0, .int .i64 0, .int .i64 0, .int .i64 0, .int .i64 0, .int .i64 0, .int .i64 0, .int .i64 0, .int .i64 0, .int .i64 0] 41)) w.heap.size w.heap.size (List.replicate 10 0) :=
  World.ownsRow_lit (base := w.heap.size) (e := 41) (size := 1) w #[.int .i64 0, .int .i64 0, .int .i64 0, .int .i64 0, .int .i64 0, .int .i64 0, .int .i64 0, .int .i64 0, .int .i64 0, .int .i64 0] 10 (Nat.le_refl _) (by simp [maxLen]) (by simp)
end

def fil (zs : List Int) (j : Nat) : List Int := zs.take j ++ List.replicate (zs.length - j) 0
theorem fil_len (zs : List Int) (j : Nat) (h : j ≤ zs.length) : (fil zs j).length = zs.length := by simp [fil]; omega
theorem fil_zero (zs : List Int) : fil zs 0 = List.replicate zs.length 0 := by simp [fil]
theorem fil_all (zs : List Int) : fil zs zs.length = zs := by simp [fil]
theorem fil_succ (zs : List Int) (j : Nat) (h : j < zs.length) : (fil zs j).set j (nth zs j) = fil zs (j + 1) := by
  unfold fil
  rw [take_nth h, List.set_append_right _ _ (by simp; omega), List.length_take, Nat.min_eq_left (by omega), Nat.sub_self, show zs.length - j = (zs.length - (j + 1)) + 1 from by omega, List.replicate_succ, List.set_cons_zero]
  simp

theorem below_set10 {B b : Nat} {a w1 : World} {v0 v1 v2 v3 v4 v5 v6 v7 v8 v9 : Value} (h : Below B a w1) (hb : B ≤ b) : Below B a ((((((((((w1.setCell ⟨b, 0, none⟩ v0).setCell ⟨b, 1, none⟩ v1).setCell ⟨b, 2, none⟩ v2).setCell ⟨b, 3, none⟩ v3).setCell ⟨b, 4, none⟩ v4).setCell ⟨b, 5, none⟩ v5).setCell ⟨b, 6, none⟩ v6).setCell ⟨b, 7, none⟩ v7).setCell ⟨b, 8, none⟩ v8).setCell ⟨b, 9, none⟩ v9) :=
  ((((((((((h.setCell (p := ⟨b, 0, none⟩) hb v0).setCell (p := ⟨b, 1, none⟩) hb v1).setCell (p := ⟨b, 2, none⟩) hb v2).setCell (p := ⟨b, 3, none⟩) hb v3).setCell (p := ⟨b, 4, none⟩) hb v4).setCell (p := ⟨b, 5, none⟩) hb v5).setCell (p := ⟨b, 6, none⟩) hb v6).setCell (p := ⟨b, 7, none⟩) hb v7).setCell (p := ⟨b, 8, none⟩) hb v8).setCell (p := ⟨b, 9, none⟩) hb v9)
/-- The counters that layOut answers. -/
def laidL (zs : List Int) : List Int := if brdB zs then zs else []
def LayPost (w : World) (zs : List Int) (e : Ending) (w' : World) : Prop :=
  e = .returned (.tuple #[ten (laidL zs), .bool (brdB zs)]) ∧ Below w.heap.size w w'

set_option maxRecDepth 100000 in
set_option maxHeartbeats 1000000 in
theorem layOut_no (A : Option Addr) (c : Nat) (zs : List Int) (w : World) (hn : zs.length ≠ 10) (_ : zs.length ≤ 4194304) :
    Calls Tryd.prog 19 #[.slice A zs.length c] w (LayPost w zs) := by
  have hb : brdB zs = false := by simp [brdB, hn]
  have hd : ((zs.length : Int) != 10) = true := by simp; omega
  have HP := Lib.hid (fun e w' (h : e = .returned (.tuple #[ten [], .bool false]) ∧ Below w.heap.size w w') => (show LayPost w zs e w' by unfold LayPost laidL; rw [hb]; exact h))
  clear hb hn
  go_enter Tryd.func19, Tryd.ntmps19
  go_wp2_with fail
  refine bodyPost_ret (v := .tuple #[ten [], .bool false]) (by simp [results, Tryd.results19, go_sem, *] <;> rfl) rfl ?_
  refine HP.out _ _ ⟨rfl, ?_⟩
  exact ((Below.refl _ _).alloc (Nat.le_refl _) _).alloc (by simp) _

set_option maxRecDepth 100000 in
set_option maxHeartbeats 2000000 in
theorem layOut_ten (A : Option Addr) (c : Nat) (zs : List Int) (w : World) (hr : Rd .i64 w A zs) (h10 : zs.length = 10) :
    Calls Tryd.prog 19 #[.slice A zs.length c] w (LayPost w zs) := by
  have HB0 := Lib.hid (Bt.new w)
  have hd : ((zs.length : Int) != 10) = false := by simp [h10]
  have hi : (zs.length : Int) = 10 := by omega
  have H10 := Lib.hid h10
  have HBW := Lib.hid (((Below.refl w.heap.size w).alloc (Nat.le_refl _) (.cells #[.int .i64 0, .int .i64 0, .int .i64 0, .int .i64 0, .int .i64 0, .int .i64 0, .int .i64 0, .int .i64 0, .int .i64 0, .int .i64 0] 41)))
  obtain ⟨W, hW⟩ : ∃ W, w.alloc (.cells #[.int .i64 0, .int .i64 0, .int .i64 0, .int .i64 0, .int .i64 0, .int .i64 0, .int .i64 0, .int .i64 0, .int .i64 0, .int .i64 0] 41) = W := ⟨_, rfl⟩
  rw [hW] at HB0 HBW
  have hz : W.heap.size = w.heap.size + 1 := by rw [← hW]; simp
  have HZ := Lib.hid hz
  have HB1 := Lib.hid (Bt.new W)
  rw [hz] at HB1
  have HHW := Lib.hid hW
  clear h10 hW hz
  go_enter Tryd.func19, Tryd.ntmps19
  go_wp2_with fail
  rw [HHW.out]
  go_loopw [13] (fun i wr => ∃ j : Nat, j ≤ 10 ∧ i = .int .i64 (j : Int) ∧ Bt wr w.heap.size w.heap.size (List.replicate 10 0) ∧ Bt wr (w.heap.size + 1) (w.heap.size + 1) (fil zs j) ∧ Below w.heap.size w wr) (fun i _ => 10 - (intOf i).toNat)
  case atStart =>
    refine ⟨0, Nat.zero_le _, rfl, HB0.out.alloc _, ?_, HBW.out.alloc (by rw [HZ.out]; omega) _⟩
    rw [fil_zero, H10.out]
    exact HB1.out
  case round =>
    obtain ⟨j, hj, rfl, hB0, hB1, hb⟩ := hrel
    have x0 := hB0.lt.2
    have x1 := hB1.lt.2
    by_cases hlt : j < 10
    · obtain ⟨b, off, rfl, hbl, hc⟩ := (hr.below hb).at (i := j) (by rw [H10.out]; exact hlt)
      have hf := hB1.free j
      have hcell := hB1.cell hlt
      have hlt2 : (j : Int) < (zs.length : Int) := by rw [hi]; omega
      have HS : Hid (Bt (wr.setCell ⟨w.heap.size + 1, j, none⟩ (.int .i64 (nth zs j))) (w.heap.size + 1) (w.heap.size + 1) (fil zs (j + 1))) := Lib.hid (by
        rw [← fil_succ zs j (by rw [H10.out]; exact hlt)]
        exact hB1.set_ j (nth zs j))
      have HT := Lib.hid (hB0.grown (grownBy_set wr (w.heap.size + 1) j (.int .i64 (nth zs j))) (by simp))
      have HB := Lib.hid (hb.setCell (p := ⟨w.heap.size + 1, j, none⟩) (Nat.le_succ _) (.int .i64 (nth zs j)))
      clear hB0 hB1 hb
      go_wp2_with fail
      go_roundw
      case rel => exact ⟨j + 1, by omega, by go_num, HT.out, HS.out, HB.out⟩
      case measure => simp [intOf]; omega
    · obtain rfl : j = 10 := by omega
      rw [show fil zs 10 = zs by rw [← H10.out]; exact fil_all zs] at hB1
      have a0 := hB1.cell (j := 0) (by omega)
      have a1 := hB1.cell (j := 1) (by omega)
      have a2 := hB1.cell (j := 2) (by omega)
      have a3 := hB1.cell (j := 3) (by omega)
      have a4 := hB1.cell (j := 4) (by omega)
      have a5 := hB1.cell (j := 5) (by omega)
      have a6 := hB1.cell (j := 6) (by omega)
      have a7 := hB1.cell (j := 7) (by omega)
      have a8 := hB1.cell (j := 8) (by omega)
      have a9 := hB1.cell (j := 9) (by omega)
      have HC0 := Lib.hid hB0
      have HC1 := Lib.hid hB1
      have HC := Lib.hid hb
      clear hB0 hB1 hb
      go_wp2_with fail
      refine (fits zs wr H10.out).mono ?_
      rintro e w1 ⟨rfl, b1⟩
      have b0 := HC0.out.below b1
      have hB1 := HC1.out.below b1
      have x2 := b0.lt.2
      have x3 := hB1.lt.2
      have a0 := hB1.cell (j := 0) (by omega)
      have a1 := hB1.cell (j := 1) (by omega)
      have a2 := hB1.cell (j := 2) (by omega)
      have a3 := hB1.cell (j := 3) (by omega)
      have a4 := hB1.cell (j := 4) (by omega)
      have a5 := hB1.cell (j := 5) (by omega)
      have a6 := hB1.cell (j := 6) (by omega)
      have a7 := hB1.cell (j := 7) (by omega)
      have a8 := hB1.cell (j := 8) (by omega)
      have a9 := hB1.cell (j := 9) (by omega)
      have f0 := b0.free 0
      have f1 := b0.free 1
      have f2 := b0.free 2
      have f3 := b0.free 3
      have f4 := b0.free 4
      have f5 := b0.free 5
      have f6 := b0.free 6
      have f7 := b0.free 7
      have f8 := b0.free 8
      have f9 := b0.free 9
      have e0 := b0.cell (j := 0) (by omega)
      have e1 := b0.cell (j := 1) (by omega)
      have e2 := b0.cell (j := 2) (by omega)
      have e3 := b0.cell (j := 3) (by omega)
      have e4 := b0.cell (j := 4) (by omega)
      have e5 := b0.cell (j := 5) (by omega)
      have e6 := b0.cell (j := 6) (by omega)
      have e7 := b0.cell (j := 7) (by omega)
      have e8 := b0.cell (j := 8) (by omega)
      have e9 := b0.cell (j := 9) (by omega)
      have HR := Lib.hid (bstep HC.out b1)
      clear b1 b0 hB1
      cases hf : brdB zs
      · have HP := Lib.hid (fun e w' (h : e = .returned (.tuple #[ten [], .bool false]) ∧ Below w.heap.size w w') => (show LayPost w zs e w' by unfold LayPost laidL; rw [hf]; exact h))
        go_wp2_with fail
        refine bodyPost_ret (v := .tuple #[ten [], .bool false]) (by simp [results, Tryd.results19, go_sem, *] <;> rfl) rfl ?_
        refine HP.out _ _ ⟨rfl, ?_⟩
        exact below_set10 HR.out (Nat.le_refl _)
      · have HP := Lib.hid (fun e w' (h : e = .returned (.tuple #[ten zs, .bool true]) ∧ Below w.heap.size w w') => (show LayPost w zs e w' by unfold LayPost laidL; rw [hf]; exact h))
        go_wp2_with fail
        refine bodyPost_ret (v := .tuple #[ten zs, .bool true]) (by simp [results, Tryd.results19, go_sem, *] <;> rfl) rfl ?_
        refine HP.out _ _ ⟨rfl, ?_⟩
        exact below_set10 HR.out (Nat.le_refl _)
theorem layOut (A : Option Addr) (c : Nat) (zs : List Int) (w : World) (hr : Rd .i64 w A zs) (hl : zs.length ≤ 4194304) :
    Calls Tryd.prog 19 #[.slice A zs.length c] w (LayPost w zs) := by
  by_cases h : zs.length = 10
  · exact layOut_ten A c zs w hr h
  · exact layOut_no A c zs w h hl
end Go.Proofs.YtnmfppjjhbkfmaaDoor
