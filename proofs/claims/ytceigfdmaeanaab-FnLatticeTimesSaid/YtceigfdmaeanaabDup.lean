/- Duplation: the program's rows (a function to range over) and DupTimes. -/
import Derived.Test.YtceigfdmaeanaabRange
import Derived.Shelf.Abstract
import Derived.Shelf.RegionOpen
import Derived.OwnWalkIn
import Derived.TacticsInMore
import Derived.LoopNIn
import Derived.LoopIn
namespace Go.Proofs.Ytceigfdmaeanaab
open Go.RowKit Go.Shelf
attribute [local go_sem] Oper.semAt_some

def facB (n : Int) : Bool := decide (1 ≤ n) && decide (n ≤ 100000)
theorem isFactor (n : Int) (w : World) : Calls Try.prog 55 #[.int .i64 n] w fun e w' => e = .returned (.bool (facB n)) ∧ w = w' := by
  by_cases h : 1 ≤ n
  · have HF : Hid (facB n = decide (n ≤ 100000)) := Lib.hid (by simp [facB, h])
    go_enter Try.func55, Try.ntmps55
    go_wp2_with fail
    go_ret
    exact ⟨ret_bool HF.out.symm, rfl⟩
  · have HF : Hid (facB n = false) := Lib.hid (by simp [facB, h])
    go_enter Try.func55, Try.ntmps55
    go_wp2_with fail
    go_ret
    exact ⟨ret_bool HF.out.symm, rfl⟩

theorem below_alloc0 (W : World) (o : Obj) : Below W.heap.size W (W.alloc o) := (Below.refl _ W).alloc (Nat.le_refl _) _
/-- How many rows there are. -/
def rowsN (a : Nat) : Nat := a.log2 + 1
theorem rowsN_lt {a j : Nat} (ha : 1 ≤ a) : j < rowsN a ↔ 1 ≤ a / 2 ^ j := by
  unfold rowsN
  rw [Nat.lt_succ_iff, Nat.le_log2 (by omega)]
  have := Nat.le_div_iff_mul_le (x := 1) (y := a) (k := 2 ^ j) (Nat.pow_pos (by omega))
  omega
def rowV (a b j : Nat) : Array Value := #[.int .i64 (j : Int), .agg #[.int .i64 ((a / 2 ^ j : Nat) : Int), .int .i64 ((b * 2 ^ j : Nat) : Int)]]

set_option maxRecDepth 100000 in
set_option maxHeartbeats 1000000 in
theorem dupRows1 (a b : Nat) (pa pb : Addr) (w : World) (ha : facB (a : Int) = true) (hb : facB (b : Int) = true) (ca : w.cell? pa = some (.int .i64 (a : Int))) (cb : w.cell? pb = some (.int .i64 (b : Int))) :
    GivesAll Try.prog 65 #[.pointer (some pa), .pointer (some pb)] (rowV a b) (rowsN a) w := by
  intro n l J W hW hJ hY h0
  have pal := World.block_lt_of_cell? w _ ca
  have pbl := World.block_lt_of_cell? w _ cb
  have ca' : W.cell? pa = some (.int .i64 (a : Int)) := (hW.cell (p := pa) pal).trans ca
  have cb' : W.cell? pb = some (.int .i64 (b : Int)) := (hW.cell (p := pb) pbl).trans cb
  refine callsIn_of_wp Try.func65 rfl trivial ?_ rfl
  simp only [Try.ntmps65, List.size_toArray, List.length_cons, List.length_nil, Nat.reduceAdd, Nat.reduceSub, Array.replicate_succ, Array.replicate_zero, List.push_toArray, List.append_toArray, List.nil_append, List.cons_append]
  have hd : (Fence.wide.depth.isSome = true → 1 ≤ n) := fun h => by cases h
  gi_wp2_with (refine ⟨trivial, hd, ?_⟩; refine (callsIn_wide.2 (isFactor _ _)).mono ?_; rintro e w' ⟨rfl, rfl⟩; simp only [ha, hb])
  have d1 : W.drew.cell? pa = some (.int .i64 (a : Int)) := ca'
  have d2 : W.drew.cell? pb = some (.int .i64 (b : Int)) := cb'
  have d3 : (W.alloc (.cells #[.int .i64 0, .int .i64 0] 57)).drew.cell? pa = some (.int .i64 (a : Int)) := ((below_alloc0 W _).cell (p := pa) (Nat.lt_of_lt_of_le pal hW.size)).trans ca'
  have d4 : (W.alloc (.cells #[.int .i64 0, .int .i64 0] 57)).drew.cell? pb = some (.int .i64 (b : Int)) := ((below_alloc0 W _).cell (p := pb) (Nat.lt_of_lt_of_le pbl hW.size)).trans cb'
  gi_region
  have ha1 : 1 ≤ a ∧ a ≤ 100000 := by simp [facB] at ha; omega
  have hb1 : 1 ≤ b ∧ b ≤ 100000 := by simp [facB] at hb; omega
  have HJ0 := Lib.hid (hJ 0 _ _ none (hJ 0 _ _ none h0 (grownBy_of_below (below_alloc0 W (.cells #[.int .i64 (a : Int), .int .i64 (b : Int)] 57)) none) (fun r e => by cases e)) (grownBy_drewN (World.grownBy.refl _ _) 1) (fun r e => by cases e))
  have HC0 := Lib.hid (heap_alloc_new W (.cells #[.int .i64 (a : Int), .int .i64 (b : Int)] 57))
  have HY := Lib.hid hY
  clear d1 d2 d3 d4 ca cb ca' cb' ha hb h0 hY
  gi_wp2
  gi_loopw [4, 5] (fun i p wr => ∃ j B : Nat, j ≤ rowsN a ∧ i = .int .i64 (j : Int) ∧ p = .pointer (some ⟨B, 0, none⟩) ∧ W.heap.size ≤ B ∧ wr.heap[B]? = some (.cells #[.int .i64 ((a / 2 ^ j : Nat) : Int), .int .i64 ((b * 2 ^ j : Nat) : Int)] 57 (0, 0)) ∧ J j wr) (fun i _ _ => rowsN a - (intOf i).toNat)
  case atStart => exact ⟨0, W.heap.size, Nat.zero_le _, rfl, rfl, Nat.le_refl _, by rw [Nat.pow_zero, Nat.div_one, Nat.mul_one]; exact HC0.out, HJ0.out⟩
  case round =>
    obtain ⟨j, B, hj, rfl, rfl, hB, hc, hJs⟩ := hrel
    by_cases hlt : j < rowsN a
    · have h1 := (rowsN_lt ha1.1).1 hlt
      have hp1 : 2 ^ j ≤ a := by
        have := (Nat.le_div_iff_mul_le (x := 1) (y := a) (k := 2 ^ j) (Nat.pow_pos (by omega))).1 h1
        omega
      have hp2 : b * 2 ^ j ≤ 10000000000 := Nat.le_trans (Nat.mul_le_mul hb1.2 (Nat.le_trans hp1 ha1.2)) (by decide)
      have hx2 : a / 2 ^ j ≤ 100000 := Nat.le_trans (Nat.div_le_self _ _) ha1.2
      have hjj : j ≤ 100000 := by have := Nat.lt_two_pow_self (n := j); omega
      have hN1 : a / 2 ^ (j + 1) = a / 2 ^ j / 2 := by rw [Nat.pow_succ, Nat.div_div_eq_div_mul]
      have hN2 : b * 2 ^ (j + 1) = b * 2 ^ j * 2 := by rw [Nat.pow_succ, Nat.mul_assoc]
      obtain ⟨fn, tmps, assign, body, hy, hR⟩ := HY.out j wr hlt hJs
      unfold rowV at hy
      have HN1 := Lib.hid hN1
      have HN2 := Lib.hid hN2
      clear hN1 hN2 hp1
      obtain ⟨X, hX⟩ : ∃ X, a / 2 ^ j = X := ⟨_, rfl⟩
      obtain ⟨Y, hY⟩ : ∃ Y, b * 2 ^ j = Y := ⟨_, rfl⟩
      rw [hX] at h1 hx2 hc HN1 hy
      rw [hY] at hp2 hc HN2 hy
      clear hX hY
      have c0 : wr.cell? ⟨B, 0, none⟩ = some (.int .i64 (X : Int)) := by simp [World.cell?, hc]
      have c1 : wr.cell? ⟨B, 1, none⟩ = some (.int .i64 (Y : Int)) := by simp [World.cell?, hc]
      have hBl := (Array.getElem?_eq_some_iff.1 hc).1
      gi_wp2
      refine ⟨hd, ?_⟩
      refine hR.mono ?_
      rintro e W3 ⟨rfl, hJ3, hk3⟩
      have hc3 := (hk3.same B hB hBl).trans hc
      have c0 : W3.cell? ⟨B, 0, none⟩ = some (.int .i64 (X : Int)) := by simp [World.cell?, hc3]
      have c1 : W3.cell? ⟨B, 1, none⟩ = some (.int .i64 (Y : Int)) := by simp [World.cell?, hc3]
      have hs3 := hk3.size
      have HJ3 := Lib.hid hJ3
      have HR := Lib.hid hR
      clear hy hR hk3 hJ3 hc hc3 hJs
      gi_wp2
      gi_region
      have HN : Hid (J (j + 1) (W3.alloc (.cells #[.int .i64 ((X : Int) / 2), .int .i64 ((Y : Int) * 2)] 57)).drew) := Lib.hid (hJ _ _ _ none (hJ _ _ _ none HJ3.out (grownBy_of_below (below_alloc0 W3 _) none) (fun r e => by cases e)) (grownBy_drewN (World.grownBy.refl _ _) 1) (fun r e => by cases e))
      gi_wp2
      go_roundw
      case rel => exact ⟨j + 1, W3.heap.size, by omega, by go_num, rfl, by have := (Nat.le_trans (Nat.le_of_lt hBl) hs3); omega, by rw [HN1.out, HN2.out]; exact heap_alloc_new W3 _, HN.out⟩
      case measure => simp [intOf]; omega
    · obtain rfl : j = rowsN a := by omega
      have hx0 : ¬ 1 ≤ a / 2 ^ rowsN a := fun h => by have := (rowsN_lt ha1.1).2 h; omega
      obtain ⟨X, hX⟩ : ∃ X, a / 2 ^ rowsN a = X := ⟨_, rfl⟩
      rw [hX] at hx0 hc
      obtain rfl : X = 0 := by omega
      have c0 : wr.cell? ⟨B, 0, none⟩ = some (.int .i64 0) := by simp [World.cell?, hc]
      clear hc
      gi_wp2
      go_end0
      exact ⟨⟨_, rfl⟩, hJs⟩

theorem dupRows (a b : Int) (w : World) : Calls Try.prog 56 #[.int .i64 a, .int .i64 b] w fun e w' => e = .returned (.func (.func 65) #[] #[.pointer (some ⟨w.heap.size, 0, none⟩), .pointer (some ⟨w.heap.size + 1, 0, none⟩)]) ∧ w' = (w.alloc (.cells #[.int .i64 a] 3)).alloc (.cells #[.int .i64 b] 3) := by
  go_enter Try.func56, Try.ntmps56
  go_wp2_with fail
  go_ret
  exact ⟨rfl, rfl⟩

theorem sum_step (a b j : Nat) : b * (a % 2 ^ (j + 1)) = b * (a % 2 ^ j) + (b * 2 ^ j) * (a / 2 ^ j % 2) := by
  rw [Nat.mod_pow_succ, Nat.mul_add, Nat.mul_assoc]
theorem sum_end (a b : Nat) : b * (a % 2 ^ rowsN a) = b * a := by
  rw [Nat.mod_eq_of_lt (show a < 2 ^ rowsN a from Nat.lt_log2_self)]

set_option maxRecDepth 100000 in
set_option maxHeartbeats 1000000 in
theorem DupTimes (a b : Nat) (w : World) (ha : facB (a : Int) = true) (hb : facB (b : Int) = true) : Calls Try.prog 31 #[.int .i64 (a : Int), .int .i64 (b : Int)] w fun e w' => e = .returned (.int .i64 ((b * a : Nat) : Int)) ∧ Below w.heap.size w w' := by
  have ha1 : 1 ≤ a ∧ a ≤ 100000 := by simp [facB] at ha; omega
  have hb1 : 1 ≤ b ∧ b ≤ 100000 := by simp [facB] at hb; omega
  obtain ⟨p, hp⟩ : ∃ p, b * a = p := ⟨_, rfl⟩
  rw [hp]
  have HP := Lib.hid hp
  clear hp
  refine (callsIn_wide (n := 5)).1 ?_
  refine callsIn_of_wp_marks Try.func31 rfl trivial ?_ rfl
  simp only [Try.ntmps31, List.size_toArray, List.length_cons, List.length_nil, Nat.reduceAdd, Nat.reduceSub, Array.replicate_succ, Array.replicate_zero, List.push_toArray, List.append_toArray, List.nil_append, List.cons_append]
  gi_wp2_with (first | (refine ⟨trivial, ?_⟩; refine (callsIn_wide.2 (isFactor _ _)).mono ?_; rintro e w' ⟨rfl, rfl⟩; simp only [ha, hb]) | (refine ⟨trivial, ?_⟩; refine (callsIn_wide.2 (dupRows _ _ _)).mono ?_; rintro e w' ⟨rfl, rfl⟩))
  have bS := ((Boxed.new w 3 (.int .i64 0)).alloc (.cells #[.int .i64 (a : Int)] 3)).alloc (.cells #[.int .i64 (b : Int)] 3)
  have bA := (Boxed.new (w.alloc (.cells #[.int .i64 0] 3)) 3 (.int .i64 (a : Int))).alloc (.cells #[.int .i64 (b : Int)] 3)
  have bB := Boxed.new ((w.alloc (.cells #[.int .i64 0] 3)).alloc (.cells #[.int .i64 (a : Int)] 3)) 3 (.int .i64 (b : Int))
  simp only [World.size_alloc] at bA bB
  have hB0 : Below w.heap.size w (((w.alloc (.cells #[.int .i64 0] 3)).alloc (.cells #[.int .i64 (a : Int)] 3)).alloc (.cells #[.int .i64 (b : Int)] 3)) := (((Below.refl _ w).alloc (Nat.le_refl _) _).alloc (by simp) _).alloc (by simp; omega) _
  have hsz : (((w.alloc (.cells #[.int .i64 0] 3)).alloc (.cells #[.int .i64 (a : Int)] 3)).alloc (.cells #[.int .i64 (b : Int)] 3)).heap.size = w.heap.size + 3 := by simp
  obtain ⟨W0, hW0⟩ : ∃ W0, ((w.alloc (.cells #[.int .i64 0] 3)).alloc (.cells #[.int .i64 (a : Int)] 3)).alloc (.cells #[.int .i64 (b : Int)] 3) = W0 := ⟨_, rfl⟩
  rw [hW0] at bS bA bB hB0 hsz ⊢
  clear hW0
  refine wpIn_range_own (gf := 65) (lb := #[.pointer (some ⟨w.heap.size + 1, 0, none⟩), .pointer (some ⟨w.heap.size + 1 + 1, 0, none⟩)]) rfl (enters_of Try.func65 (by kernel_rfl) rfl)
    (dupRows1 a b _ _ W0 ha hb bA.cell bB.cell) (fun _ => rfl)
    (fun j X => Boxed X w.heap.size 3 (.int .i64 ((b * (a % 2 ^ j) : Nat) : Int)) ∧ Below w.heap.size w X)
    (fun j A B row h hg hr => ⟨h.1.kept hg (fun e => by have := hr _ e.symm; omega), h.2.grown hg h.2.size (fun k e => by have := hr k e; omega)⟩)
    ⟨by rw [Nat.pow_zero, Nat.mod_one, Nat.mul_zero]; exact bS, hB0⟩
    (fun j a' X => ∃ Bx, Bx ≠ w.heap.size ∧ X.heap[Bx]? = some (.cells #[.int .i64 ((a / 2 ^ j : Nat) : Int), .int .i64 ((b * 2 ^ j : Nat) : Int)] 57 (0, 0)) ∧
      a' = { tmps := #[Value.int IntKind.i64 ↑a, Value.int IntKind.i64 ↑b, undef, undef, Value.int IntKind.i64 0,
          Value.pointer (some { block := w.heap.size, off := 0 }), undef, Value.pointer (some ⟨Bx, 0, none⟩), Value.int IntKind.i64 ↑a,
          Value.bool true, Value.bool false, Value.bool false, Value.int IntKind.i64 ↑b, Value.bool true,
          Value.bool false, Value.bool false, Value.int IntKind.i64 ↑a, Value.int IntKind.i64 ↑b,
          Value.func (Fn.func 65) #[]
            #[Value.pointer (some { block := w.heap.size + 1, off := 0 }),
              Value.pointer (some { block := w.heap.size + 1 + 1, off := 0 })],
          .int .i64 (j : Int), .agg #[.int .i64 ((a / 2 ^ j : Nat) : Int), .int .i64 ((b * 2 ^ j : Nat) : Int)], undef, undef, undef, undef, undef, undef, undef, undef, undef], defers := [] })
    (fun j a' X l o o' h hl ho => by
      obtain ⟨Bx, h1, h2, h3⟩ := h
      exact ⟨Bx, h1, (World.putObj_heap_other (fun e => by subst e; rw [h2] at hl; cases hl; cases ho)).trans h2, h3⟩)
    ?assign ?body ?done
  case assign =>
    rintro l j X K hX ⟨b1, b2⟩ hK
    unfold rowV
    generalize a / 2 ^ j = x at hK ⊢
    generalize b * 2 ^ j = y at hK ⊢
    generalize b * (a % 2 ^ j) = s at b1 hK
    gi_wp2
    exact hK _ _ (.of_grown (row := none) (grownBy_of_below (below_alloc0 X _) none) (fun r e => by cases e)) ⟨b1.alloc _, b2.alloc b2.size _⟩ ⟨X.heap.size, by omega, heap_alloc_new X _, rfl⟩
  case body =>
    rintro l j a' X hj ⟨b1, b2⟩ ⟨Bx, hne, hc, rfl⟩
    have hp1 : 2 ^ j ≤ a := by
      have := (Nat.le_div_iff_mul_le (x := 1) (y := a) (k := 2 ^ j) (Nat.pow_pos (by omega))).1 ((rowsN_lt ha1.1).1 hj)
      omega
    have hy2 : b * 2 ^ j ≤ 10000000000 := Nat.le_trans (Nat.mul_le_mul hb1.2 (Nat.le_trans hp1 ha1.2)) (by decide)
    have hx2 : a / 2 ^ j ≤ 100000 := Nat.le_trans (Nat.div_le_self _ _) ha1.2
    have hs2 : b * (a % 2 ^ j) ≤ 10000000000 := Nat.le_trans (Nat.mul_le_mul hb1.2 (Nat.le_trans (Nat.mod_le _ _) ha1.2)) (by decide)
    have HST := Lib.hid (sum_step a b j)
    obtain ⟨x, hx⟩ : ∃ x, a / 2 ^ j = x := ⟨_, rfl⟩
    obtain ⟨y, hy⟩ : ∃ y, b * 2 ^ j = y := ⟨_, rfl⟩
    obtain ⟨s, hs⟩ : ∃ s, b * (a % 2 ^ j) = s := ⟨_, rfl⟩
    rw [hx] at hx2 hc HST ⊢
    rw [hy] at hy2 hc HST ⊢
    rw [hs] at hs2 b1 HST
    clear hx hy hs hp1
    have c0 : X.cell? ⟨Bx, 0, none⟩ = some (.int .i64 (x : Int)) := by simp [World.cell?, hc]
    have c1 : X.cell? ⟨Bx, 1, none⟩ = some (.int .i64 (y : Int)) := by simp [World.cell?, hc]
    have cs := b1.cell
    have fs := b1.frozen
    have wm : IntKind.i64.wrap ((x : Int) % 2) = (x : Int) % 2 := IntWalk.i64_in _ (by omega)
    have ws : IntKind.i64.wrap ((s : Int) + (y : Int)) = (s : Int) + (y : Int) := IntWalk.i64_in _ (by omega)
    by_cases h2 : (x : Int) % 2 = 1
    · have HN : Hid (b * (a % 2 ^ (j + 1)) = s + y) := Lib.hid (by rw [HST.out, show x % 2 = 1 by omega, Nat.mul_one])
      gi_wp2
      refine ⟨.of_grown (grownBy_set X w.heap.size 0 _) (fun r e => by injection e; omega), ?_, b2.setCell (p := ⟨w.heap.size, 0, none⟩) (Nat.le_refl _) _⟩
      rw [HN.out]
      have := b1.set (.int .i64 ((s : Int) + (y : Int)))
      simpa using this
    · have hb2 : ((x : Int) % 2 == 1) = false := beq_eq_false_iff_ne.2 h2
      have HN : Hid (b * (a % 2 ^ (j + 1)) = s) := Lib.hid (by rw [HST.out, show x % 2 = 0 by omega, Nat.mul_zero, Nat.add_zero])
      gi_wp2
      exact ⟨.refl _ _, by rw [HN.out]; exact b1, b2⟩
  case done =>
    rintro D X hD ⟨b1, b2⟩ hK
    rw [sum_end, HP.out] at b1
    have cS := b1.cell
    gi_wp2
    refine ⟨by simp, .inl ⟨_, _, rfl, run_takeDeferred hK, ?_⟩⟩
    exact ⟨_, results_tmp rfl _ _ _, rfl, b2.grown (grownBy_put X D _) b2.size (fun k e => by injection e; omega)⟩
end Go.Proofs.Ytceigfdmaeanaab
