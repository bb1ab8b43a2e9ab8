/- The board that the reference draws. -/
import Derived.Test.YtnmfppjjhbkfmaaDoorPickI
import Derived.Test.YtnmfppjjhbkfmaaDoorIn
namespace Go.Proofs.YtnmfppjjhbkfmaaDoor
open Go.RowKit

theorem grown_le {a b c : World} {g : Nat} {row : Option Nat} (h : a.grownBy b (some g)) (k : b.grownBy c row) (hr : ∀ j, row = some j → a.heap.size ≤ j) : a.grownBy c (some g) :=
  ⟨k.os.trans h.os, k.tape.trans h.tape, k.output.trans h.output, Nat.le_trans h.size k.size, fun i hi hne => (k.block i (Nat.lt_of_lt_of_le hi h.size) (fun e => by have := hr i e.symm; omega)).trans (h.block i hi hne)⟩
theorem below_new (w : World) (o : Obj) : Below w.heap.size w (w.alloc o) := (Below.refl _ _).alloc (Nat.le_refl _) _
theorem Sl.pick {w w1 : World} {base g c : Nat} {A : Option Addr} {zs : List Int} (h : Sl w base A c zs) (k : w.grownBy w1 (some g)) (hg : g < base) : Sl w1 base A c zs :=
  h.grown k (by
    rcases hx : blk A with _ | j
    · exact .inl rfl
    · refine .inr fun e => ?_
      have := (h.lt j hx).1
      injection e with e
      omega)
theorem below_of_g {a b : World} {B g : Nat} (h : a.grownBy b (some g)) (hB : B ≤ a.heap.size) (hg : B ≤ g) : Below B a b := below_of_grown h hB (fun k hk => by injection hk; omega)
theorem Sl.tail_rd {w : World} {base c b : Nat} {zs : List Int} (h : Sl w base (some ⟨b, 0, none⟩) c zs) : Rd .i64 w (some ⟨b, 1, none⟩) zs.tail := fun _ => by
  refine ⟨b, 1, rfl, fun j hj => ?_⟩
  have hj' : 1 + j < zs.length := by simp at hj; omega
  rw [h.cell hj']
  cases zs with
  | nil => simp at hj
  | cons z zs => simp [nth, Nat.add_comm 1 j]

set_option maxRecDepth 100000 in
set_option maxHeartbeats 1000000 in
theorem BoardOf (v : Int) (w : World) (v0 : 0 ≤ v) (v1 : v ≤ 99999) :
    Calls Tryd.prog 27 #[.int .i64 v] w fun e w' => ∃ A c zs, zs.length = 10 ∧ e = .returned (.tuple #[.slice A zs.length c, .bool true]) ∧ Sl w' w.heap.size A c zs ∧ Below w.heap.size w w' := by
  have hin : inB v 0 99999 = true := inB_of v0 v1
  have HS0 := Lib.hid (Sl.lit w w.heap.size (Nat.le_refl _) [] #[] rfl (by simp))
  have HB0 := Lib.hid (below_new w (.cells #[] 3))
  go_enter Tryd.func27, Tryd.ntmps27
  go_wp2_with fail
  refine (l6In _ _ _ _).mono ?_
  rintro e w1 ⟨rfl, rfl⟩
  rw [hin]
  clear hin
  go_wp2_with fail
  go_loopw [0, 4, 5] (fun v q i wr => ∃ (n j : Nat) (A : Option Addr) (c : Nat) (zs : List Int), j ≤ 5 ∧ n ≤ 99999 ∧ v = .int .i64 (n : Int) ∧ i = .int .i64 ((2 * j : Nat) : Int) ∧ q = .slice A zs.length c ∧ Hid (zs.length = 2 * j) ∧ Sl wr w.heap.size A c zs ∧ Below w.heap.size w wr) (fun _ _ i _ => 10 - (intOf i).toNat)
  case atStart =>
    obtain ⟨n, rfl⟩ := Int.eq_ofNat_of_zero_le v0
    exact ⟨n, 0, _, _, [], Nat.zero_le _, by omega, rfl, rfl, rfl, Lib.hid rfl, HS0.out, HB0.out⟩
  case round =>
    obtain ⟨n, j, A, c, zs, hj, hn, rfl, rfl, rfl, HL, hs, hb⟩ := hrel
    have hbs := hb.size
    have lz : zs.length ≤ 10 := by rw [HL.out]; omega
    by_cases hlt : j < 5
    · have i1 : ((2 * j : Nat) : Int) < 10 := by omega
      have wA : IntKind.i64.wrap ((n : Int) / 5) = (n : Int) / 5 := IntWalk.i64_in _ (by omega)
      have wB : IntKind.i64.wrap ((n : Int) / 10) = (n : Int) / 10 := IntWalk.i64_in _ (by omega)
      have wC : IntKind.i64.wrap (((2 * j : Nat) : Int) + 2) = ((2 * j : Nat) : Int) + 2 := IntWalk.i64_in _ (by omega)
      have wD : IntKind.i64.wrap ((n : Int) % 5) = (n : Int) % 5 := IntWalk.i64_in _ (by omega)
      have wE : IntKind.i64.wrap ((n : Int) / 5 % 2) = (n : Int) / 5 % 2 := IntWalk.i64_in _ (by omega)
      have HY := Lib.hid (Sl.lit wr w.heap.size hbs [(n : Int) % 5, (n : Int) / 5 % 2] _ rfl (by simp))
      have HS := Lib.hid (hs.alloc (.cells #[.int .i64 ((n : Int) % 5), .int .i64 ((n : Int) / 5 % 2)] 3))
      have HB := Lib.hid (hb.alloc hbs (.cells #[.int .i64 ((n : Int) % 5), .int .i64 ((n : Int) / 5 % 2)] 3))
      have hsz : w.heap.size ≤ (wr.alloc (.cells #[.int .i64 ((n : Int) % 5), .int .i64 ((n : Int) / 5 % 2)] 3)).heap.size := by simp; omega
      have HLT := Lib.hid hs.lt
      clear hs hb
      go_wp2_with (at_builtin; refine wp_apS _ _ rfl rfl _ w.heap.size _ _ _ _ zs [(n : Int) % 5, (n : Int) / 5 % 2] rfl rfl HS.out HY.out.rd (fun h => by cases h) (by simp; omega) hsz ?_; intro A1 c1 w2 s2 g2 _; refine Hid.out ?_)
      have HS2 := Lib.hid s2
      have HB2 := Lib.hid (HB.out.grown g2 hsz (fun k hk => (HLT.out k hk).1))
      clear s2 g2 HS HB HY hsz
      refine Lib.hid ?_
      go_wp2_with fail
      go_roundw
      case rel => exact ⟨n / 10, j + 1, A1, c1, zs ++ [(n : Int) % 5, (n : Int) / 5 % 2], by omega, by omega, by simp, by simp only [Value.int.injEq, true_and]; omega, by simp, Lib.hid (by rw [List.length_append, HL.out]; simp; omega), HS2.out, HB2.out⟩
      case measure => simp [intOf]; omega
    · obtain rfl : j = 5 := by omega
      go_wp2_with fail
      go_ret2
      exact ⟨A, c, zs, HL.out, rfl, hs, hb⟩

/-- A list of ten numbers or nine is drawn. -/
def BrdDrawn (g : Nat) (w : World) (e : Ending) (w' : World) : Prop := ∃ A c zs, e = .returned (.slice A zs.length c) ∧ (A = none → c = 0) ∧ zs.length ≤ 10 ∧ Rd .i64 w' A zs ∧ w.grownBy w' (some g)

set_option maxRecDepth 100000 in
set_option maxHeartbeats 2000000 in
theorem l91Board (B0 g m : Nat) (w : World) (h : RdyI B0 w g m) (hB : B0 ≤ w.heap.size) (hm : m ≤ 1000000) :
    Calls Tryd.prog 18 #[.pointer (some ⟨g, 0, none⟩)] w (BrdDrawn g w) := by
  have hgw := h.lt
  have HB0 := Lib.hid (below_new w (.cells #[] 3))
  have HS0 := Lib.hid (Sl.lit w w.heap.size (Nat.le_refl _) [] #[] rfl (by simp))
  have HR0 := Lib.hid (h.below HB0.out)
  clear h
  go_enter Tryd.func18, Tryd.ntmps18
  go_wp2_with fail
  go_loopw [3, 4, 5] (fun q i x wr => ∃ (k : Nat) (A : Option Addr) (c : Nat) (xs : List Int) (M : Nat), k ≤ 10 ∧ M ≤ m + 2 * k ∧ i = .int .i64 k ∧ q = .slice A xs.length c ∧ Hid (xs.length = k) ∧ Sl wr w.heap.size A c xs ∧ RdyI B0 wr g M ∧ w.grownBy wr (some g)) (fun _ i _ _ => 10 - (intOf i).toNat)
  case atStart => exact ⟨0, _, _, [], m, Nat.zero_le _, Nat.le_refl _, rfl, rfl, Lib.hid rfl, HS0.out, HR0.out, grownBy_of_below HB0.out (some g)⟩
  case round =>
    obtain ⟨k, A, c, xs, M, hk, hM, rfl, rfl, HX, hs, hrd, hg⟩ := hrel
    have lx : xs.length ≤ 10 := by rw [HX.out]; exact hk
    have hzr := hg.size
    by_cases hlt : k < 10
    · go_wp2_with fail
      refine (pickI B0 g M 6 wr hrd (by omega) (by omega) (by omega)).mono ?_
      rintro e wq ⟨y, rfl, y0, y1, hrq, gq⟩
      have sq := hs.pick gq hgw
      have hzq := gq.size
      have HGq := Lib.hid (grownBy_trans hg gq)
      clear hs hrd hg gq
      by_cases h5 : 5 < k
      · have d5 : (5 : Int) < (k : Int) := by omega
        go_wp2_with fail
        refine (pickI B0 g (M + 1) 8 wq hrq (by omega) (by omega) (by omega)).mono ?_
        rintro e wz ⟨z, rfl, z0, z1, hrz, gz⟩
        have sz := sq.pick gz hgw
        have hzz := gz.size
        have HGz := Lib.hid (grownBy_trans HGq.out gz)
        obtain ⟨Z, rfl⟩ := Int.eq_ofNat_of_zero_le z0
        have wA : IntKind.i64.wrap ((Z : Int) / 7) = (Z : Int) / 7 := IntWalk.i64_in _ (by omega)
        clear sq hrq gz
        go_wp2_with (at_builtin; refine wp_ap1 _ _ rfl rfl wz w.heap.size A c xs _ rfl rfl sz (by omega) (by omega) ?_; intro A1 c1 w2 s2 g2 _; refine Hid.out ?_)
        have HS2 := Lib.hid s2
        have HR2 := Lib.hid (hrz.own g2 (fun j hj => by have := (sz.lt j hj).1; omega))
        have HG2 := Lib.hid (grown_le HGz.out g2 (fun j hj => (sz.lt j hj).1))
        clear s2 g2 sz hrz
        refine Lib.hid ?_
        go_wp2_with fail
        go_roundw
        case rel => exact ⟨k + 1, A1, c1, _, M + 1 + 1, by omega, by omega, by go_num, by simp, Lib.hid (by rw [List.length_append, HX.out]; rfl), HS2.out, HR2.out, HG2.out⟩
        case measure => simp [intOf]; omega
      · have d5 : ¬ ((5 : Int) < (k : Int)) := by omega
        go_wp2_with (at_builtin; refine wp_ap1 _ _ rfl rfl wq w.heap.size A c xs _ rfl rfl sq (by omega) (by omega) ?_; intro A1 c1 w2 s2 g2 _; refine Hid.out ?_)
        have HS2 := Lib.hid s2
        have HR2 := Lib.hid (hrq.own g2 (fun j hj => by have := (sq.lt j hj).1; omega))
        have HG2 := Lib.hid (grown_le HGq.out g2 (fun j hj => (sq.lt j hj).1))
        clear s2 g2 sq hrq
        refine Lib.hid ?_
        go_wp2_with fail
        go_roundw
        case rel => exact ⟨k + 1, A1, c1, _, M + 1, by omega, by omega, by go_num, by simp, Lib.hid (by rw [List.length_append, HX.out]; rfl), HS2.out, HR2.out, HG2.out⟩
        case measure => simp [intOf]; omega
    · obtain rfl : k = 10 := by omega
      go_wp2_with fail
      refine (pickI B0 g M 3 wr hrd (by omega) (by omega) (by omega)).mono ?_
      rintro e wq ⟨y, rfl, y0, y1, hrq, gq⟩
      have sq := hs.pick gq hgw
      have hzq := gq.size
      have Gq := grownBy_trans hg gq
      clear hs hrd hg gq hlt
      have hMb : M ≤ 1000020 := by omega
      by_cases e0 : y = 0
      · subst e0
        go_wp2_with fail
        refine (pickI B0 g (M + 1) 255 wq hrq (by omega) (by omega) (by omega)).mono ?_
        rintro e wz ⟨z, rfl, z0, z1, hrz, gz⟩
        have wA : IntKind.i64.wrap (z * 390) = z * 390 := IntWalk.i64_in _ (by omega)
        have Gz := grownBy_trans Gq gz
        have hzz := gz.size
        clear hrq gz Gq sq
        go_wp2_with fail
        refine (pickI B0 g (M + 1 + 1) 100 wz hrz (by omega) (by omega) (by omega)).mono ?_
        rintro e wy ⟨u, rfl, u0, u1, hry, gy⟩
        have wB : IntKind.i64.wrap (z * 390 + u) = z * 390 + u := IntWalk.i64_in _ (by omega)
        have Gy := grownBy_trans Gz gy
        have hzy := gy.size
        clear hrz gy Gz
        go_wp2_with fail
        refine (BoardOf (z * 390 + u) wy (by omega) (by omega)).mono ?_
        rintro e wx ⟨A1, c1, ys, hl1, rfl, s1, b1⟩
        have HL1 := Lib.hid hl1
        have HX1 := Lib.hid (s1.down (B := w.heap.size) (by omega))
        have HR1 := Lib.hid (hry.below b1)
        have HG1 := Lib.hid (grown_le Gy (grownBy_of_below b1 none) (fun j hj => by cases hj))
        have l1 : ys.length ≤ 10 := by omega
        have hzx := b1.size
        clear hl1 s1 b1 hry Gy wA wB
        go_wp2_with fail
        refine (pickI B0 g (M + 1 + 1 + 1) 40 _ HR1.out (by omega) (by omega) (by omega)).mono ?_
        rintro e wp ⟨x, rfl, x0, x1, hrp, gp⟩
        have sp := HX1.out.pick gp hgw
        have Gp := grownBy_trans HG1.out gp
        have hzp := gp.size
        have hp : 9 < ys.length := by rw [HL1.out]; omega
        have hn0 : ys ≠ [] := fun h => by rw [h] at hp; simp at hp
        have hz1 : A1 = none → c1 = 0 := sp.nz
        obtain ⟨a, ha, al, au⟩ := sp.addr hn0
        subst ha
        have hcap : 9 < c1 := by have := sp.le; omega
        clear gp hn0 HX1 HR1 HG1
        by_cases q0 : x = 0
        · subst q0
          go_wp2_with fail
          refine (pickI B0 g ((M + 1 + 1 + 1) + 1) 10 wp hrp (by omega) (by omega) (by omega)).mono ?_
          rintro e wo ⟨j, rfl, j0, j1, hro, go⟩
          obtain ⟨J, rfl⟩ := Int.eq_ofNat_of_zero_le j0
          have so := sp.pick go hgw
          have Go := grownBy_trans Gp go
          have hzo := go.size
          have bt := below_new wo (.cells #[.int .i64 (-1), .int .i64 21, .int .i64 20] 3)
          have st := so.alloc (.cells #[.int .i64 (-1), .int .i64 21, .int .i64 20] 3)
          have HGt := Lib.hid (grown_le Go (grownBy_of_below bt none) (fun j hj => by cases hj))
          have hgq : g < wo.heap.size := by omega
          clear hrp sp Gp go so Go
          go_wp2_with fail
          refine (pickI B0 g ((M + 1 + 1 + 1) + 1 + 1) 3 _ (hro.below bt) (by omega) (by omega) (by omega)).mono ?_
          rintro e wn ⟨i, rfl, i0, i1, hrn, gn⟩
          have sn := st.pick gn hgw
          have t0 := tab_cell gn hgq 0 _ rfl
          have t1 := tab_cell gn hgq 1 _ rfl
          have t2 := tab_cell gn hgq 2 _ rfl
          have hJ : J < ys.length := by omega
          have k0 := sn.cell (j := J) hJ
          have kf := sn.free J
          have ⟨al2, au2⟩ := sn.lt a rfl
          have tl := World.block_lt_of_cell? wn _ t0
          simp only at tl
          have HZ := Lib.hid (fun z : Int => grown_le (grownBy_trans HGt.out gn) (grownBy_set wn a J (.int .i64 z)) (fun j hj => by injection hj; omega))
          have HS := Lib.hid (fun z : Int => (sn.set_ J z).rd)
          clear hrn sn st hro gn bt
          rcases (show i = 0 ∨ i = 1 ∨ i = 2 by omega) with rfl | rfl | rfl
          · go_wp2_with fail
            go_ret
            exact ⟨_, _, ys.set J (-1), by rw [List.length_set]; rfl, fun h => (by cases h), by rw [List.length_set]; omega, HS.out _, HZ.out _⟩
          · go_wp2_with fail
            go_ret
            exact ⟨_, _, ys.set J 21, by rw [List.length_set]; rfl, fun h => (by cases h), by rw [List.length_set]; omega, HS.out _, HZ.out _⟩
          · go_wp2_with fail
            go_ret
            exact ⟨_, _, ys.set J 20, by rw [List.length_set]; rfl, fun h => (by cases h), by rw [List.length_set]; omega, HS.out _, HZ.out _⟩
        have c0 : (x == 0) = false := beq_eq_false_iff_ne.2 q0
        by_cases q1 : x = 1
        · subst q1
          have n1 : ¬ c1 = 1 := by omega
          go_wp2_with fail
          go_ret
          exact ⟨some ⟨a, 1, none⟩, c1 - 1, ys.tail, by simp, fun h => (by cases h), by simp; omega, sp.tail_rd, Gp⟩
        have c1 : (x == 1) = false := beq_eq_false_iff_ne.2 q1
        by_cases q2 : x = 2
        · subst q2
          have k0 := sp.cell (j := 9) hp
          have kf := sp.free 9
          have HZ := Lib.hid (grown_le Gp (grownBy_set wp a 9 (.int .i64 2)) (fun j hj => by injection hj; omega))
          have HS := Lib.hid ((sp.set_ 9 2).rd)
          clear sp Gp hrp
          go_wp2_with fail
          go_ret
          exact ⟨_, _, ys.set 9 2, by rw [List.length_set]; rfl, fun h => (by cases h), by rw [List.length_set]; omega, HS.out, HZ.out⟩
        have c2 : (x == 2) = false := beq_eq_false_iff_ne.2 q2
        go_wp2_with fail
        go_ret
        exact ⟨_, _, ys, rfl, fun h => (by cases h), by omega, sp.rd, Gp⟩
      · have d0 : (y == 0) = false := beq_eq_false_iff_ne.2 e0
        have HL1 := HX
        have HX1 := Lib.hid sq
        have HR1 := Lib.hid hrq
        have HG1 := Lib.hid Gq
        clear sq hrq Gq
        go_wp2_with fail
        refine (pickI B0 g (M + 1) 40 _ HR1.out (by omega) (by omega) (by omega)).mono ?_
        rintro e wp ⟨x, rfl, x0, x1, hrp, gp⟩
        have sp := HX1.out.pick gp hgw
        have Gp := grownBy_trans HG1.out gp
        have hzp := gp.size
        have hp : 9 < xs.length := by rw [HL1.out]; omega
        have hn0 : xs ≠ [] := fun h => by rw [h] at hp; simp at hp
        have hz1 : A = none → c = 0 := sp.nz
        obtain ⟨a, ha, al, au⟩ := sp.addr hn0
        subst ha
        have hcap : 9 < c := by have := sp.le; omega
        clear gp hn0 HX1 HR1 HG1
        by_cases q0 : x = 0
        · subst q0
          go_wp2_with fail
          refine (pickI B0 g ((M + 1) + 1) 10 wp hrp (by omega) (by omega) (by omega)).mono ?_
          rintro e wo ⟨j, rfl, j0, j1, hro, go⟩
          obtain ⟨J, rfl⟩ := Int.eq_ofNat_of_zero_le j0
          have so := sp.pick go hgw
          have Go := grownBy_trans Gp go
          have hzo := go.size
          have bt := below_new wo (.cells #[.int .i64 (-1), .int .i64 21, .int .i64 20] 3)
          have st := so.alloc (.cells #[.int .i64 (-1), .int .i64 21, .int .i64 20] 3)
          have HGt := Lib.hid (grown_le Go (grownBy_of_below bt none) (fun j hj => by cases hj))
          have hgq : g < wo.heap.size := by omega
          clear hrp sp Gp go so Go
          go_wp2_with fail
          refine (pickI B0 g ((M + 1) + 1 + 1) 3 _ (hro.below bt) (by omega) (by omega) (by omega)).mono ?_
          rintro e wn ⟨i, rfl, i0, i1, hrn, gn⟩
          have sn := st.pick gn hgw
          have t0 := tab_cell gn hgq 0 _ rfl
          have t1 := tab_cell gn hgq 1 _ rfl
          have t2 := tab_cell gn hgq 2 _ rfl
          have hJ : J < xs.length := by omega
          have k0 := sn.cell (j := J) hJ
          have kf := sn.free J
          have ⟨al2, au2⟩ := sn.lt a rfl
          have tl := World.block_lt_of_cell? wn _ t0
          simp only at tl
          have HZ := Lib.hid (fun z : Int => grown_le (grownBy_trans HGt.out gn) (grownBy_set wn a J (.int .i64 z)) (fun j hj => by injection hj; omega))
          have HS := Lib.hid (fun z : Int => (sn.set_ J z).rd)
          clear hrn sn st hro gn bt
          rcases (show i = 0 ∨ i = 1 ∨ i = 2 by omega) with rfl | rfl | rfl
          · go_wp2_with fail
            go_ret
            exact ⟨_, _, xs.set J (-1), by rw [List.length_set]; rfl, fun h => (by cases h), by rw [List.length_set]; omega, HS.out _, HZ.out _⟩
          · go_wp2_with fail
            go_ret
            exact ⟨_, _, xs.set J 21, by rw [List.length_set]; rfl, fun h => (by cases h), by rw [List.length_set]; omega, HS.out _, HZ.out _⟩
          · go_wp2_with fail
            go_ret
            exact ⟨_, _, xs.set J 20, by rw [List.length_set]; rfl, fun h => (by cases h), by rw [List.length_set]; omega, HS.out _, HZ.out _⟩
        have c0 : (x == 0) = false := beq_eq_false_iff_ne.2 q0
        by_cases q1 : x = 1
        · subst q1
          have n1 : ¬ c = 1 := by omega
          go_wp2_with fail
          go_ret
          exact ⟨some ⟨a, 1, none⟩, c - 1, xs.tail, by simp, fun h => (by cases h), by simp; omega, sp.tail_rd, Gp⟩
        have c1 : (x == 1) = false := beq_eq_false_iff_ne.2 q1
        by_cases q2 : x = 2
        · subst q2
          have k0 := sp.cell (j := 9) hp
          have kf := sp.free 9
          have HZ := Lib.hid (grown_le Gp (grownBy_set wp a 9 (.int .i64 2)) (fun j hj => by injection hj; omega))
          have HS := Lib.hid ((sp.set_ 9 2).rd)
          clear sp Gp hrp
          go_wp2_with fail
          go_ret
          exact ⟨_, _, xs.set 9 2, by rw [List.length_set]; rfl, fun h => (by cases h), by rw [List.length_set]; omega, HS.out, HZ.out⟩
        have c2 : (x == 2) = false := beq_eq_false_iff_ne.2 q2
        go_wp2_with fail
        go_ret
        exact ⟨_, _, xs, rfl, fun h => (by cases h), by omega, sp.rd, Gp⟩

/-- A list of at most ten numbers is drawn. -/
def DrawBrd (w : World) (e : Ending) (w' : World) : Prop := ∃ A c zs, e = .returned (.slice A zs.length c) ∧ (A = none → c = 0) ∧ zs.length ≤ 10 ∧ Rd .i64 w' A zs ∧ Below w.heap.size w w'
theorem DrawBoardText (A : Option Addr) (c : Nat) (zs : List Int) (w : World) (h : Came .u8 w A c zs) : Calls Tryd.prog 8 #[.slice A zs.length c] w (DrawBrd w) := by
  go_enter Tryd.func8, Tryd.ntmps8
  go_wp2_with fail
  refine (l6Open _ _ _ _ h).mono ?_
  rintro e w1 ⟨rfl, r1, b1⟩
  have hr1 := RdyI.of r1
  go_wp2_with fail
  refine (l91Board w1.heap.size w.heap.size 0 w1 hr1 (Nat.le_refl _) (by omega)).mono ?_
  rintro e w2 ⟨A2, c2, zs2, rfl, hz, l2, r2, g2⟩
  go_wp2_with fail
  go_ret
  exact ⟨A2, c2, zs2, rfl, hz, l2, r2, b1.trans (below_of_g g2 b1.size (Nat.le_refl _))⟩
end Go.Proofs.YtnmfppjjhbkfmaaDoor
