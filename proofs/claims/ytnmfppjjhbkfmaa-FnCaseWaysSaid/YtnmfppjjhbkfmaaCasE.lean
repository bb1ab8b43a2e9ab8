/- Cases of rods: what l91Shown and DrawCaseWays draw. -/
import Derived.Test.YtnmfppjjhbkfmaaCasD
import Derived.Test.YtnmfppjjhbkfmaaApRun
import Derived.Test.YtnmfppjjhbkfmaaRegW
namespace Go.Proofs.Ytnmfppjjhbkfmaa
open Go.RowKit

/-- A case and a list are drawn. -/
def ShownDrawn (g : Nat) (w : World) (e : Ending) (w' : World) : Prop := ∃ A c R B d zs, e = .returned (.tuple #[.slice A R.length c, .slice B zs.length d]) ∧ RdR w' w.heap.size A R ∧ R.length ≤ 8 ∧ Rd .i64 w' B zs ∧ zs.length ≤ 7 ∧ zs.length ≤ d ∧ w.grownBy w' (some g)

theorem RdR.pick {w w' : World} {base g : Nat} {A : Option Addr} {R : List (List Int)} (h : RdR w base A R) (k : w.grownBy w' (some g)) (hg : g < base) : RdR w' base A R :=
  h.kept (fun b hb hl => k.block b hl (by intro e; injection e with e; omega))

def shU (k : Nat) : Nat := if k = 14 then 15 else 100
/-- What the operations of 'list = append(list, rods[len(rods)-1-i].Sides[r.pick(4)])' give. -/
def shT (g base : Nat) (L : Option Addr) (c : Nat) (xs : List Int) (S : Value) (rl i k : Int) (bk ok bi oi ci : Nat) : Nat → World → Value → Prop
  | 0, _, v => v = .slice L xs.length c
  | 1, _, v => v = S
  | 2, _, v => v = S
  | 3, _, v => v = .int .i64 rl
  | 4, _, v => v = .int .i64 (rl - 1)
  | 5, _, v => v = .int .i64 i
  | 6, _, v => v = .int .i64 k
  | 7, _, v => v = .pointer (some ⟨bk, ok, none⟩)
  | 8, _, v => v = .pointer (some ⟨bk, ok, none⟩)
  | 9, _, v => v = .slice (some ⟨bi, oi, none⟩) 4 ci
  | 10, w, v => TRdr g w v
  | 11, w, v => TInt 0 3 w v
  | 12, _, v => ∃ y : Nat, v = .pointer (some ⟨bi, oi + y, none⟩) ∧ y < 4
  | 13, _, v => ∃ z : Int, v = .int .i64 z
  | 14, w, v => ∃ (b : Nat) (z : Int), v = .slice (some ⟨b, 0, none⟩) 1 1 ∧ b ≠ g ∧ w.cell? ⟨b, 0, none⟩ = some (.int .i64 z)
  | _, w, v => ∃ (L' : Option Addr) (c' : Nat) (z : Int), v = .slice L' (xs.length + 1) c' ∧ Sl w base L' c' (xs ++ [z])
def shR (g : Nat) (L : Option Addr) (i : Nat) (_ : Nat → Value) (w1 w2 : World) : Prop := if i = 11 then w1.grownBy w2 (some g) else if i = 15 then w1.grownBy w2 (blk L) else Below w1.heap.size w1 w2
theorem shR_of {g i : Nat} {L : Option Addr} {v : Nat → Value} {w1 w2 : World} (h : i ≠ 11) (h2 : i ≠ 15) (hb : Below w1.heap.size w1 w2) : shR g L i v w1 w2 := by rw [shR, if_neg h, if_neg h2]; exact hb
theorem shR_11 {g : Nat} {L : Option Addr} {v : Nat → Value} {w1 w2 : World} (h : w1.grownBy w2 (some g)) : shR g L 11 v w1 w2 := by rw [shR, if_pos rfl]; exact h
theorem shR_15 {g : Nat} {L : Option Addr} {v : Nat → Value} {w1 w2 : World} (h : w1.grownBy w2 (blk L)) : shR g L 15 v w1 w2 := by rw [shR, if_neg (by decide), if_pos rfl]; exact h
theorem shR_g {g i : Nat} {L : Option Addr} {v : Nat → Value} {w1 w2 : World} (h2 : i ≠ 15) (h : shR g L i v w1 w2) : w1.grownBy w2 (some g) := by
  unfold shR at h
  rw [if_neg h2] at h
  split at h
  · exact h
  · exact grownBy_of_below h _
theorem shT_stable {l : List Oper} {g base : Nat} {L : Option Addr} {c : Nat} {xs : List Int} {S : Value} {rl ii k : Int} {bk ok bi oi ci : Nat} (hg : g < base) : StableU l (shR g L) (shT g base L c xs S rl ii k bk ok bi oi ci) shU 0 1 (fun _ _ => True) 16 := by
  intro i j v w1 w2 hjn hij hu _ hR hT
  match j, hT with
  | 0, h => exact h
  | 1, h => exact h
  | 2, h => exact h
  | 3, h => exact h
  | 4, h => exact h
  | 5, h => exact h
  | 6, h => exact h
  | 7, h => exact h
  | 8, h => exact h
  | 9, h => exact h
  | 10, h => exact h
  | 11, h => exact h
  | 12, h => exact h
  | 13, h => exact h
  | 14, h =>
    have h15 : i ≠ 15 := fun e => hu e.symm
    obtain ⟨b, z, h1, h2, h3⟩ := h
    exact ⟨b, z, h1, h2, (cell_same ((shR_g h15 hR).block b (World.block_lt_of_cell? w1 _ h3) (by intro e; injection e with e; exact h2 e))).trans h3⟩
  | 15, h =>
    obtain ⟨L', c', z, h1, h2⟩ := h
    exact ⟨L', c', z, h1, h2.pick (shR_g hij hR) hg⟩
  | j + 16, h => omega

/-- What is there until it is used: the reader's place (the pick), the list (the append). -/
def shJ (B0 g M base : Nat) (L : Option Addr) (c : Nat) (xs : List Int) (k : Nat) (w : World) : Prop := (k = 11 → RdyI B0 w g M) ∧ (k = 15 → Sl w base L c xs)
theorem shJ_keep {B0 g M base : Nat} {L : Option Addr} {c : Nat} {xs : List Int} (hg : g < base) (hB : B0 ≤ base) (hL : ∀ k, blk L = some k → base ≤ k) (i j : Nat) (v : Nat → Value) (w1 w2 : World) (hij : j ≠ i) (hR : shR g L i v w1 w2) (h : shJ B0 g M base L c xs j w1) : shJ B0 g M base L c xs j w2 := by
  refine ⟨fun e => ?_, fun e => ?_⟩
  · by_cases h15 : i = 15
    · subst h15
      rw [shR, if_neg (by decide), if_pos rfl] at hR
      exact (h.1 e).own hR (fun k hk => by have := hL k hk; omega)
    · rw [shR, if_neg (by omega), if_neg h15] at hR
      exact (h.1 e).below hR
  · exact (h.2 e).pick (shR_g (by omega) hR) hg

set_option maxRecDepth 100000 in
set_option maxHeartbeats 2000000 in
theorem l91Shown (B0 g m : Nat) (w : World) (h : RdyI B0 w g m) (hB : B0 ≤ w.heap.size) (hm : m ≤ 900000) :
    Calls Try.prog 8 #[.pointer (some ⟨g, 0, none⟩)] w (ShownDrawn g w) := by
  have hgw := h.lt
  have HC := Lib.hid (l91Case B0 g m w h hB (by omega))
  clear h
  go_enter Try.func8, Try.ntmps8
  go_wp2_with fail
  refine HC.out.mono ?_
  rintro e w1 ⟨A, c, R, rfl, hR, h8, hsd, hr1, g1⟩
  have hz1 := g1.size
  by_cases h1 : (1 : Int) < (R.length : Int)
  · obtain ⟨b0, o0, bi0, oi0, ci0, rfl, _, hc0, _⟩ := hR.at (i := 0) (by omega)
    rw [Nat.add_zero] at hc0
    by_cases h4 : (sd R 0).length = 4
    · rw [h4] at hc0
      go_wp2_with fail
      refine (pickI B0 g (m + 60) 3 w1 hr1 (by omega) (by omega) (by omega)).mono ?_
      rintro e w2 ⟨x, rfl, x0, x1, hr2, g2⟩
      have hR2 := hR.pick g2 hgw
      have G2 := grownBy_trans g1 g2
      have hz2 := g2.size
      clear hr1 g1 g2 hR hc0
      by_cases hx0 : 0 < x
      · have HRB := Lib.hid hR2
        have HG2 := Lib.hid G2
        have HSD : Hid (∀ i, i < R.length → (sd R i).length = 4) := Lib.hid (fun i hi => by
          by_cases e : i = 0
          · subst e; exact h4
          · exact (hsd i hi).2.2 e)
        have HBE := Lib.hid (below_new w2 (.cells #[] 3))
        have HL0 := Lib.hid (Sl.lit w2 w2.heap.size (Nat.le_refl _) [] #[] rfl (by simp))
        have HR2 := Lib.hid (hr2.below HBE.out)
        clear hr2 G2 hR2 h4 hsd
        by_cases hmin : (4 : Int) ≤ (R.length : Int)
        · go_wp2_with fail
          refine (pickI B0 g (m + 60 + 1) 4 _ HR2.out (by omega) (by omega) (by omega)).mono ?_
          rintro e w3 ⟨y, rfl, y0, y1, hr3, g3⟩
          obtain ⟨Y, rfl⟩ := Int.eq_ofNat_of_zero_le y0
          have HL3 := Lib.hid (HL0.out.pick g3 (by omega))
          have HR3 := Lib.hid hr3
          have HG3 := Lib.hid (grownBy_trans (grownBy_of_below HBE.out (some g)) g3)
          clear hr3 g3
          go_wp2_with fail
          go_loopw [5, 7] (fun q x wr => ∃ (i : Nat) (L : Option Addr) (c : Nat) (xs : List Int), i ≤ Y + 1 ∧ x = .int .i64 (i : Int) ∧ q = .slice L xs.length c ∧ Hid (xs.length = i) ∧ Hid (Sl wr w2.heap.size L c xs ∧ RdyI B0 wr g (m + 62 + i) ∧ w2.grownBy wr (some g))) (fun _ x _ => Y + 1 - (intOf x).toNat)
          case atStart => exact ⟨0, _, _, [], Nat.zero_le _, rfl, rfl, Lib.hid rfl, Lib.hid ⟨HL3.out, HR3.out.more (by omega), HG3.out⟩⟩
          case round =>
            obtain ⟨i, L, cL, xs, hi, rfl, rfl, HX, HI⟩ := hrel
            have lx : xs.length ≤ 4 := by rw [HX.out]; omega
            have hzr := HI.out.2.2.size
            by_cases hlt : i < Y + 1
            · obtain ⟨k, hk⟩ : ∃ k : Nat, (R.length : Int) - 1 - (i : Int) = (k : Int) := ⟨R.length - 1 - i, by omega⟩
              have hkR : k < R.length := by omega
              have hkRI : (k : Int) < (R.length : Int) := by omega
              have wk0 : IntKind.i64.wrap ((R.length : Int) - 1) = (R.length : Int) - 1 := IntWalk.i64_in _ (by omega)
              have wk : IntKind.i64.wrap ((R.length : Int) - 1 - (i : Int)) = (k : Int) := by rw [hk]; exact IntWalk.i64_in _ (by omega)
              obtain ⟨bk, ok, hA, hbk, hside⟩ := HRB.out (fun e => by rw [e] at hkR; simp at hkR)
              injection hA with hA
              injection hA with hA1 hA2
              subst hA1 hA2
              obtain ⟨bi, oi, ci, hbi, hck, hcs⟩ := hside k hkR
              have h4k := HSD.out k hkR
              rw [h4k] at hck hcs
              have HCK := Lib.hid (fun w' (hg : w2.grownBy w' (some g)) => (cell_same (hg.block b0 (World.block_lt_of_cell? w2 _ hck) (by intro e; injection e with e; omega))).trans hck)
              have HCS := Lib.hid (fun w' (hg : w2.grownBy w' (some g)) (y : Nat) (hy : y < 4) => (cell_same (hg.block bi (World.block_lt_of_cell? w2 _ (hcs y hy)) (by intro e; injection e with e; omega))).trans (hcs y hy))
              have hLb := HI.out.1.lt
              have HLB := Lib.hid hLb
              have HKI := Lib.hid hk
              clear hside hck hcs h4k hLb hk
              go_wp2_with fail
              refine wp_region_useW (shR g L) (fun w' => w2.grownBy w' (some g) ∧ RdyI B0 w' g (m + 62 + (i + 1)) ∧ w2.heap.size ≤ w'.heap.size) (shJ B0 g (m + 62 + i) w2.heap.size L cL xs) (shT g w2.heap.size L cL xs (.slice (some ⟨b0, o0, none⟩) R.length c) (R.length : Int) (i : Int) (k : Int) b0 (o0 + k) bi oi ci) shU 0 1 (fun _ _ => True)
                (fun v w' => ∃ (L' : Option Addr) (c' : Nat) (z : Int), v 16 = .slice L' (xs.length + 1) c' ∧ Sl w' w2.heap.size L' c' (xs ++ [z]) ∧ w2.grownBy w' (some g) ∧ RdyI B0 w' g (m + 62 + (i + 1))) 16 (.slice L xs.length cL) 5 rfl (by simp) (by kernel_rfl) (by kernel_rfl) (by kernel_rfl) (shT_stable (by omega))
                (shJ_keep (by omega) (by omega) (fun j hj => (HLB.out j hj).1))
                ⟨grownBy_trans HI.out.2.2 (grownBy_of_below (Below.refl _ _).drew _), (HI.out.2.1.below (Below.refl _ _).drew).more (by omega), hzr⟩ (fun _ => ⟨fun _ => HI.out.2.1.below (Below.refl _ _).drew, fun _ => HI.out.1.below (Below.refl _ _).drew⟩) ?_ ?_
              · refine lawsU_consW rfl ?_ (lawsU_consW rfl ?_ (lawsU_consW rfl ?_ (lawsU_consW rfl ?_ (lawsU_consW rfl ?_ (lawsU_consW rfl ?_ (lawsU_consW rfl ?_ (lawsU_consW rfl ?_ (lawsU_consW rfl ?_ (lawsU_consW rfl ?_ (lawsU_consW rfl ?_ (lawsU_consW rfl ?_ (lawsU_consW rfl ?_ (lawsU_consW rfl ?_ (lawsU_consW rfl ?_ (lawsU_consW rfl ?_ (lawsU_lastW rfl ?_))))))))))))))))
                · intro v w6 hX hI _ hd _
                  clear hd
                  have hX5 : v 16 = .slice L xs.length cL := hX
                  clear hX
                  go_light
                  refine ⟨?_⟩
                  unfold Gives
                  simp only [fillL]
                  go_simp
                  exact ⟨shR_of (by decide) (by decide) (Below.refl _ _), hI, rfl⟩
                · intro v w6 hX hI _ hd _
                  clear hd
                  go_light
                  refine ⟨?_⟩
                  unfold Gives
                  simp only [fillL]
                  go_simp
                  exact ⟨shR_of (by decide) (by decide) (Below.refl _ _), hI, rfl⟩
                · intro v w6 hX hI _ hd _
                  clear hd
                  go_light
                  refine ⟨?_⟩
                  unfold Gives
                  simp only [fillL]
                  go_simp
                  exact ⟨shR_of (by decide) (by decide) (Below.refl _ _), hI, rfl⟩
                · intro v w6 hX hI _ hd _
                  have h2 : v 2 = _ := hd 2 (by kernel_rfl) rfl
                  clear hd
                  go_light
                  refine ⟨?_⟩
                  unfold Gives
                  simp only [fillL]
                  go_simp
                  exact ⟨shR_of (by decide) (by decide) (Below.refl _ _), hI, rfl⟩
                · intro v w6 hX hI _ hd _
                  have h3 : v 3 = _ := hd 3 (by kernel_rfl) rfl
                  clear hd
                  go_light
                  refine ⟨?_⟩
                  unfold Gives
                  simp only [fillL]
                  go_simp
                  exact ⟨shR_of (by decide) (by decide) (Below.refl _ _), hI, rfl⟩
                · intro v w6 hX hI _ hd _
                  clear hd
                  go_light
                  refine ⟨?_⟩
                  unfold Gives
                  simp only [fillL]
                  go_simp
                  exact ⟨shR_of (by decide) (by decide) (Below.refl _ _), hI, rfl⟩
                · intro v w6 hX hI _ hd _
                  have h4 : v 4 = _ := hd 4 (by kernel_rfl) rfl
                  have h5 : v 5 = _ := hd 5 (by kernel_rfl) rfl
                  clear hd
                  go_light
                  refine ⟨?_⟩
                  unfold Gives
                  simp only [fillL]
                  go_simp
                  exact ⟨shR_of (by decide) (by decide) (Below.refl _ _), hI, rfl⟩
                · intro v w6 hX hI _ hd _
                  have h1 : v 1 = _ := hd 1 (by kernel_rfl) rfl
                  have h6 : v 6 = _ := hd 6 (by kernel_rfl) rfl
                  clear hd
                  go_light
                  refine ⟨?_⟩
                  unfold Gives
                  simp only [fillL]
                  go_simp
                  exact ⟨shR_of (by decide) (by decide) (Below.refl _ _), hI, rfl⟩
                · intro v w6 hX hI _ hd _
                  have h7 : v 7 = _ := hd 7 (by kernel_rfl) rfl
                  clear hd
                  go_light
                  refine ⟨?_⟩
                  unfold Gives
                  simp only [fillL]
                  go_simp
                  exact ⟨shR_of (by decide) (by decide) (Below.refl _ _), hI, rfl⟩
                · intro v w6 hX hI _ hd _
                  have h8 : v 8 = _ := hd 8 (by kernel_rfl) rfl
                  have e1 := HCK.out w6 hI.1
                  clear hd
                  go_light
                  refine ⟨?_⟩
                  unfold Gives
                  simp only [fillL]
                  go_simp
                  exact ⟨shR_of (by decide) (by decide) (Below.refl _ _), hI, rfl⟩
                · intro v w6 hX hI _ hd _
                  clear hd
                  go_light
                  refine ⟨?_⟩
                  unfold Gives
                  simp only [fillL]
                  go_simp
                  exact ⟨shR_of (by decide) (by decide) (Below.refl _ _), hI, rfl⟩
                · intro v w6 _ hI hJ hd _
                  have h1 : v 10 = _ := hd 10 (by kernel_rfl) rfl
                  have hJ6 := hJ.1 rfl
                  clear hd hJ
                  go_light
                  refine ⟨?_⟩
                  unfold Gives
                  simp only [fillL]
                  go_simp
                  refine (pickI B0 g (m + 62 + i) 4 w6 hJ6 (by omega) (by omega) (by omega)).mono ?_
                  rintro e w7 ⟨z, rfl, z0, z1, r7, g7⟩
                  exact ⟨_, rfl, shR_11 g7, ⟨grownBy_trans hI.1 g7, r7, Nat.le_trans hI.2.2 g7.size⟩, z, rfl, z0, by omega⟩
                · intro v w6 _ hI _ hd _
                  have h9 : v 9 = _ := hd 9 (by kernel_rfl) rfl
                  obtain ⟨y, h11, y0, y1⟩ : TInt 0 3 w6 (v 11) := hd 11 (by kernel_rfl) rfl
                  obtain ⟨Y', rfl⟩ := Int.eq_ofNat_of_zero_le y0
                  have hy4 : (Y' : Int) < 4 := by omega
                  clear hd
                  go_light
                  refine ⟨?_⟩
                  unfold Gives
                  simp only [fillL]
                  go_simp
                  exact ⟨shR_of (by decide) (by decide) (Below.refl _ _), hI, Y', rfl, by omega⟩
                · intro v w6 _ hI _ hd _
                  obtain ⟨y, h12, y4⟩ := hd 12 (by kernel_rfl) rfl
                  have e1 := HCS.out w6 hI.1 y y4
                  clear hd
                  go_light
                  refine ⟨?_⟩
                  unfold Gives
                  simp only [fillL]
                  go_simp
                  exact ⟨shR_of (by decide) (by decide) (Below.refl _ _), hI, _, rfl⟩
                · intro v w6 _ hI _ hd _
                  obtain ⟨z, h13⟩ := hd 13 (by kernel_rfl) rfl
                  have hg6 := hI.2.1.lt
                  clear hd
                  go_light
                  refine ⟨?_⟩
                  unfold Gives
                  simp only [fillL]
                  go_simp
                  exact ⟨shR_of (by decide) (by decide) (below_new _ _), ⟨grownBy_trans hI.1 (grownBy_of_below (below_new _ _) _), hI.2.1.below (below_new _ _), Nat.le_trans hI.2.2 (below_new _ _).size⟩, _, z, rfl, by omega, by simp⟩
                · intro v w6 _ hI hJ hd _
                  have h0 : v 0 = _ := hd 0 (by kernel_rfl) rfl
                  have s0 := hJ.2 rfl
                  obtain ⟨bl, z, h14, hbg, hc⟩ := hd 14 (by kernel_rfl) rfl
                  obtain ⟨L', c', w7, hrun, s7, g7, t7⟩ := ap_run1 24 w6 w2.heap.size L cL xs bl 1 z s0 hc (by omega) hI.2.2
                  have G7 := grown_le hI.1 g7 (fun j hj => (HLB.out j hj).1)
                  have R7 := hI.2.1.own g7 (fun j hj => by have := (HLB.out j hj).1; omega)
                  have Z7 := Nat.le_trans hI.2.2 g7.size
                  clear hd hJ
                  go_light
                  refine kept_ap _ _ _ rfl hrun (by simp only [fillL]; go_simp) (by simp only [fillL]; go_simp) ?_
                  exact ⟨shR_15 g7, ⟨G7, R7, Z7⟩, ⟨L', c', z, rfl, s7⟩, fun h => absurd h (by decide), fun h => absurd h (by decide)⟩
                · intro v w6 hI hall
                  obtain ⟨L', c', z, h15, s15⟩ := hall 15 (by decide) (by decide)
                  clear hall
                  go_light
                  refine ⟨?_⟩
                  unfold Gives
                  simp only [fillL]
                  go_simp
                  exact ⟨L', c', rfl, ⟨z, s15⟩, hI.1, hI.2.1⟩
              intro v wx hF
              obtain ⟨L', c', z, h16, s5, g5, r5⟩ := hF
              have HS5 := Lib.hid s5
              have HG5 := Lib.hid g5
              have HR5 := Lib.hid r5
              clear s5 g5 r5
              refine ⟨?_⟩
              simp only [fillL]
              go_simp
              clear h16
              go_wp2_with fail
              go_roundw
              case rel => exact ⟨i + 1, L', c', xs ++ [z], by omega, by go_num, by simp, Lib.hid (by rw [List.length_append, HX.out]; rfl), Lib.hid ⟨HS5.out, HR5.out, HG5.out⟩⟩
              case measure => simp [intOf]; omega
            · obtain rfl : i = Y + 1 := by omega
              have HDN : Hid (RdR wr w.heap.size (some ⟨b0, o0, none⟩) R ∧ Rd .i64 wr L xs ∧ xs.length ≤ cL ∧ w.grownBy wr (some g)) := Lib.hid ⟨HRB.out.pick HI.out.2.2 hgw, HI.out.1.rd, HI.out.1.le, grownBy_trans HG2.out HI.out.2.2⟩
              go_wp2_with fail
              go_ret2
              exact ⟨_, c, R, L, cL, xs, rfl, HDN.out.1, h8, HDN.out.2.1, by omega, HDN.out.2.2.1, HDN.out.2.2.2⟩
        · go_wp2_with fail
          refine (pickI B0 g (m + 60 + 1) (R.length : Int) _ HR2.out (by omega) (by omega) (by omega)).mono ?_
          rintro e w3 ⟨y, rfl, y0, y1, hr3, g3⟩
          obtain ⟨Y, rfl⟩ := Int.eq_ofNat_of_zero_le y0
          have HL3 := Lib.hid (HL0.out.pick g3 (by omega))
          have HR3 := Lib.hid hr3
          have HG3 := Lib.hid (grownBy_trans (grownBy_of_below HBE.out (some g)) g3)
          clear hr3 g3
          go_wp2_with fail
          go_loopw [5, 7] (fun q x wr => ∃ (i : Nat) (L : Option Addr) (c : Nat) (xs : List Int), i ≤ Y + 1 ∧ x = .int .i64 (i : Int) ∧ q = .slice L xs.length c ∧ Hid (xs.length = i) ∧ Hid (Sl wr w2.heap.size L c xs ∧ RdyI B0 wr g (m + 62 + i) ∧ w2.grownBy wr (some g))) (fun _ x _ => Y + 1 - (intOf x).toNat)
          case atStart => exact ⟨0, _, _, [], Nat.zero_le _, rfl, rfl, Lib.hid rfl, Lib.hid ⟨HL3.out, HR3.out.more (by omega), HG3.out⟩⟩
          case round =>
            obtain ⟨i, L, cL, xs, hi, rfl, rfl, HX, HI⟩ := hrel
            have lx : xs.length ≤ 4 := by rw [HX.out]; omega
            have hzr := HI.out.2.2.size
            by_cases hlt : i < Y + 1
            · obtain ⟨k, hk⟩ : ∃ k : Nat, (R.length : Int) - 1 - (i : Int) = (k : Int) := ⟨R.length - 1 - i, by omega⟩
              have hkR : k < R.length := by omega
              have hkRI : (k : Int) < (R.length : Int) := by omega
              have wk0 : IntKind.i64.wrap ((R.length : Int) - 1) = (R.length : Int) - 1 := IntWalk.i64_in _ (by omega)
              have wk : IntKind.i64.wrap ((R.length : Int) - 1 - (i : Int)) = (k : Int) := by rw [hk]; exact IntWalk.i64_in _ (by omega)
              obtain ⟨bk, ok, hA, hbk, hside⟩ := HRB.out (fun e => by rw [e] at hkR; simp at hkR)
              injection hA with hA
              injection hA with hA1 hA2
              subst hA1 hA2
              obtain ⟨bi, oi, ci, hbi, hck, hcs⟩ := hside k hkR
              have h4k := HSD.out k hkR
              rw [h4k] at hck hcs
              have HCK := Lib.hid (fun w' (hg : w2.grownBy w' (some g)) => (cell_same (hg.block b0 (World.block_lt_of_cell? w2 _ hck) (by intro e; injection e with e; omega))).trans hck)
              have HCS := Lib.hid (fun w' (hg : w2.grownBy w' (some g)) (y : Nat) (hy : y < 4) => (cell_same (hg.block bi (World.block_lt_of_cell? w2 _ (hcs y hy)) (by intro e; injection e with e; omega))).trans (hcs y hy))
              have hLb := HI.out.1.lt
              have HLB := Lib.hid hLb
              have HKI := Lib.hid hk
              clear hside hck hcs h4k hLb hk
              go_wp2_with fail
              refine wp_region_useW (shR g L) (fun w' => w2.grownBy w' (some g) ∧ RdyI B0 w' g (m + 62 + (i + 1)) ∧ w2.heap.size ≤ w'.heap.size) (shJ B0 g (m + 62 + i) w2.heap.size L cL xs) (shT g w2.heap.size L cL xs (.slice (some ⟨b0, o0, none⟩) R.length c) (R.length : Int) (i : Int) (k : Int) b0 (o0 + k) bi oi ci) shU 0 1 (fun _ _ => True)
                (fun v w' => ∃ (L' : Option Addr) (c' : Nat) (z : Int), v 16 = .slice L' (xs.length + 1) c' ∧ Sl w' w2.heap.size L' c' (xs ++ [z]) ∧ w2.grownBy w' (some g) ∧ RdyI B0 w' g (m + 62 + (i + 1))) 16 (.slice L xs.length cL) 5 rfl (by simp) (by kernel_rfl) (by kernel_rfl) (by kernel_rfl) (shT_stable (by omega))
                (shJ_keep (by omega) (by omega) (fun j hj => (HLB.out j hj).1))
                ⟨grownBy_trans HI.out.2.2 (grownBy_of_below (Below.refl _ _).drew _), (HI.out.2.1.below (Below.refl _ _).drew).more (by omega), hzr⟩ (fun _ => ⟨fun _ => HI.out.2.1.below (Below.refl _ _).drew, fun _ => HI.out.1.below (Below.refl _ _).drew⟩) ?_ ?_
              · refine lawsU_consW rfl ?_ (lawsU_consW rfl ?_ (lawsU_consW rfl ?_ (lawsU_consW rfl ?_ (lawsU_consW rfl ?_ (lawsU_consW rfl ?_ (lawsU_consW rfl ?_ (lawsU_consW rfl ?_ (lawsU_consW rfl ?_ (lawsU_consW rfl ?_ (lawsU_consW rfl ?_ (lawsU_consW rfl ?_ (lawsU_consW rfl ?_ (lawsU_consW rfl ?_ (lawsU_consW rfl ?_ (lawsU_consW rfl ?_ (lawsU_lastW rfl ?_))))))))))))))))
                · intro v w6 hX hI _ hd _
                  clear hd
                  have hX5 : v 16 = .slice L xs.length cL := hX
                  clear hX
                  go_light
                  refine ⟨?_⟩
                  unfold Gives
                  simp only [fillL]
                  go_simp
                  exact ⟨shR_of (by decide) (by decide) (Below.refl _ _), hI, rfl⟩
                · intro v w6 hX hI _ hd _
                  clear hd
                  go_light
                  refine ⟨?_⟩
                  unfold Gives
                  simp only [fillL]
                  go_simp
                  exact ⟨shR_of (by decide) (by decide) (Below.refl _ _), hI, rfl⟩
                · intro v w6 hX hI _ hd _
                  clear hd
                  go_light
                  refine ⟨?_⟩
                  unfold Gives
                  simp only [fillL]
                  go_simp
                  exact ⟨shR_of (by decide) (by decide) (Below.refl _ _), hI, rfl⟩
                · intro v w6 hX hI _ hd _
                  have h2 : v 2 = _ := hd 2 (by kernel_rfl) rfl
                  clear hd
                  go_light
                  refine ⟨?_⟩
                  unfold Gives
                  simp only [fillL]
                  go_simp
                  exact ⟨shR_of (by decide) (by decide) (Below.refl _ _), hI, rfl⟩
                · intro v w6 hX hI _ hd _
                  have h3 : v 3 = _ := hd 3 (by kernel_rfl) rfl
                  clear hd
                  go_light
                  refine ⟨?_⟩
                  unfold Gives
                  simp only [fillL]
                  go_simp
                  exact ⟨shR_of (by decide) (by decide) (Below.refl _ _), hI, rfl⟩
                · intro v w6 hX hI _ hd _
                  clear hd
                  go_light
                  refine ⟨?_⟩
                  unfold Gives
                  simp only [fillL]
                  go_simp
                  exact ⟨shR_of (by decide) (by decide) (Below.refl _ _), hI, rfl⟩
                · intro v w6 hX hI _ hd _
                  have h4 : v 4 = _ := hd 4 (by kernel_rfl) rfl
                  have h5 : v 5 = _ := hd 5 (by kernel_rfl) rfl
                  clear hd
                  go_light
                  refine ⟨?_⟩
                  unfold Gives
                  simp only [fillL]
                  go_simp
                  exact ⟨shR_of (by decide) (by decide) (Below.refl _ _), hI, rfl⟩
                · intro v w6 hX hI _ hd _
                  have h1 : v 1 = _ := hd 1 (by kernel_rfl) rfl
                  have h6 : v 6 = _ := hd 6 (by kernel_rfl) rfl
                  clear hd
                  go_light
                  refine ⟨?_⟩
                  unfold Gives
                  simp only [fillL]
                  go_simp
                  exact ⟨shR_of (by decide) (by decide) (Below.refl _ _), hI, rfl⟩
                · intro v w6 hX hI _ hd _
                  have h7 : v 7 = _ := hd 7 (by kernel_rfl) rfl
                  clear hd
                  go_light
                  refine ⟨?_⟩
                  unfold Gives
                  simp only [fillL]
                  go_simp
                  exact ⟨shR_of (by decide) (by decide) (Below.refl _ _), hI, rfl⟩
                · intro v w6 hX hI _ hd _
                  have h8 : v 8 = _ := hd 8 (by kernel_rfl) rfl
                  have e1 := HCK.out w6 hI.1
                  clear hd
                  go_light
                  refine ⟨?_⟩
                  unfold Gives
                  simp only [fillL]
                  go_simp
                  exact ⟨shR_of (by decide) (by decide) (Below.refl _ _), hI, rfl⟩
                · intro v w6 hX hI _ hd _
                  clear hd
                  go_light
                  refine ⟨?_⟩
                  unfold Gives
                  simp only [fillL]
                  go_simp
                  exact ⟨shR_of (by decide) (by decide) (Below.refl _ _), hI, rfl⟩
                · intro v w6 _ hI hJ hd _
                  have h1 : v 10 = _ := hd 10 (by kernel_rfl) rfl
                  have hJ6 := hJ.1 rfl
                  clear hd hJ
                  go_light
                  refine ⟨?_⟩
                  unfold Gives
                  simp only [fillL]
                  go_simp
                  refine (pickI B0 g (m + 62 + i) 4 w6 hJ6 (by omega) (by omega) (by omega)).mono ?_
                  rintro e w7 ⟨z, rfl, z0, z1, r7, g7⟩
                  exact ⟨_, rfl, shR_11 g7, ⟨grownBy_trans hI.1 g7, r7, Nat.le_trans hI.2.2 g7.size⟩, z, rfl, z0, by omega⟩
                · intro v w6 _ hI _ hd _
                  have h9 : v 9 = _ := hd 9 (by kernel_rfl) rfl
                  obtain ⟨y, h11, y0, y1⟩ : TInt 0 3 w6 (v 11) := hd 11 (by kernel_rfl) rfl
                  obtain ⟨Y', rfl⟩ := Int.eq_ofNat_of_zero_le y0
                  have hy4 : (Y' : Int) < 4 := by omega
                  clear hd
                  go_light
                  refine ⟨?_⟩
                  unfold Gives
                  simp only [fillL]
                  go_simp
                  exact ⟨shR_of (by decide) (by decide) (Below.refl _ _), hI, Y', rfl, by omega⟩
                · intro v w6 _ hI _ hd _
                  obtain ⟨y, h12, y4⟩ := hd 12 (by kernel_rfl) rfl
                  have e1 := HCS.out w6 hI.1 y y4
                  clear hd
                  go_light
                  refine ⟨?_⟩
                  unfold Gives
                  simp only [fillL]
                  go_simp
                  exact ⟨shR_of (by decide) (by decide) (Below.refl _ _), hI, _, rfl⟩
                · intro v w6 _ hI _ hd _
                  obtain ⟨z, h13⟩ := hd 13 (by kernel_rfl) rfl
                  have hg6 := hI.2.1.lt
                  clear hd
                  go_light
                  refine ⟨?_⟩
                  unfold Gives
                  simp only [fillL]
                  go_simp
                  exact ⟨shR_of (by decide) (by decide) (below_new _ _), ⟨grownBy_trans hI.1 (grownBy_of_below (below_new _ _) _), hI.2.1.below (below_new _ _), Nat.le_trans hI.2.2 (below_new _ _).size⟩, _, z, rfl, by omega, by simp⟩
                · intro v w6 _ hI hJ hd _
                  have h0 : v 0 = _ := hd 0 (by kernel_rfl) rfl
                  have s0 := hJ.2 rfl
                  obtain ⟨bl, z, h14, hbg, hc⟩ := hd 14 (by kernel_rfl) rfl
                  obtain ⟨L', c', w7, hrun, s7, g7, t7⟩ := ap_run1 24 w6 w2.heap.size L cL xs bl 1 z s0 hc (by omega) hI.2.2
                  have G7 := grown_le hI.1 g7 (fun j hj => (HLB.out j hj).1)
                  have R7 := hI.2.1.own g7 (fun j hj => by have := (HLB.out j hj).1; omega)
                  have Z7 := Nat.le_trans hI.2.2 g7.size
                  clear hd hJ
                  go_light
                  refine kept_ap _ _ _ rfl hrun (by simp only [fillL]; go_simp) (by simp only [fillL]; go_simp) ?_
                  exact ⟨shR_15 g7, ⟨G7, R7, Z7⟩, ⟨L', c', z, rfl, s7⟩, fun h => absurd h (by decide), fun h => absurd h (by decide)⟩
                · intro v w6 hI hall
                  obtain ⟨L', c', z, h15, s15⟩ := hall 15 (by decide) (by decide)
                  clear hall
                  go_light
                  refine ⟨?_⟩
                  unfold Gives
                  simp only [fillL]
                  go_simp
                  exact ⟨L', c', rfl, ⟨z, s15⟩, hI.1, hI.2.1⟩
              intro v wx hF
              obtain ⟨L', c', z, h16, s5, g5, r5⟩ := hF
              have HS5 := Lib.hid s5
              have HG5 := Lib.hid g5
              have HR5 := Lib.hid r5
              clear s5 g5 r5
              refine ⟨?_⟩
              simp only [fillL]
              go_simp
              clear h16
              go_wp2_with fail
              go_roundw
              case rel => exact ⟨i + 1, L', c', xs ++ [z], by omega, by go_num, by simp, Lib.hid (by rw [List.length_append, HX.out]; rfl), Lib.hid ⟨HS5.out, HR5.out, HG5.out⟩⟩
              case measure => simp [intOf]; omega
            · obtain rfl : i = Y + 1 := by omega
              have HDN : Hid (RdR wr w.heap.size (some ⟨b0, o0, none⟩) R ∧ Rd .i64 wr L xs ∧ xs.length ≤ cL ∧ w.grownBy wr (some g)) := Lib.hid ⟨HRB.out.pick HI.out.2.2 hgw, HI.out.1.rd, HI.out.1.le, grownBy_trans HG2.out HI.out.2.2⟩
              go_wp2_with fail
              go_ret2
              exact ⟨_, c, R, L, cL, xs, rfl, HDN.out.1, h8, HDN.out.2.1, by omega, HDN.out.2.2.1, HDN.out.2.2.2⟩
      · obtain rfl : x = 0 := by omega
        go_wp2_with fail
        refine (l91Numeral B0 g (m + 60 + 1) 4 w2 hr2 (by omega) (by omega) (by omega) (by omega)).mono ?_
        rintro e w5 ⟨A5, c5, zs, rfl, s5, l5, r5, g5⟩
        have HDN : Hid (RdR w5 w.heap.size _ R ∧ Rd .i64 w5 A5 zs ∧ zs.length ≤ c5 ∧ w.grownBy w5 (some g)) := Lib.hid ⟨hR2.pick g5 hgw, s5.rd, s5.le, grownBy_trans G2 g5⟩
        clear s5 g5 r5
        go_wp2_with fail
        go_ret2
        exact ⟨_, c, R, A5, c5, zs, rfl, HDN.out.1, h8, HDN.out.2.1, l5, HDN.out.2.2.1, HDN.out.2.2.2⟩
    · have h4' : (((sd R 0).length : Int) == 4) = false := beq_eq_false_iff_ne.2 (by omega)
      clear h4
      go_wp2_with fail
      refine (l91Numeral B0 g (m + 60) 4 w1 hr1 (by omega) (by omega) (by omega) (by omega)).mono ?_
      rintro e w5 ⟨A5, c5, zs, rfl, s5, l5, r5, g5⟩
      have HDN : Hid (RdR w5 w.heap.size _ R ∧ Rd .i64 w5 A5 zs ∧ zs.length ≤ c5 ∧ w.grownBy w5 (some g)) := Lib.hid ⟨hR.pick g5 hgw, s5.rd, s5.le, grownBy_trans g1 g5⟩
      clear s5 g5 r5
      go_wp2_with fail
      go_ret2
      exact ⟨_, c, R, A5, c5, zs, rfl, HDN.out.1, h8, HDN.out.2.1, l5, HDN.out.2.2.1, HDN.out.2.2.2⟩
  · have h1' : decide ((1 : Int) < (R.length : Int)) = false := by simpa using h1
    go_wp2_with fail
    refine (l91Numeral B0 g (m + 60) 4 w1 hr1 (by omega) (by omega) (by omega) (by omega)).mono ?_
    rintro e w5 ⟨A5, c5, zs, rfl, s5, l5, r5, g5⟩
    have HDN : Hid (RdR w5 w.heap.size _ R ∧ Rd .i64 w5 A5 zs ∧ zs.length ≤ c5 ∧ w.grownBy w5 (some g)) := Lib.hid ⟨hR.pick g5 hgw, s5.rd, s5.le, grownBy_trans g1 g5⟩
    clear s5 g5 r5
    go_wp2_with fail
    go_ret2
    exact ⟨_, c, R, A5, c5, zs, rfl, HDN.out.1, h8, HDN.out.2.1, l5, HDN.out.2.2.1, HDN.out.2.2.2⟩

/-- A case and a list are drawn from a code. -/
def DrawCas (w : World) (e : Ending) (w' : World) : Prop := ∃ A c R B d zs, e = .returned (.tuple #[.slice A R.length c, .slice B zs.length d]) ∧ RdR w' 0 A R ∧ R.length ≤ 8 ∧ Rd .i64 w' B zs ∧ zs.length ≤ 7 ∧ zs.length ≤ d ∧ Below w.heap.size w w'
theorem RdR.all {w : World} {base : Nat} {A : Option Addr} {R : List (List Int)} (h : RdR w base A R) : RdR w 0 A R := fun hn => by
  obtain ⟨b, off, e, _, hi⟩ := h hn
  refine ⟨b, off, e, Nat.zero_le _, fun i hl => ?_⟩
  obtain ⟨bi, oi, ci, _, h2, h3⟩ := hi i hl
  exact ⟨bi, oi, ci, Nat.zero_le _, h2, h3⟩
theorem DrawCaseWays (A : Option Addr) (c : Nat) (zs : List Int) (w : World) (h : Came .u8 w A c zs) : Calls Try.prog 4 #[.slice A zs.length c] w (DrawCas w) := by
  go_enter Try.func4, Try.ntmps4
  go_wp2_with fail
  refine (l6Open _ _ _ _ h).mono ?_
  rintro e w1 ⟨rfl, r1, b1⟩
  have hr1 := RdyI.of r1
  go_wp2_with fail
  refine (l91Shown w1.heap.size w.heap.size 0 w1 hr1 (Nat.le_refl _) (by omega)).mono ?_
  rintro e w2 ⟨A2, c2, R, B, d, ys, rfl, hR, h8, hz, l7, hd, g2⟩
  go_wp2_with fail
  go_ret2
  exact ⟨A2, c2, R, B, d, ys, rfl, hR.all, h8, hz, l7, hd, b1.trans (below_of_g g2 b1.size (Nat.le_refl _))⟩
end Go.Proofs.Ytnmfppjjhbkfmaa
