/- What DrawFrameOf draws. -/
import Derived.Test.YtfdbhaojdccomaaDoorPickR
import Derived.Test.YtfdbhaojdccomaaDoorPow
namespace Go.Proofs.YtfdbhaojdccomaaDoor
open Go.RowKit

def DrawFO (w : World) (e : Ending) (w' : World) : Prop := ∃ n v : Int, 0 ≤ n ∧ n ≤ 7 ∧ -1 ≤ v ∧ v ≤ 1000000 ∧ e = .returned (.tuple #[.int .i64 n, .int .i64 v]) ∧ Below w.heap.size w w'

def foT (g n : Nat) (p : Int) : Nat → World → Value → Prop
  | 0 => fun _ v => v = .int .i64 (n : Int)
  | 1 => TTab g [0, 7, (n : Int)]
  | 2 => TRdr g
  | 3 => TInt 0 2
  | 4 => TAdr g 0 7
  | 5 => TInt 0 7
  | 6 => fun _ v => v = .int .i64 (n : Int)
  | 7 => fun _ v => v = .int .i64 p
  | 8 => fun _ v => v = .int .i64 (n : Int)
  | 9 => fun _ v => v = .int .i64 p
  | 10 => fun _ v => v = .int .i64 (p - 1)
  | 11 => TTab g [-1, p, p - 1]
  | 12 => TRdr g
  | 13 => TInt 0 2
  | 14 => TAdr g (-1) 1000000
  | 15 => TInt (-1) 1000000
  | 16 => TInt 0 7
  | _ => TInt (-1) 1000000
theorem foT_keep {g n : Nat} {p : Int} (i : Nat) (w1 w2 : World) (v : Value) (hR : w1.grownBy w2 (some g)) (h : foT g n p i w1 v) : foT g n p i w2 v := by
  match i, h with
  | 0, h => exact h
  | 1, h => exact TTab.keep h hR
  | 2, h => exact h
  | 3, h => exact h
  | 4, h => exact TAdr.keep h hR
  | 5, h => exact h
  | 6, h => exact h
  | 7, h => exact h
  | 8, h => exact h
  | 9, h => exact h
  | 10, h => exact h
  | 11, h => exact TTab.keep h hR
  | 12, h => exact h
  | 13, h => exact h
  | 14, h => exact TAdr.keep h hR
  | 15, h => exact h
  | 16, h => exact h
  | _ + 17, h => exact h
def fpT (g n : Nat) (p : Int) : Nat → World → Value → Prop
  | 0 => fun _ v => v = .int .i64 (n : Int)
  | 1 => TRdr g
  | 2 => TInt 0 99999
  | 3 => fun _ v => v = .int .i64 (n : Int)
  | 4 => fun _ v => v = .int .i64 p
  | 5 => TInt 0 1000000
  | 6 => fun _ v => v = .int .i64 (n : Int)
  | _ => TInt 0 1000000
theorem fpT_keep {g n : Nat} {p : Int} (i : Nat) (w1 w2 : World) (v : Value) (_ : w1.grownBy w2 (some g)) (h : fpT g n p i w1 v) : fpT g n p i w2 v := by
  match i, h with
  | 0, h => exact h
  | 1, h => exact h
  | 2, h => exact h
  | 3, h => exact h
  | 4, h => exact h
  | 5, h => exact h
  | 6, h => exact h
  | _ + 7, h => exact h

set_option maxRecDepth 100000 in
set_option maxHeartbeats 2000000 in
theorem DrawFrameOf (A : Option Addr) (c : Nat) (zs : List Int) (w : World) (h : Came .u8 w A c zs) :
    Calls Tryd.prog 10 #[.slice A zs.length c] w (DrawFO w) := by
  go_enter Tryd.func10, Tryd.ntmps10
  go_wp2_with fail
  refine (l6Open _ _ _ _ h).mono ?_
  rintro e w1 ⟨rfl, r1, b1⟩
  generalize hg : w.heap.size = g at *
  go_wp2_with fail
  refine (pick1 _ _ _ _ r1 (by omega) (by omega) (by omega)).mono ?_
  rintro e w2 ⟨k, rfl, k0, k1, r2, g2⟩
  obtain ⟨n, hn⟩ : ∃ n : Nat, 1 + k = (n : Int) := ⟨(1 + k).toNat, by omega⟩
  have n1 : 1 ≤ n := by omega
  have n6 : n ≤ 6 := by omega
  obtain ⟨p, hp⟩ : ∃ p, p10 n = p := ⟨_, rfl⟩
  have ⟨p1, p6⟩ := p10_bd n6
  rw [hp] at p1 p6
  have HP : Hid (∀ w, Calls Tryd.prog 27 #[.int .i64 (n : Int)] w fun e w' => e = .returned (.int .i64 p) ∧ w = w') := Lib.hid (fun w => hp ▸ l5Ten n n6 w)
  have b2 := grown_below (hg ▸ b1) g2 (by omega)
  clear hp b1 g2 r1 h
  go_wp2_with fail
  refine (pick1 _ _ _ _ r2 (by omega) (by omega) (by omega)).mono ?_
  rintro e w3 ⟨j, rfl, j0, j1, r3, g3⟩
  have b3 := grown_below b2 g3 (by omega)
  clear r2 b2 g3 hn
  by_cases hj : j = 0
  · subst hj
    go_wp2_with fail
    have wp1 : IntKind.i64.wrap (p - 1) = p - 1 := IntWalk.i64_in _ (by omega)
    refine wp_region_lawful (fun w1 w2 => w1.grownBy w2 (some g)) (PickI w3 g 40) (foT g n p) (by kernel_rfl) (by kernel_rfl) foT_keep ?_ ?_ ?_
    · exact PickI.start r3 (by simp)
    · refine lawsFrom_cons rfl ?_ (lawsFrom_cons rfl ?_ (lawsFrom_cons rfl ?_ (lawsFrom_cons rfl ?_ (lawsFrom_cons rfl ?_ (lawsFrom_cons rfl ?_ (lawsFrom_cons rfl ?_ (lawsFrom_cons rfl ?_ (lawsFrom_cons rfl ?_ (lawsFrom_cons rfl ?_ (lawsFrom_cons rfl ?_ (lawsFrom_cons rfl ?_ (lawsFrom_cons rfl ?_ (lawsFrom_cons rfl ?_ (lawsFrom_cons rfl ?_ (lawsFrom_cons rfl ?_ (lawsFrom_cons rfl ?_ (lawsFrom_cons rfl ?_ (lawsFrom_nil))))))))))))))))))
      · intro f v w6 hI hd
        clear hd
        go_light
        refine ⟨?_⟩
        unfold Gives
        simp only [fillL]
        go_simp
        exact ⟨World.grownBy.refl _ _, hI.same, rfl⟩
      · intro f v w6 hI hd
        have h0 : v 0 = _ := hd 0 (by kernel_rfl)
        clear hd
        go_light
        refine ⟨?_⟩
        unfold Gives
        simp only [fillL]
        go_simp
        exact ⟨grownBy_alloc _ _ _, hI.alloc _, TTab.new (zs := [0, 7, (n : Int)]) hI.glt _ rfl⟩
      · intro f v w6 hI hd
        clear hd
        go_light
        refine ⟨?_⟩
        unfold Gives
        simp only [fillL]
        go_simp
        exact ⟨World.grownBy.refl _ _, hI.same, rfl⟩
      · intro f v w6 hI hd
        have h2 : v 2 = _ := hd 2 (by kernel_rfl)
        clear hd
        go_light
        refine ⟨?_⟩
        unfold Gives
        simp only [fillL]
        go_simp
        exact pick_law hI (by omega) 3 (by omega) (by omega)
      · intro f v w6 hI hd
        obtain ⟨b, h0, hb, hlt, hc⟩ : TTab g [0, 7, (n : Int)] w6 (v 1) := hd 1 (by kernel_rfl)
        obtain ⟨j, h1, j0, j1⟩ : TInt 0 2 w6 (v 3) := hd 3 (by kernel_rfl)
        have c0 := hc 0 (by simp)
        have c1 := hc 1 (by simp)
        have c2 := hc 2 (by simp)
        simp only [nth] at c0 c1 c2
        clear hd hc
        go_light
        simp at h0 c0 c1 c2
        rcases (show j = 0 ∨ j = 1 ∨ j = 2 by omega) with rfl | rfl | rfl
        all_goals
          refine ⟨?_⟩
          unfold Gives
          simp only [fillL]
          go_simp
        · exact ⟨World.grownBy.refl _ _, hI.same, b, 0, 0, rfl, hb, hlt, c0, by omega, by omega⟩
        · exact ⟨World.grownBy.refl _ _, hI.same, b, 1, 7, rfl, hb, hlt, c1, by omega, by omega⟩
        · exact ⟨World.grownBy.refl _ _, hI.same, b, 2, (n : Int), rfl, hb, hlt, c2, by omega, by omega⟩
      · intro f v w6 hI hd
        obtain ⟨b, j, z, h0, hb, hlt, hc, z0, z1⟩ : TAdr g 0 7 w6 (v 4) := hd 4 (by kernel_rfl)
        clear hd
        go_light
        refine ⟨?_⟩
        unfold Gives
        simp only [fillL]
        go_simp
        exact ⟨World.grownBy.refl _ _, hI.same, z, rfl, z0, z1⟩
      · intro f v w6 hI hd
        clear hd
        go_light
        refine ⟨?_⟩
        unfold Gives
        simp only [fillL]
        go_simp
        exact ⟨World.grownBy.refl _ _, hI.same, rfl⟩
      · intro f v w6 hI hd
        have h6 : v 6 = _ := hd 6 (by kernel_rfl)
        clear hd
        go_light
        refine ⟨?_⟩
        unfold Gives
        simp only [fillL]
        go_simp
        refine (HP.out _).mono ?_
        rintro e w7 ⟨rfl, rfl⟩
        exact ⟨_, rfl, World.grownBy.refl _ _, hI.same, rfl⟩
      · intro f v w6 hI hd
        clear hd
        go_light
        refine ⟨?_⟩
        unfold Gives
        simp only [fillL]
        go_simp
        exact ⟨World.grownBy.refl _ _, hI.same, rfl⟩
      · intro f v w6 hI hd
        have h8 : v 8 = _ := hd 8 (by kernel_rfl)
        clear hd
        go_light
        refine ⟨?_⟩
        unfold Gives
        simp only [fillL]
        go_simp
        refine (HP.out _).mono ?_
        rintro e w7 ⟨rfl, rfl⟩
        exact ⟨_, rfl, World.grownBy.refl _ _, hI.same, rfl⟩
      · intro f v w6 hI hd
        have h9 : v 9 = _ := hd 9 (by kernel_rfl)
        clear hd
        go_light
        refine ⟨?_⟩
        unfold Gives
        simp only [fillL]
        go_simp
        exact ⟨World.grownBy.refl _ _, hI.same, rfl⟩
      · intro f v w6 hI hd
        have h7 : v 7 = _ := hd 7 (by kernel_rfl)
        have h10 : v 10 = _ := hd 10 (by kernel_rfl)
        clear hd
        go_light
        refine ⟨?_⟩
        unfold Gives
        simp only [fillL]
        go_simp
        exact ⟨grownBy_alloc _ _ _, hI.alloc _, TTab.new (zs := [-1, p, p - 1]) hI.glt _ rfl⟩
      · intro f v w6 hI hd
        clear hd
        go_light
        refine ⟨?_⟩
        unfold Gives
        simp only [fillL]
        go_simp
        exact ⟨World.grownBy.refl _ _, hI.same, rfl⟩
      · intro f v w6 hI hd
        have h12 : v 12 = _ := hd 12 (by kernel_rfl)
        clear hd
        go_light
        refine ⟨?_⟩
        unfold Gives
        simp only [fillL]
        go_simp
        exact pick_law hI (by omega) 3 (by omega) (by omega)
      · intro f v w6 hI hd
        obtain ⟨b, h0, hb, hlt, hc⟩ : TTab g [-1, p, p - 1] w6 (v 11) := hd 11 (by kernel_rfl)
        obtain ⟨j, h1, j0, j1⟩ : TInt 0 2 w6 (v 13) := hd 13 (by kernel_rfl)
        have c0 := hc 0 (by simp)
        have c1 := hc 1 (by simp)
        have c2 := hc 2 (by simp)
        simp only [nth] at c0 c1 c2
        clear hd hc
        go_light
        simp at h0 c0 c1 c2
        rcases (show j = 0 ∨ j = 1 ∨ j = 2 by omega) with rfl | rfl | rfl
        all_goals
          refine ⟨?_⟩
          unfold Gives
          simp only [fillL]
          go_simp
        · exact ⟨World.grownBy.refl _ _, hI.same, b, 0, (-1), rfl, hb, hlt, c0, by omega, by omega⟩
        · exact ⟨World.grownBy.refl _ _, hI.same, b, 1, p, rfl, hb, hlt, c1, by omega, by omega⟩
        · exact ⟨World.grownBy.refl _ _, hI.same, b, 2, (p - 1), rfl, hb, hlt, c2, by omega, by omega⟩
      · intro f v w6 hI hd
        obtain ⟨b, j, z, h0, hb, hlt, hc, z0, z1⟩ : TAdr g (-1) 1000000 w6 (v 14) := hd 14 (by kernel_rfl)
        clear hd
        go_light
        refine ⟨?_⟩
        unfold Gives
        simp only [fillL]
        go_simp
        exact ⟨World.grownBy.refl _ _, hI.same, z, rfl, z0, z1⟩
      · intro f v w6 hI hd
        obtain ⟨z5, h5, a5, b5⟩ : TInt 0 7 w6 (v 5) := hd 5 (by kernel_rfl)
        clear hd
        go_light
        refine ⟨?_⟩
        unfold Gives
        simp only [fillL]
        go_simp
        exact ⟨World.grownBy.refl _ _, hI.same, z5, rfl, a5, b5⟩
      · intro f v w6 hI hd
        obtain ⟨z15, h15, a15, b15⟩ : TInt (-1) 1000000 w6 (v 15) := hd 15 (by kernel_rfl)
        clear hd
        go_light
        refine ⟨?_⟩
        unfold Gives
        simp only [fillL]
        go_simp
        exact ⟨World.grownBy.refl _ _, hI.same, z15, rfl, a15, b15⟩
    intro f v w6 hI hall
    obtain ⟨x, h16, x0, x1⟩ : TInt 0 7 w6 (v 16) := hall 16 (by decide)
    obtain ⟨y, h17, y0, y1⟩ : TInt (-1) 1000000 w6 (v 17) := hall 17 (by decide)
    have b6 := Lib.hid (grown_below b3 hI.gr (by omega))
    clear hall hI
    refine ⟨?_⟩
    simp only [fillL]
    go_simp
    clear h16 h17
    go_wp2_with fail
    go_ret2
    exact ⟨x, y, x0, x1, y0, y1, rfl, b6.out⟩
  · have hd : (j == 0) = false := beq_eq_false_iff_ne.2 hj
    have hpz : (p == 0) = false := by rw [beq_eq_false_iff_ne]; omega
    have hpz2 : ¬ p = 0 := by omega
    clear hj
    go_wp2_with fail
    refine wp_region_lawful (fun w1 w2 => w1.grownBy w2 (some g)) (PickI w3 g 40) (fpT g n p) (by kernel_rfl) (by kernel_rfl) fpT_keep ?_ ?_ ?_
    · exact PickI.start r3 (by simp)
    · refine lawsFrom_cons rfl ?_ (lawsFrom_cons rfl ?_ (lawsFrom_cons rfl ?_ (lawsFrom_cons rfl ?_ (lawsFrom_cons rfl ?_ (lawsFrom_cons rfl ?_ (lawsFrom_cons rfl ?_ (lawsFrom_cons rfl ?_ (lawsFrom_nil))))))))
      · intro f v w6 hI hd
        clear hd
        go_light
        refine ⟨?_⟩
        unfold Gives
        simp only [fillL]
        go_simp
        exact ⟨World.grownBy.refl _ _, hI.same, rfl⟩
      · intro f v w6 hI hd
        clear hd
        go_light
        refine ⟨?_⟩
        unfold Gives
        simp only [fillL]
        go_simp
        exact ⟨World.grownBy.refl _ _, hI.same, rfl⟩
      · intro f v w6 hI hd
        have h1 : v 1 = _ := hd 1 (by kernel_rfl)
        clear hd
        go_light
        refine ⟨?_⟩
        unfold Gives
        simp only [fillL]
        go_simp
        exact pick_law hI (by omega) 100000 (by omega) (by omega)
      · intro f v w6 hI hd
        clear hd
        go_light
        refine ⟨?_⟩
        unfold Gives
        simp only [fillL]
        go_simp
        exact ⟨World.grownBy.refl _ _, hI.same, rfl⟩
      · intro f v w6 hI hd
        have h3 : v 3 = _ := hd 3 (by kernel_rfl)
        clear hd
        go_light
        refine ⟨?_⟩
        unfold Gives
        simp only [fillL]
        go_simp
        refine (HP.out _).mono ?_
        rintro e w7 ⟨rfl, rfl⟩
        exact ⟨_, rfl, World.grownBy.refl _ _, hI.same, rfl⟩
      · intro f v w6 hI hd
        obtain ⟨z2, h2, a2, b2⟩ : TInt 0 99999 w6 (v 2) := hd 2 (by kernel_rfl)
        have h4 : v 4 = _ := hd 4 (by kernel_rfl)
        have hm0 : 0 ≤ z2 % p := Int.emod_nonneg _ (by omega)
        have hm1 : z2 % p < p := Int.emod_lt_of_pos _ (by omega)
        have htm : z2.tmod p = z2 % p := Int.tmod_eq_emod_of_nonneg a2
        clear hd
        go_light
        refine ⟨?_⟩
        unfold Gives
        simp only [fillL]
        go_simp
        exact ⟨World.grownBy.refl _ _, hI.same, _, rfl, by omega, by omega⟩
      · intro f v w6 hI hd
        have h0 : v 0 = _ := hd 0 (by kernel_rfl)
        clear hd
        go_light
        refine ⟨?_⟩
        unfold Gives
        simp only [fillL]
        go_simp
        exact ⟨World.grownBy.refl _ _, hI.same, rfl⟩
      · intro f v w6 hI hd
        obtain ⟨z5, h5, a5, b5⟩ : TInt 0 1000000 w6 (v 5) := hd 5 (by kernel_rfl)
        clear hd
        go_light
        refine ⟨?_⟩
        unfold Gives
        simp only [fillL]
        go_simp
        exact ⟨World.grownBy.refl _ _, hI.same, z5, rfl, a5, b5⟩
    intro f v w6 hI hall
    have h6 : v 6 = .int .i64 (n : Int) := hall 6 (by decide)
    obtain ⟨y, h7, y0, y1⟩ : TInt 0 1000000 w6 (v 7) := hall 7 (by decide)
    have b6 := Lib.hid (grown_below b3 hI.gr (by omega))
    clear hall hI
    refine ⟨?_⟩
    simp only [fillL]
    go_simp
    clear h6 h7
    go_wp2_with fail
    go_ret2
    exact ⟨n, y, by omega, by omega, by omega, y1, rfl, b6.out⟩
end Go.Proofs.YtfdbhaojdccomaaDoor
