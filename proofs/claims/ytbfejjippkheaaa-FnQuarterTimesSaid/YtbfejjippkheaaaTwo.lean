/- What l91Two draws: two integers in range. -/
import Derived.Test.YtbfejjippkheaaaPickR
namespace Go.Proofs.Ytbfejjippkheaaa
open Go.RowKit

/-- Two integers are drawn. -/
def TwoPost (P : Int → Int → Prop) (g m : Nat) (w : World) (e : Ending) (w' : World) : Prop :=
  ∃ x y : Int, P x y ∧ e = .returned (.tuple #[.int .i64 x, .int .i64 y]) ∧ Rdy w' g m ∧ w.grownBy w' (some g)

def twoT (g : Nat) : Nat → World → Value → Prop
  | 0 => TTab g [-1, 100001, 100000, 0]
  | 1 => TRdr g
  | 2 => TInt 0 3
  | 3 => TAdr g (-1) 100001
  | 4 => TInt (-1) 100001
  | 5 => TTab g [100000, 0, 7]
  | 6 => TRdr g
  | 7 => TInt 0 2
  | 8 => TAdr g 0 100000
  | 9 => TInt 0 100000
  | 10 => TInt (-1) 100001
  | _ => TInt 0 100000
theorem twoT_keep {g : Nat} (i : Nat) (w1 w2 : World) (v : Value) (hR : w1.grownBy w2 (some g)) (h : twoT g i w1 v) : twoT g i w2 v := by
  match i, h with
  | 0, h => exact TTab.keep h hR
  | 1, h => exact h
  | 2, h => exact h
  | 3, h => exact TAdr.keep h hR
  | 4, h => exact h
  | 5, h => exact TTab.keep h hR
  | 6, h => exact h
  | 7, h => exact h
  | 8, h => exact TAdr.keep h hR
  | 9, h => exact h
  | 10, h => exact h
  | _ + 11, h => exact h

set_option maxRecDepth 100000 in
set_option maxHeartbeats 4000000 in
theorem l91Two (g m : Nat) (w : World) (h : Rdy w g m) (hm : m ≤ 1000000) :
    Calls Try.prog 40 #[.pointer (some ⟨g, 0, none⟩)] w (TwoPost (fun x y => -1 ≤ x ∧ x ≤ 100001 ∧ 0 ≤ y ∧ y ≤ 100000) g (m + 20) w) := by
  go_enter Try.func40, Try.ntmps40
  go_wp2_with fail
  refine (pick1 _ _ _ _ h (by omega) (by omega) (by omega)).mono ?_
  rintro e w1 ⟨k, rfl, k0, k1, r1, g1⟩
  by_cases hk : k = 0
  · subst hk
    go_wp2_with fail
    refine wp_region_lawful (fun w1 w2 => w1.grownBy w2 (some g)) (PickI w1 g (m + 20)) (twoT g) (by kernel_rfl) (by kernel_rfl) twoT_keep ?_ ?_ ?_
    · exact PickI.start r1 (by simp)
    · refine lawsFrom_cons rfl ?_ (lawsFrom_cons rfl ?_ (lawsFrom_cons rfl ?_ (lawsFrom_cons rfl ?_ (lawsFrom_cons rfl ?_ (lawsFrom_cons rfl ?_ (lawsFrom_cons rfl ?_ (lawsFrom_cons rfl ?_ (lawsFrom_cons rfl ?_ (lawsFrom_cons rfl ?_ (lawsFrom_cons rfl ?_ (lawsFrom_cons rfl ?_ lawsFrom_nil)))))))))))
      · intro f v w6 hI _
        go_light
        refine ⟨?_⟩
        unfold Gives
        simp only [fillL]
        go_simp
        exact ⟨grownBy_alloc _ _ _, hI.alloc _, TTab.new (zs := [-1, 100001, 100000, 0]) hI.glt _ rfl⟩
      · intro f v w6 hI _
        go_light
        refine ⟨?_⟩
        unfold Gives
        simp only [fillL]
        go_simp
        exact ⟨World.grownBy.refl _ _, hI.same, rfl⟩
      · intro f v w6 hI hd
        have h1 : v 1 = _ := hd 1 (by kernel_rfl)
        clear hd
        go_light
        refine ⟨?_⟩
        unfold Gives
        simp only [fillL]
        go_simp
        exact pick_law hI (by omega) 4 (by omega) (by omega)
      · intro f v w6 hI hd
        obtain ⟨b, h0, hb, hlt, hc⟩ : TTab g [-1, 100001, 100000, 0] w6 (v 0) := hd 0 (by kernel_rfl)
        obtain ⟨j, h1, j0, j1⟩ : TInt 0 3 w6 (v 2) := hd 2 (by kernel_rfl)
        have c0 := hc 0 (by simp)
        have c1 := hc 1 (by simp)
        have c2 := hc 2 (by simp)
        have c3 := hc 3 (by simp)
        clear hd hc
        go_light
        simp at h0
        rcases (show j = 0 ∨ j = 1 ∨ j = 2 ∨ j = 3 by omega) with rfl | rfl | rfl | rfl
        all_goals
          refine ⟨?_⟩
          unfold Gives
          simp only [fillL]
          go_simp
        · exact ⟨World.grownBy.refl _ _, hI.same, b, 0, -1, rfl, hb, hlt, c0, by omega, by omega⟩
        · exact ⟨World.grownBy.refl _ _, hI.same, b, 1, 100001, rfl, hb, hlt, c1, by omega, by omega⟩
        · exact ⟨World.grownBy.refl _ _, hI.same, b, 2, 100000, rfl, hb, hlt, c2, by omega, by omega⟩
        · exact ⟨World.grownBy.refl _ _, hI.same, b, 3, 0, rfl, hb, hlt, c3, by omega, by omega⟩
      · intro f v w6 hI hd
        obtain ⟨b, j, z, h0, hb, hlt, hc, z0, z1⟩ : TAdr g (-1) 100001 w6 (v 3) := hd 3 (by kernel_rfl)
        clear hd
        go_light
        refine ⟨?_⟩
        unfold Gives
        simp only [fillL]
        go_simp
        exact ⟨World.grownBy.refl _ _, hI.same, z, rfl, z0, z1⟩
      · intro f v w6 hI _
        go_light
        refine ⟨?_⟩
        unfold Gives
        simp only [fillL]
        go_simp
        exact ⟨grownBy_alloc _ _ _, hI.alloc _, TTab.new (zs := [100000, 0, 7]) hI.glt _ rfl⟩
      · intro f v w6 hI _
        go_light
        refine ⟨?_⟩
        unfold Gives
        simp only [fillL]
        go_simp
        exact ⟨World.grownBy.refl _ _, hI.same, rfl⟩
      · intro f v w6 hI hd
        have h1 : v 6 = _ := hd 6 (by kernel_rfl)
        clear hd
        go_light
        refine ⟨?_⟩
        unfold Gives
        simp only [fillL]
        go_simp
        exact pick_law hI (by omega) 3 (by omega) (by omega)
      · intro f v w6 hI hd
        obtain ⟨b, h0, hb, hlt, hc⟩ : TTab g [100000, 0, 7] w6 (v 5) := hd 5 (by kernel_rfl)
        obtain ⟨j, h1, j0, j1⟩ : TInt 0 2 w6 (v 7) := hd 7 (by kernel_rfl)
        have c0 := hc 0 (by simp)
        have c1 := hc 1 (by simp)
        have c2 := hc 2 (by simp)
        clear hd hc
        go_light
        simp at h0
        rcases (show j = 0 ∨ j = 1 ∨ j = 2 by omega) with rfl | rfl | rfl
        all_goals
          refine ⟨?_⟩
          unfold Gives
          simp only [fillL]
          go_simp
        · exact ⟨World.grownBy.refl _ _, hI.same, b, 0, 100000, rfl, hb, hlt, c0, by omega, by omega⟩
        · exact ⟨World.grownBy.refl _ _, hI.same, b, 1, 0, rfl, hb, hlt, c1, by omega, by omega⟩
        · exact ⟨World.grownBy.refl _ _, hI.same, b, 2, 7, rfl, hb, hlt, c2, by omega, by omega⟩
      · intro f v w6 hI hd
        obtain ⟨b, j, z, h0, hb, hlt, hc, z0, z1⟩ : TAdr g 0 100000 w6 (v 8) := hd 8 (by kernel_rfl)
        clear hd
        go_light
        refine ⟨?_⟩
        unfold Gives
        simp only [fillL]
        go_simp
        exact ⟨World.grownBy.refl _ _, hI.same, z, rfl, z0, z1⟩
      · intro f v w6 hI hd
        obtain ⟨z, h0, z0, z1⟩ : TInt (-1) 100001 w6 (v 4) := hd 4 (by kernel_rfl)
        clear hd
        go_light
        refine ⟨?_⟩
        unfold Gives
        simp only [fillL]
        go_simp
        exact ⟨World.grownBy.refl _ _, hI.same, z, rfl, z0, z1⟩
      · intro f v w6 hI hd
        obtain ⟨z, h0, z0, z1⟩ : TInt 0 100000 w6 (v 9) := hd 9 (by kernel_rfl)
        clear hd
        go_light
        refine ⟨?_⟩
        unfold Gives
        simp only [fillL]
        go_simp
        exact ⟨World.grownBy.refl _ _, hI.same, z, rfl, z0, z1⟩
    · intro f v w6 hI hall
      obtain ⟨x, h10, x0, x1⟩ : TInt (-1) 100001 w6 (v 10) := hall 10 (by decide)
      obtain ⟨y, h11, y0, y1⟩ : TInt 0 100000 w6 (v 11) := hall 11 (by decide)
      clear hall
      refine ⟨?_⟩
      simp only [fillL]
      go_simp
      go_wp2_with fail
      go_ret2
      exact ⟨x, y, ⟨x0, x1, y0, y1⟩, rfl, hI.fin, grownBy_trans g1 hI.gr⟩
  · have hd : (k == 0) = false := beq_eq_false_iff_ne.2 hk
    go_wp2_with fail
    refine (pick1 _ _ _ _ r1 (by omega) (by omega) (by omega)).mono ?_
    rintro e w2 ⟨x, rfl, x0, x1, r2, g2⟩
    go_wp2_with fail
    refine (pick1 _ _ _ _ r2 (by omega) (by omega) (by omega)).mono ?_
    rintro e w3 ⟨y, rfl, y0, y1, r3, g3⟩
    have m0 : 0 ≤ x * (1 + y) := Int.mul_nonneg x0 (by omega)
    have m1 : x * (1 + y) ≤ 299 * 9 := Int.mul_le_mul (by omega) (by omega) (by omega) (by omega)
    go_wp2_with fail
    refine (pick1 _ _ _ _ r3 (by omega) (by omega) (by omega)).mono ?_
    rintro e w4 ⟨z, rfl, z0, z1, r4, g4⟩
    go_wp2_with fail
    go_ret2
    obtain ⟨A, c, zs, p, hr, hp⟩ := r4
    exact ⟨_, _, ⟨by omega, by omega, by omega, by omega⟩, rfl, ⟨A, c, zs, p, hr, by omega⟩, grownBy_trans g1 (grownBy_trans g2 (grownBy_trans g3 g4))⟩

theorem DrawTriangleOf (A : Option Addr) (c : Nat) (zs : List Int) (w : World) (h : Came .u8 w A c zs) :
    Calls Try.prog 21 #[.slice A zs.length c] w (DrawI (fun n => -1 ≤ n ∧ n ≤ 100001) w) := by
  go_enter Try.func21, Try.ntmps21
  go_wp2_with fail
  refine (l6Open _ _ _ _ h).mono ?_
  rintro e w1 ⟨rfl, r1, b1⟩
  go_wp2_with fail
  refine (l91Two _ _ _ r1 (by omega)).mono ?_
  rintro e w2 ⟨x, y, ⟨x0, x1, y0, y1⟩, rfl, r2, g2⟩
  go_wp2_with fail
  go_ret
  exact ⟨x, ⟨x0, x1⟩, rfl, grown_below b1 g2 (Nat.le_refl _)⟩
end Go.Proofs.Ytbfejjippkheaaa
