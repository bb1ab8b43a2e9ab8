/- The worth that FnNotches draws. -/
import Derived.Test.YtfdabeikcpccgaaPick
namespace Go.Proofs.Ytfdabeikcpccgaa
open Go.RowKit

set_option maxRecDepth 100000 in
theorem DrawNotchesOf (A : Option Addr) (c : Nat) (zs : List Int) (w : World) (h : Came .u8 w A c zs) :
    Calls Try.prog 41 #[.slice A zs.length c] w (DrawI (fun n => -1 ≤ n ∧ n ≤ 10000) w) := by
  go_enter Try.func41, Try.ntmps41
  go_wp2_with fail
  refine (l6Open _ _ _ _ h).mono ?_
  rintro e w1 ⟨rfl, r1, b1⟩
  go_wp2_with fail
  refine (pick1 _ _ _ _ r1 (by omega) (by omega) (by omega)).mono ?_
  rintro e w2 ⟨k, rfl, k0, k1, r2, g2⟩
  have b2 := grown_below b1 g2 (Nat.le_refl _)
  have l2 := r2.lt
  by_cases hk : k = 0
  · subst hk
    go_wp2_with fail
    refine (pick1 _ _ _ _ (r2.alloc _) (by omega) (by omega) (by omega)).mono ?_
    rintro e w3 ⟨k', rfl, k0', k1', r3, g3⟩
    have b3 := grown_below (b2.alloc (by omega) _) g3 (Nat.le_refl _)
    have t0 := tab_cell g3 l2 0 _ rfl
    have t1 := tab_cell g3 l2 1 _ rfl
    have t2 := tab_cell g3 l2 2 _ rfl
    have t3 := tab_cell g3 l2 3 _ rfl
    rcases (show k' = 0 ∨ k' = 1 ∨ k' = 2 ∨ k' = 3 by omega) with rfl | rfl | rfl | rfl
    all_goals
      go_wp2_with fail
      go_ret
      exact ⟨_, ⟨by omega, by omega⟩, rfl, b3⟩
  · have hd : (k == 0) = false := beq_eq_false_iff_ne.2 hk
    go_wp2_with fail
    refine (pick1 _ _ _ _ r2 (by omega) (by omega) (by omega)).mono ?_
    rintro e w3 ⟨x, rfl, x0, x1, r3, g3⟩
    have b3 := grown_below b2 g3 (Nat.le_refl _)
    go_wp2_with fail
    refine (pick1 _ _ _ _ r3 (by omega) (by omega) (by omega)).mono ?_
    rintro e w4 ⟨y, rfl, y0, y1, r4, g4⟩
    have b4 := grown_below b3 g4 (Nat.le_refl _)
    have m0 : 0 ≤ x * (1 + y) := Int.mul_nonneg x0 (by omega)
    have m1 : x * (1 + y) ≤ 199 * 40 := Int.mul_le_mul (by omega) (by omega) (by omega) (by omega)
    go_wp2_with fail
    go_ret
    exact ⟨_, ⟨by omega, by omega⟩, rfl, b4⟩
end Go.Proofs.Ytfdabeikcpccgaa
