/- Contracts of the laws' sameFrame and tenTo. -/
import Derived.Test.YtfdbhaojdccomaaFrEnd
namespace Go.Proofs.Ytfdbhaojdccomaa
open Go.RowKit

/-- Two frames are equal. -/
def eqF (hs ls hs' ls' : List Int) : Bool := eqB hs hs' && eqB ls ls'
theorem eqF_self (hs ls : List Int) : eqF hs ls hs ls = true := by simp [eqF, eqB]

set_option maxRecDepth 100000 in
theorem sameFrame (A B A' B' : Option Addr) (c d c' d' : Nat) (hs ls hs' ls' : List Int) (w : World) (h1 : FrRd w A B hs ls) (h2 : FrRd w A' B' hs' ls') (hh : hs.length ≤ 4194304) (hl : ls.length ≤ 4194304) (hh' : hs'.length ≤ 4194304) (hl' : ls'.length ≤ 4194304) :
    Calls Try.prog 33 #[.agg #[.slice A hs.length c, .slice B ls.length d], .agg #[.slice A' hs'.length c', .slice B' ls'.length d']] w fun e w' => e = .returned (.bool (eqF hs ls hs' ls')) ∧ Below w.heap.size w w' := by
  have HBE := Lib.hid (fun o o1 => ((Below.refl w.heap.size w).alloc (Nat.le_refl _) o).alloc (by simp) o1)
  cases he : eqB hs hs'
  · have HV : Hid (eqF hs ls hs' ls' = false) := Lib.hid (by simp [eqF, he])
    go_enter Try.func33, Try.ntmps33
    go_wp2_with fail
    refine (sameInts _ _ _ _ _ _ _ ((h1.hi.alloc _).alloc _) ((h2.hi.alloc _).alloc _) hh hh').mono ?_
    rintro e w' ⟨rfl, n, rfl⟩
    rw [he]
    go_wp2_with fail
    go_ret
    exact ⟨ret_bool HV.out.symm, (HBE.out _ _).drewN _⟩
  · have HV : Hid (eqF hs ls hs' ls' = eqB ls ls') := Lib.hid (by simp [eqF, he])
    go_enter Try.func33, Try.ntmps33
    go_wp2_with fail
    refine (sameInts _ _ _ _ _ _ _ ((h1.hi.alloc _).alloc _) ((h2.hi.alloc _).alloc _) hh hh').mono ?_
    rintro e w' ⟨rfl, n, rfl⟩
    rw [he]
    go_wp2_with fail
    refine (sameInts _ _ _ _ _ _ _ (((h1.lo.alloc _).alloc _).drewN _) (((h2.lo.alloc _).alloc _).drewN _) hl hl').mono ?_
    rintro e w' ⟨rfl, m, rfl⟩
    go_wp2_with fail
    go_ret
    exact ⟨ret_bool HV.out.symm, (HBE.out _ _).drewN _⟩

theorem tenTo (n : Nat) (h : n ≤ 6) (w : World) :
    Calls Try.prog 35 #[.int .i64 (n : Int)] w fun e w' => e = .returned (.int .i64 (p10 n)) ∧ w = w' := by
  go_enter Try.func35, Try.ntmps35
  go_wp2
  go_loop [3, 4] (fun q m => ∃ k : Nat, k ≤ n ∧ m = .int .i64 (k : Int) ∧ q = .int .i64 (p10 k)) (fun _ m => n - (intOf m).toNat)
  case atStart => exact ⟨0, Nat.zero_le _, rfl, rfl⟩
  case round =>
    obtain ⟨k, hk, rfl, rfl⟩ := hrel
    have ⟨b0, b1⟩ := p10_bd (k := k) (by omega)
    by_cases hlt : k < n
    · have HP : Hid (p10 (k + 1) = 10 * p10 k) := Lib.hid (by rw [p10]; omega)
      go_wp2
      go_round
      case rel => exact ⟨k + 1, by omega, by go_num, by rw [HP.out]⟩
      case measure => simp [intOf]; omega
    · go_wp2
      go_ret
      obtain rfl : k = n := by omega
      exact ⟨rfl, rfl⟩
end Go.Proofs.Ytfdbhaojdccomaa
