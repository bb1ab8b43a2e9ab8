/- Contracts of the laws' sameFrame and tenTo. -/
import Derived.Test.YtfdbhaojdccomaaDoorFrEnd
namespace Go.Proofs.YtfdbhaojdccomaaDoor
open Go.RowKit

/-- Two frames are equal. -/
def eqF (hs ls hs' ls' : List Int) : Bool := eqB hs hs' && eqB ls ls'
theorem eqF_self (hs ls : List Int) : eqF hs ls hs ls = true := by simp [eqF, eqB]

set_option maxRecDepth 100000 in
theorem sameFrame (A B A' B' : Option Addr) (c d c' d' : Nat) (hs ls hs' ls' : List Int) (w : World) (h1 : FrRd w A B hs ls) (h2 : FrRd w A' B' hs' ls') (hh : hs.length ≤ 4194304) (hl : ls.length ≤ 4194304) (hh' : hs'.length ≤ 4194304) (hl' : ls'.length ≤ 4194304) :
    Calls Tryd.prog 13 #[.agg #[.slice A hs.length c, .slice B ls.length d], .agg #[.slice A' hs'.length c', .slice B' ls'.length d']] w fun e w' => e = .returned (.bool (eqF hs ls hs' ls')) ∧ Below w.heap.size w w' := by
  have HBE := Lib.hid (fun o o1 => ((Below.refl w.heap.size w).alloc (Nat.le_refl _) o).alloc (by simp) o1)
  cases he : eqB hs hs'
  · have HV : Hid (eqF hs ls hs' ls' = false) := Lib.hid (by simp [eqF, he])
    go_enter Tryd.func13, Tryd.ntmps13
    go_wp2_with fail
    refine (sameInts _ _ _ _ _ _ _ ((h1.hi.alloc _).alloc _) ((h2.hi.alloc _).alloc _) hh hh').mono ?_
    rintro e w' ⟨rfl, n, rfl⟩
    rw [he]
    go_wp2_with fail
    go_ret
    exact ⟨ret_bool HV.out.symm, (HBE.out _ _).drewN _⟩
  · have HV : Hid (eqF hs ls hs' ls' = eqB ls ls') := Lib.hid (by simp [eqF, he])
    go_enter Tryd.func13, Tryd.ntmps13
    go_wp2_with fail
    refine (sameInts _ _ _ _ _ _ _ ((h1.hi.alloc _).alloc _) ((h2.hi.alloc _).alloc _) hh hh').mono ?_
    rintro e w' ⟨rfl, n, rfl⟩
    rw [he]
    go_wp2_with fail
    refine (sameInts _ _ _ _ _ _ _ (((h1.lo.alloc _).alloc _).drewN _) (((h2.lo.alloc _).alloc _).drewN _) hl hl').mono ?_
    rintro e w' ⟨rfl, m, rfl⟩
    go_wp2_with fail
    go_ret
    exact ⟨ret_bool HV.out.symm, (HBE.out _ _).drewN _⟩

end Go.Proofs.YtfdbhaojdccomaaDoor
