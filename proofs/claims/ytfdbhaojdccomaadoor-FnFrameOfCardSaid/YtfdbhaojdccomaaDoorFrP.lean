/- The value of a frame in plain words, from the units on and from the last rod on. -/
import Derived.Test.YtfdbhaojdccomaaDoorRod
import Derived.Test.YtfdbhaojdccomaaDoorPow
namespace Go.Proofs.YtfdbhaojdccomaaDoor

/-- The digit of a rod. -/
def dg (hs ls : List Int) (k : Nat) : Int := 5 * nth hs k + nth ls k
/-- The sum of the first digits' worths. -/
def fvU (hs ls : List Int) : Nat → Int
  | 0 => 0
  | k + 1 => fvU hs ls k + dg hs ls k * p10 k
/-- The digits of the last j rods, read as a number. -/
def fvD (hs ls : List Int) (n : Nat) : Nat → Int
  | 0 => 0
  | j + 1 => fvD hs ls n j * 10 + dg hs ls (n - 1 - j)

theorem FrOk.dg {hs ls : List Int} (ok : FrOk hs ls) {k : Nat} (h : k < hs.length) : 0 ≤ dg hs ls k ∧ dg hs ls k ≤ 9 := by
  have := ok.hi k h
  have := ok.lo k h
  unfold Proofs.YtfdbhaojdccomaaDoor.dg; omega
theorem FrOk.fvU {hs ls : List Int} (ok : FrOk hs ls) : ∀ {k : Nat}, k ≤ hs.length → 0 ≤ fvU hs ls k ∧ fvU hs ls k < p10 k
  | 0, _ => by simp [Proofs.YtfdbhaojdccomaaDoor.fvU, p10]
  | k + 1, h => by
    have ⟨i0, i1⟩ := ok.fvU (k := k) (by omega)
    have ⟨d0, d1⟩ := ok.dg (k := k) (by omega)
    have hp := p10_pos k
    have m0 : 0 ≤ Proofs.YtfdbhaojdccomaaDoor.dg hs ls k * p10 k := Int.mul_nonneg d0 (by omega)
    have m1 : Proofs.YtfdbhaojdccomaaDoor.dg hs ls k * p10 k ≤ 9 * p10 k := Int.mul_le_mul_of_nonneg_right d1 (by omega)
    simp only [Proofs.YtfdbhaojdccomaaDoor.fvU, p10]
    omega
theorem FrOk.fvD {hs ls : List Int} (ok : FrOk hs ls) : ∀ {j : Nat}, j ≤ hs.length → 0 ≤ fvD hs ls hs.length j ∧ fvD hs ls hs.length j < p10 j
  | 0, _ => by simp [Proofs.YtfdbhaojdccomaaDoor.fvD, p10]
  | j + 1, h => by
    have ⟨i0, i1⟩ := ok.fvD (j := j) (by omega)
    have ⟨d0, d1⟩ := ok.dg (k := hs.length - 1 - j) (by omega)
    simp only [Proofs.YtfdbhaojdccomaaDoor.fvD, p10]
    omega
theorem fv_split (hs ls : List Int) (n : Nat) : ∀ j, j ≤ n → fvU hs ls n = fvU hs ls (n - j) + fvD hs ls n j * p10 (n - j)
  | 0, _ => by simp [fvD]
  | j + 1, h => by
    rw [fv_split hs ls n j (by omega)]
    obtain ⟨m, hm⟩ : ∃ m, n - j = m + 1 := ⟨n - j - 1, by omega⟩
    rw [hm, show n - (j + 1) = m by omega]
    simp only [fvU, fvD, p10]
    rw [show n - 1 - j = m by omega, Int.add_mul, Int.mul_assoc (fvD hs ls n j) 10, Int.mul_comm 10 (p10 m)]
    omega
theorem fv_all (hs ls : List Int) (n : Nat) : fvU hs ls n = fvD hs ls n n := by
  rw [fv_split hs ls n n (Nat.le_refl _)]; simp [fvU, p10]

/-- What FrameDigit and FrameValue return. -/
def fdig (hs ls : List Int) (k : Int) : Int := if frB hs ls && inB k 0 ((hs.length : Int) - 1) then dg hs ls k.toNat else -1
def fval (hs ls : List Int) : Int := if frB hs ls then fvU hs ls hs.length else -1
end Go.Proofs.YtfdbhaojdccomaaDoor
