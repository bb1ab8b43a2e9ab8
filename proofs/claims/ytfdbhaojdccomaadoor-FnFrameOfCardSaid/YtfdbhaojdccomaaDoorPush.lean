/- Contracts of pushesTo, l5Pushes, FramePushes. -/
import Derived.Test.YtfdbhaojdccomaaDoorVal
namespace Go.Proofs.YtfdbhaojdccomaaDoor
open Go.RowKit

def pu1 (x y : Int) : Int := if x = y then 0 else 1
/-- The pushes from one rod to another one. -/
def pu (x y x' y' : Int) : Int := pu1 x x' + pu1 y y'
theorem pu1_bd (x y : Int) : 0 ≤ pu1 x y ∧ pu1 x y ≤ 1 := by unfold pu1; split <;> omega
theorem pu_bd (x y x' y' : Int) : 0 ≤ pu x y x' y' ∧ pu x y x' y' ≤ 2 := by have := pu1_bd x x'; have := pu1_bd y y'; unfold pu; omega
def puU (hs ls hs' ls' : List Int) : Nat → Int
  | 0 => 0
  | k + 1 => puU hs ls hs' ls' k + pu (nth hs k) (nth ls k) (nth hs' k) (nth ls' k)
theorem puU_bd (hs ls hs' ls' : List Int) : ∀ k, 0 ≤ puU hs ls hs' ls' k ∧ puU hs ls hs' ls' k ≤ 2 * k
  | 0 => by simp [puU]
  | k + 1 => by have := puU_bd hs ls hs' ls' k; have := pu_bd (nth hs k) (nth ls k) (nth hs' k) (nth ls' k); simp only [puU]; omega
def fpush (hs ls hs' ls' : List Int) : Int := if frB hs ls && frB hs' ls' && decide (hs.length = hs'.length) then puU hs ls hs' ls' hs.length else -1

set_option maxRecDepth 100000 in
theorem beadPushes (g o : Nat) (x y x' y' : Int) (w : World) (ch : w.cell? ⟨g, o, none⟩ = some (.int .i64 x)) (cl : w.cell? ⟨g, o + 1, none⟩ = some (.int .i64 y)) :
    Calls Tryd.prog 34 #[.pointer (some ⟨g, o, none⟩), .agg #[.int .i64 x', .int .i64 y']] w fun e w' => e = .returned (.int .i64 (pu x y x' y')) ∧ Below w.heap.size w w' := by
  have hlt := World.block_lt_of_cell? w _ ch
  have HBE := Lib.hid (fun o => (Below.refl w.heap.size w).alloc (Nat.le_refl _) o)
  have hne : ¬ g = w.heap.size := by simp at hlt; omega
  by_cases h1 : x = x'
  · have d1 : (x != x') = false := by simp [h1]
    by_cases h2 : y = y'
    · have d2 : (y != y') = false := by simp [h2]
      have HV : Hid (pu x y x' y' = 0) := Lib.hid (by simp [pu, pu1, h1, h2])
      clear h1 h2
      go_enter Tryd.func34, Tryd.ntmps34
      go_wp2
      go_quiet (fail)
      go_wp2
      go_quiet (fail)
      go_wp2
      go_ret
      first | exact ⟨ret_int HV.out.symm, ((HBE.out _).drewN _).drewN _⟩ | exact ⟨ret_int HV.out.symm, (HBE.out _).drewN _⟩
    · have d2 : (y != y') = true := by simp [h2]
      have HV : Hid (pu x y x' y' = 1) := Lib.hid (by simp [pu, pu1, h1, h2])
      clear h1 h2
      go_enter Tryd.func34, Tryd.ntmps34
      go_wp2
      go_quiet (fail)
      go_wp2
      go_quiet (fail)
      go_wp2
      go_ret
      first | exact ⟨ret_int HV.out.symm, ((HBE.out _).drewN _).drewN _⟩ | exact ⟨ret_int HV.out.symm, (HBE.out _).drewN _⟩
  · have d1 : (x != x') = true := by simp [h1]
    by_cases h2 : y = y'
    · have d2 : (y != y') = false := by simp [h2]
      have HV : Hid (pu x y x' y' = 1) := Lib.hid (by simp [pu, pu1, h1, h2])
      clear h1 h2
      go_enter Tryd.func34, Tryd.ntmps34
      go_wp2
      go_quiet (fail)
      go_wp2
      go_quiet (fail)
      go_wp2
      go_ret
      first | exact ⟨ret_int HV.out.symm, ((HBE.out _).drewN _).drewN _⟩ | exact ⟨ret_int HV.out.symm, (HBE.out _).drewN _⟩
    · have d2 : (y != y') = true := by simp [h2]
      have HV : Hid (pu x y x' y' = 2) := Lib.hid (by simp [pu, pu1, h1, h2])
      clear h1 h2
      go_enter Tryd.func34, Tryd.ntmps34
      go_wp2
      go_quiet (fail)
      go_wp2
      go_quiet (fail)
      go_wp2
      go_ret
      first | exact ⟨ret_int HV.out.symm, ((HBE.out _).drewN _).drewN _⟩ | exact ⟨ret_int HV.out.symm, (HBE.out _).drewN _⟩

theorem box22 {w w1 : World} {x y x' y' : Value} {t t' : TypeId} (q : Below ((w.alloc (.cells #[x, y] t)).alloc (.cells #[x', y'] t')).heap.size ((w.alloc (.cells #[x, y] t)).alloc (.cells #[x', y'] t')) w1) :
    w1.cell? ⟨w.heap.size, 0, none⟩ = some x ∧ w1.cell? ⟨w.heap.size, 1, none⟩ = some y ∧ w1.cell? ⟨w.heap.size + 1, 0, none⟩ = some x' ∧ w1.cell? ⟨w.heap.size + 1, 1, none⟩ = some y' ∧ w.heap.size < w1.heap.size ∧ w.heap.size + 1 < w1.heap.size := by
  have hz := q.size
  simp at hz
  have c : ∀ (j : Nat) (v : Value), (w.alloc (.cells #[x, y] t)).cell? ⟨w.heap.size, j, none⟩ = some v → ((w.alloc (.cells #[x, y] t)).alloc (.cells #[x', y'] t')).cell? ⟨w.heap.size, j, none⟩ = some v := fun j v h => (World.cell?_alloc_lt _ _ _ (by simp)).trans h
  refine ⟨(q.cell (p := ⟨w.heap.size, 0, none⟩) (by simp; omega)).trans (c _ _ (by simp)), (q.cell (p := ⟨w.heap.size, 1, none⟩) (by simp; omega)).trans (c _ _ (by simp)), (q.cell (p := ⟨w.heap.size + 1, 0, none⟩) (by simp)).trans ?_, (q.cell (p := ⟨w.heap.size + 1, 1, none⟩) (by simp)).trans ?_, by omega, by omega⟩
  · simp
  · simp

end Go.Proofs.YtfdbhaojdccomaaDoor
