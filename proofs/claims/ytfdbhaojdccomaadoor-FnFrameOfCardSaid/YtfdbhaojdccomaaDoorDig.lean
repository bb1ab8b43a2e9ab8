/- Contracts of digit, FrameDigit, FrameValue. -/
import Derived.Test.YtfdbhaojdccomaaDoorFrLaw
import Derived.Test.YtfdbhaojdccomaaDoorFrP
import Derived.IntWalk
namespace Go.Proofs.YtfdbhaojdccomaaDoor
open Go.RowKit

theorem beadDigit (g o : Nat) (x y : Int) (w : World) (ch : w.cell? ⟨g, o, none⟩ = some (.int .i64 x)) (cl : w.cell? ⟨g, o + 1, none⟩ = some (.int .i64 y)) (x0 : 0 ≤ x) (x1 : x ≤ 1) (y0 : 0 ≤ y) (y1 : y ≤ 4) :
    Calls Tryd.prog 23 #[.pointer (some ⟨g, o, none⟩)] w fun e w' => e = .returned (.int .i64 (5 * x + y)) ∧ ∃ n, w' = w.drewN n := by
  have hlt := World.block_lt_of_cell? w _ ch
  have w1 : IntKind.i64.wrap (5 * x) = 5 * x := IntWalk.i64_in _ (by omega)
  have w2 : IntKind.i64.wrap (5 * x + y) = 5 * x + y := IntWalk.i64_in _ (by omega)
  go_enter Tryd.func23, Tryd.ntmps23
  go_wp2
  go_quiet (fail)
  go_wp2
  go_ret
  exact ⟨rfl, _, rfl⟩

set_option maxRecDepth 100000 in
theorem spec_FrameDigit (A B : Option Addr) (c d : Nat) (hs ls : List Int) (k : Int) (w : World) (hr : FrRd w A B hs ls) (hh : hs.length ≤ 4194304) (hl : ls.length ≤ 4194304) :
    Calls Tryd.prog 19 #[.agg #[.slice A hs.length c, .slice B ls.length d], .int .i64 k] w fun e w' => e = .returned (.int .i64 (fdig hs ls k)) ∧ Below w.heap.size w w' := by
  have hb0 := (Below.refl w.heap.size w).alloc (Nat.le_refl _) (.cells #[.slice A hs.length c, .slice B ls.length d] 27)
  have hr0 := hr.below hb0
  cases h1 : frB hs ls
  · have HV : Hid (fdig hs ls k = -1) := Lib.hid (by simp [fdig, h1])
    go_enter Tryd.func19, Tryd.ntmps19
    go_wp2_with fail
    refine (spec_FrameValid_b _ _ _ _ _ _ _ hr0 hh hl).mono ?_
    rintro e w1 ⟨rfl, q1⟩
    rw [h1]
    go_wp2_with fail
    go_ret
    exact ⟨ret_int HV.out.symm, bstep hb0 q1⟩
  have ok := frB_ok h1
  cases h2 : inB k 0 ((hs.length : Int) - 1)
  · have HV : Hid (fdig hs ls k = -1) := Lib.hid (by simp [fdig, h2])
    go_enter Tryd.func19, Tryd.ntmps19
    go_wp2_with fail
    refine (spec_FrameValid_b _ _ _ _ _ _ _ hr0 hh hl).mono ?_
    rintro e w1 ⟨rfl, q1⟩
    rw [h1]
    obtain ⟨x1, y1, z1⟩ := box2 q1
    go_wp2_with fail
    refine (l6In _ _ _ _).mono ?_
    rintro e w' ⟨rfl, rfl⟩
    rw [h2]
    go_wp2_with fail
    go_ret
    exact ⟨ret_int HV.out.symm, bstep hb0 q1⟩
  have ⟨k0, k1⟩ := inB_t h2
  obtain ⟨K, rfl⟩ := Int.eq_ofNat_of_zero_le k0
  have hK : K < hs.length := by omega
  have hK' : K < ls.length := by have := ok.len; omega
  have HV : Hid (fdig hs ls (K : Int) = 5 * nth hs K + nth ls K) := Lib.hid (by simp only [fdig, h1, h2]; rfl)
  obtain ⟨b, off, rfl, hbl, hc⟩ := hr0.hi.at hK
  obtain ⟨b', off', rfl, hbl', hc'⟩ := hr0.lo.at hK'
  have ⟨a0, a1⟩ := ok.hi K hK
  have ⟨c0, c1⟩ := ok.lo K hK
  have v1 : IntKind.i64.wrap (5 * nth hs K) = 5 * nth hs K := IntWalk.i64_in _ (by omega)
  have v2 : IntKind.i64.wrap (5 * nth hs K + nth ls K) = 5 * nth hs K + nth ls K := IntWalk.i64_in _ (by omega)
  have u0 : 0 ≤ (K : Int) := by omega
  have u1 : (K : Int) < hs.length := by omega
  have u2 : (K : Int) < ls.length := by omega
  go_enter Tryd.func19, Tryd.ntmps19
  go_wp2_with fail
  refine (spec_FrameValid_b _ _ _ _ _ _ _ hr0 hh hl).mono ?_
  rintro e w1 ⟨rfl, q1⟩
  rw [h1]
  obtain ⟨x1, y1, z1⟩ := box2 q1
  have e1 := cell_later hc q1
  have e2 := cell_later hc' q1
  have l1 := World.block_lt_of_cell? w1 _ e1
  have l2 := World.block_lt_of_cell? w1 _ e2
  clear hc hc' hbl hbl'
  go_wp2_with fail
  refine (l6In _ _ _ _).mono ?_
  rintro e w' ⟨rfl, rfl⟩
  rw [h2]
  go_wp2_with fail
  go_quiet (fail)
  clear v1 v2
  go_wp2_with fail
  go_ret
  exact ⟨ret_int HV.out.symm, (bstep hb0 q1).drewN _⟩

end Go.Proofs.YtfdbhaojdccomaaDoor
