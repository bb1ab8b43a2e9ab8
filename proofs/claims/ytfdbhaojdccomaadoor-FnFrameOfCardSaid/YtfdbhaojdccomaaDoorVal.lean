/- Contracts of FrameValue. -/
import Derived.Test.YtfdbhaojdccomaaDoorDig
namespace Go.Proofs.YtfdbhaojdccomaaDoor
open Go.RowKit

theorem quiet_left2 {P : Program} {f : FuncId} {args : Array Value} {w : World} {a n : Nat} {v : Value} (h : Calls P f args (w.drewN (a + n)) fun e w' => e = .returned v ∧ w.drewN (a + n) = w') : Calls P f args (w.drewN (a + n)) fun e w'' => e = .returned v ∧ ∃ m, w'' = w.drewN (a + m) :=
  h.mono fun _ _ ⟨he, hm⟩ => ⟨he, n, hm.symm⟩

set_option maxRecDepth 100000 in
theorem impl_FrameValue (A B : Option Addr) (c d : Nat) (hs ls : List Int) (w : World) (hr : FrRd w A B hs ls) (hh : hs.length ≤ 4194304) (hl : ls.length ≤ 4194304) :
    Calls Tryd.prog 15 #[.agg #[.slice A hs.length c, .slice B ls.length d]] w fun e w' => e = .returned (.int .i64 (fval hs ls)) ∧ Below w.heap.size w w' := by
  have hb0 := (Below.refl w.heap.size w).alloc (Nat.le_refl _) (.cells #[.slice A hs.length c, .slice B ls.length d] 27)
  have hr0 := hr.below hb0
  cases h1 : frB hs ls
  · have HV : Hid (fval hs ls = -1) := Lib.hid (by simp [fval, h1])
    go_enter Tryd.func15, Tryd.ntmps15
    go_wp2_with fail
    refine (rodsOf_no _ _ _ _ _ _ _ hr0 hh hl h1).mono ?_
    rintro e w1 ⟨rfl, q1⟩
    go_wp2_with fail
    go_ret
    exact ⟨ret_int HV.out.symm, bstep hb0 q1⟩
  have ok := frB_ok h1
  have n6 := ok.n6
  have HV : Hid (fval hs ls = fvD hs ls hs.length hs.length) := Lib.hid (by simp [fval, h1, fv_all])
  go_enter Tryd.func15, Tryd.ntmps15
  go_wp2_with fail
  refine (rodsOf_yes _ _ _ _ _ _ _ hr0 ok).mono ?_
  rintro e w1 ⟨p, g, rfl, R1, q1⟩
  have cb := R1.cbox
  have pl := R1.plt
  have gl := R1.glt
  go_wp2_with fail
  go_loopw [5, 6] (fun q i wr => ∃ j m : Nat, j ≤ hs.length ∧ i = .int .i64 ((hs.length : Int) - 1 - j) ∧ q = .int .i64 (fvD hs ls hs.length j) ∧ wr = w1.drewN m) (fun _ i _ => (intOf i + 1).toNat)
  case atStart => exact ⟨0, 0, Nat.zero_le _, by simp, rfl, rfl⟩
  case round =>
    obtain ⟨j, m, hj, rfl, rfl, rfl⟩ := hrel
    have ⟨f0, f1⟩ := ok.fvD hj
    have pk := p10_mono (i := j) (j := 6) (by omega)
    rw [show p10 6 = 1000000 from rfl] at pk
    by_cases hlt : j < hs.length
    · obtain ⟨K, hK⟩ : ∃ K : Nat, hs.length = K + 1 + j := ⟨hs.length - 1 - j, by omega⟩
      have hKl : K < hs.length := by omega
      have ek : (hs.length : Int) - 1 - (j : Int) = (K : Int) := by omega
      rw [ek]
      have ⟨a0, a1⟩ := ok.hi K hKl
      have ⟨c0, c1⟩ := ok.lo K hKl
      have HS : Hid (fvD hs ls hs.length (j + 1) = fvD hs ls hs.length j * 10 + (5 * nth hs K + nth ls K)) := Lib.hid (by simp only [fvD]; rw [show hs.length - 1 - j = K by omega]; rfl)
      have HK := Lib.hid hK
      clear hK ek
      go_wp2_with fail
      refine (beadDigit g (K * 2) (nth hs K) (nth ls K) _ ((R1.drewN m).chi hKl) ((R1.drewN m).clo hKl) a0 a1 c0 c1).mono ?_
      rintro e w' ⟨rfl, n, rfl⟩
      go_wp2_with fail
      go_roundw
      case rel => exact ⟨j + 1, _, by omega, by have := HK.out; go_num, by rw [HS.out], rfl⟩
      case measure => have := HK.out; simp [intOf]
    · have ek : (hs.length : Int) - 1 - (j : Int) = -1 := by omega
      rw [ek]
      go_wp2
      go_ret
      obtain rfl : j = hs.length := by omega
      exact ⟨ret_int HV.out.symm, (bstep hb0 q1).drewN _⟩
end Go.Proofs.YtfdbhaojdccomaaDoor
