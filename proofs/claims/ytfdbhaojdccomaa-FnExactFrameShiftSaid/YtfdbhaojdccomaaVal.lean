/- Contracts of FrameValue. -/
import Derived.Test.YtfdbhaojdccomaaDig
namespace Go.Proofs.Ytfdbhaojdccomaa
open Go.RowKit

theorem quiet_left2 {P : Program} {f : FuncId} {args : Array Value} {w : World} {a n : Nat} {v : Value} (h : Calls P f args (w.drewN (a + n)) fun e w' => e = .returned v ∧ w.drewN (a + n) = w') : Calls P f args (w.drewN (a + n)) fun e w'' => e = .returned v ∧ ∃ m, w'' = w.drewN (a + m) :=
  h.mono fun _ _ ⟨he, hm⟩ => ⟨he, n, hm.symm⟩

set_option maxRecDepth 100000 in
theorem spec_FrameValue (A B : Option Addr) (c d : Nat) (hs ls : List Int) (w : World) (hr : FrRd w A B hs ls) (hh : hs.length ≤ 4194304) (hl : ls.length ≤ 4194304) :
    Calls Try.prog 20 #[.agg #[.slice A hs.length c, .slice B ls.length d]] w fun e w' => e = .returned (.int .i64 (fval hs ls)) ∧ Below w.heap.size w w' := by
  have hb0 := (Below.refl w.heap.size w).alloc (Nat.le_refl _) (.cells #[.slice A hs.length c, .slice B ls.length d] 27)
  have hr0 := hr.below hb0
  cases h1 : frB hs ls
  · have HV : Hid (fval hs ls = -1) := Lib.hid (by simp [fval, h1])
    go_enter Try.func20, Try.ntmps20
    go_wp2_with fail
    refine (spec_FrameValid_b _ _ _ _ _ _ _ hr0 hh hl).mono ?_
    rintro e w1 ⟨rfl, q1⟩
    rw [h1]
    go_wp2_with fail
    go_ret
    exact ⟨ret_int HV.out.symm, bstep hb0 q1⟩
  have ok := frB_ok h1
  have n6 := ok.n6
  have HV : Hid (fval hs ls = fvU hs ls hs.length) := Lib.hid (by simp [fval, h1])
  go_enter Try.func20, Try.ntmps20
  go_wp2_with fail
  refine (spec_FrameValid_b _ _ _ _ _ _ _ hr0 hh hl).mono ?_
  rintro e w1 ⟨rfl, q1⟩
  rw [h1]
  obtain ⟨x1, y1, z1⟩ := box2 q1
  go_wp2_with fail
  go_loopw [3, 4] (fun q i wr => ∃ k m : Nat, k ≤ hs.length ∧ i = .int .i64 k ∧ q = .int .i64 (fvU hs ls k) ∧ wr = w1.drewN m) (fun _ i _ => hs.length - (intOf i).toNat)
  case atStart => exact ⟨0, 0, Nat.zero_le _, rfl, rfl, rfl⟩
  case round =>
    obtain ⟨k, m, hk, rfl, rfl, rfl⟩ := hrel
    have ⟨f0, f1⟩ := ok.fvU hk
    have pk := p10_mono (i := k) (j := 6) (by omega)
    rw [show p10 6 = 1000000 from rfl] at pk
    by_cases hlt : k < hs.length
    · have hK' : k < ls.length := by have := ok.len; omega
      obtain ⟨b, off, rfl, hbl, hc⟩ := hr0.hi.at hlt
      obtain ⟨b', off', rfl, hbl', hc'⟩ := hr0.lo.at hK'
      have e1 := cell_later hc q1
      have e2 := cell_later hc' q1
      have l1 := World.block_lt_of_cell? w1 _ e1
      have l2 := World.block_lt_of_cell? w1 _ e2
      have ⟨a0, a1⟩ := ok.hi k hlt
      have ⟨c0, c1⟩ := ok.lo k hlt
      have pp := p10_pos k
      have m0 : 0 ≤ (5 * nth hs k + nth ls k) * p10 k := Int.mul_nonneg (by omega) (by omega)
      have m1 : (5 * nth hs k + nth ls k) * p10 k ≤ 9 * 1000000 := Int.mul_le_mul (by omega) (by omega) (by omega) (by omega)
      have v1 : IntKind.i64.wrap (5 * nth hs k) = 5 * nth hs k := IntWalk.i64_in _ (by omega)
      have v2 : IntKind.i64.wrap (5 * nth hs k + nth ls k) = 5 * nth hs k + nth ls k := IntWalk.i64_in _ (by omega)
      have v3 : IntKind.i64.wrap ((5 * nth hs k + nth ls k) * p10 k) = (5 * nth hs k + nth ls k) * p10 k := IntWalk.i64_in _ (by omega)
      have v4 : IntKind.i64.wrap (fvU hs ls k + (5 * nth hs k + nth ls k) * p10 k) = fvU hs ls k + (5 * nth hs k + nth ls k) * p10 k := IntWalk.i64_in _ (by omega)
      have u0 : 0 ≤ (k : Int) := by omega
      have u1 : (k : Int) < hs.length := by omega
      have u2 : (k : Int) < ls.length := by omega
      have HS : Hid (fvU hs ls (k + 1) = fvU hs ls k + (5 * nth hs k + nth ls k) * p10 k) := Lib.hid rfl
      have hk6 : k ≤ 6 := by omega
      clear hc hc' hbl hbl'
      go_wp2
      go_quiet ((go_at_call 43; exact quiet_left2 (l5Ten _ hk6 _)))
      clear v1 v2 v3 v4
      go_wp2
      go_roundw
      case rel => exact ⟨k + 1, _, by omega, by go_num, by rw [HS.out], rfl⟩
      case measure => simp [intOf]; omega
    · go_wp2
      go_ret
      obtain rfl : k = hs.length := by omega
      exact ⟨ret_int HV.out.symm, (bstep hb0 q1).drewN _⟩

set_option maxRecDepth 100000 in
theorem impl_FrameValue (A B : Option Addr) (c d : Nat) (hs ls : List Int) (w : World) (hr : FrRd w A B hs ls) (hh : hs.length ≤ 4194304) (hl : ls.length ≤ 4194304) :
    Calls Try.prog 21 #[.agg #[.slice A hs.length c, .slice B ls.length d]] w fun e w' => e = .returned (.int .i64 (fval hs ls)) ∧ Below w.heap.size w w' := by
  have hb0 := (Below.refl w.heap.size w).alloc (Nat.le_refl _) (.cells #[.slice A hs.length c, .slice B ls.length d] 27)
  have hr0 := hr.below hb0
  cases h1 : frB hs ls
  · have HV : Hid (fval hs ls = -1) := Lib.hid (by simp [fval, h1])
    go_enter Try.func21, Try.ntmps21
    go_wp2_with fail
    refine (rodsOf_no _ _ _ _ _ _ _ hr0 hh hl h1).mono ?_
    rintro e w1 ⟨rfl, q1⟩
    go_wp2_with fail
    go_ret
    exact ⟨ret_int HV.out.symm, bstep hb0 q1⟩
  have ok := frB_ok h1
  have n6 := ok.n6
  have HV : Hid (fval hs ls = fvD hs ls hs.length hs.length) := Lib.hid (by simp [fval, h1, fv_all])
  go_enter Try.func21, Try.ntmps21
  go_wp2_with fail
  refine (rodsOf_yes _ _ _ _ _ _ _ hr0 ok).mono ?_
  rintro e w1 ⟨p, g, rfl, R1, q1⟩
  have cb := R1.cbox
  have pl := R1.plt
  have gl := R1.glt
  go_wp2_with fail
  go_loopw [5, 6] (fun q i wr => ∃ j m : Nat, j ≤ hs.length ∧ i = .int .i64 ((hs.length : Int) - 1 - j) ∧ q = .int .i64 (fvD hs ls hs.length j) ∧ wr = w1.drewN m) (fun _ i _ => (intOf i + 1).toNat)
  case atStart => exact ⟨0, 0, Nat.zero_le _, by simp, rfl, rfl⟩
  case round =>
    obtain ⟨j, m, hj, rfl, rfl, rfl⟩ := hrel
    have ⟨f0, f1⟩ := ok.fvD hj
    have pk := p10_mono (i := j) (j := 6) (by omega)
    rw [show p10 6 = 1000000 from rfl] at pk
    by_cases hlt : j < hs.length
    · obtain ⟨K, hK⟩ : ∃ K : Nat, hs.length = K + 1 + j := ⟨hs.length - 1 - j, by omega⟩
      have hKl : K < hs.length := by omega
      have ek : (hs.length : Int) - 1 - (j : Int) = (K : Int) := by omega
      rw [ek]
      have ⟨a0, a1⟩ := ok.hi K hKl
      have ⟨c0, c1⟩ := ok.lo K hKl
      have HS : Hid (fvD hs ls hs.length (j + 1) = fvD hs ls hs.length j * 10 + (5 * nth hs K + nth ls K)) := Lib.hid (by simp only [fvD]; rw [show hs.length - 1 - j = K by omega]; rfl)
      have HK := Lib.hid hK
      clear hK ek
      go_wp2_with fail
      refine (beadDigit g (K * 2) (nth hs K) (nth ls K) _ ((R1.drewN m).chi hKl) ((R1.drewN m).clo hKl) a0 a1 c0 c1).mono ?_
      rintro e w' ⟨rfl, n, rfl⟩
      go_wp2_with fail
      go_roundw
      case rel => exact ⟨j + 1, _, by omega, by have := HK.out; go_num, by rw [HS.out], rfl⟩
      case measure => have := HK.out; simp [intOf]
    · have ek : (hs.length : Int) - 1 - (j : Int) = -1 := by omega
      rw [ek]
      go_wp2
      go_ret
      obtain rfl : j = hs.length := by omega
      exact ⟨ret_int HV.out.symm, (bstep hb0 q1).drewN _⟩
end Go.Proofs.Ytfdbhaojdccomaa
