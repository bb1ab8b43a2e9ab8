/- Contracts of pushesTo, l5Pushes, FramePushes. -/
import Derived.Test.YtfdbhaojdccomaaVal
namespace Go.Proofs.Ytfdbhaojdccomaa
open Go.RowKit

def pu1 (x y : Int) : Int := if x = y then 0 else 1
/-- The pushes from one rod to another one. -/
def pu (x y x' y' : Int) : Int := pu1 x x' + pu1 y y'
theorem pu1_bd (x y : Int) : 0 ≤ pu1 x y ∧ pu1 x y ≤ 1 := by unfold pu1; split <;> omega
theorem pu_bd (x y x' y' : Int) : 0 ≤ pu x y x' y' ∧ pu x y x' y' ≤ 2 := by have := pu1_bd x x'; have := pu1_bd y y'; unfold pu; omega
def puU (hs ls hs' ls' : List Int) : Nat → Int
  | 0 => 0
  | k + 1 => puU hs ls hs' ls' k + pu (nth hs k) (nth ls k) (nth hs' k) (nth ls' k)
theorem puU_bd (hs ls hs' ls' : List Int) : ∀ k, 0 ≤ puU hs ls hs' ls' k ∧ puU hs ls hs' ls' k ≤ 2 * k
  | 0 => by simp [puU]
  | k + 1 => by have := puU_bd hs ls hs' ls' k; have := pu_bd (nth hs k) (nth ls k) (nth hs' k) (nth ls' k); simp only [puU]; omega
def fpush (hs ls hs' ls' : List Int) : Int := if frB hs ls && frB hs' ls' && decide (hs.length = hs'.length) then puU hs ls hs' ls' hs.length else -1

set_option maxRecDepth 100000 in
theorem beadPushes (g o : Nat) (x y x' y' : Int) (w : World) (ch : w.cell? ⟨g, o, none⟩ = some (.int .i64 x)) (cl : w.cell? ⟨g, o + 1, none⟩ = some (.int .i64 y)) :
    Calls Try.prog 50 #[.pointer (some ⟨g, o, none⟩), .agg #[.int .i64 x', .int .i64 y']] w fun e w' => e = .returned (.int .i64 (pu x y x' y')) ∧ Below w.heap.size w w' := by
  have hlt := World.block_lt_of_cell? w _ ch
  have HBE := Lib.hid (fun o => (Below.refl w.heap.size w).alloc (Nat.le_refl _) o)
  have hne : ¬ g = w.heap.size := by simp at hlt; omega
  by_cases h1 : x = x'
  · have d1 : (x != x') = false := by simp [h1]
    by_cases h2 : y = y'
    · have d2 : (y != y') = false := by simp [h2]
      have HV : Hid (pu x y x' y' = 0) := Lib.hid (by simp [pu, pu1, h1, h2])
      clear h1 h2
      go_enter Try.func50, Try.ntmps50
      go_wp2
      go_quiet (fail)
      go_wp2
      go_quiet (fail)
      go_wp2
      go_ret
      first | exact ⟨ret_int HV.out.symm, ((HBE.out _).drewN _).drewN _⟩ | exact ⟨ret_int HV.out.symm, (HBE.out _).drewN _⟩
    · have d2 : (y != y') = true := by simp [h2]
      have HV : Hid (pu x y x' y' = 1) := Lib.hid (by simp [pu, pu1, h1, h2])
      clear h1 h2
      go_enter Try.func50, Try.ntmps50
      go_wp2
      go_quiet (fail)
      go_wp2
      go_quiet (fail)
      go_wp2
      go_ret
      first | exact ⟨ret_int HV.out.symm, ((HBE.out _).drewN _).drewN _⟩ | exact ⟨ret_int HV.out.symm, (HBE.out _).drewN _⟩
  · have d1 : (x != x') = true := by simp [h1]
    by_cases h2 : y = y'
    · have d2 : (y != y') = false := by simp [h2]
      have HV : Hid (pu x y x' y' = 1) := Lib.hid (by simp [pu, pu1, h1, h2])
      clear h1 h2
      go_enter Try.func50, Try.ntmps50
      go_wp2
      go_quiet (fail)
      go_wp2
      go_quiet (fail)
      go_wp2
      go_ret
      first | exact ⟨ret_int HV.out.symm, ((HBE.out _).drewN _).drewN _⟩ | exact ⟨ret_int HV.out.symm, (HBE.out _).drewN _⟩
    · have d2 : (y != y') = true := by simp [h2]
      have HV : Hid (pu x y x' y' = 2) := Lib.hid (by simp [pu, pu1, h1, h2])
      clear h1 h2
      go_enter Try.func50, Try.ntmps50
      go_wp2
      go_quiet (fail)
      go_wp2
      go_quiet (fail)
      go_wp2
      go_ret
      first | exact ⟨ret_int HV.out.symm, ((HBE.out _).drewN _).drewN _⟩ | exact ⟨ret_int HV.out.symm, (HBE.out _).drewN _⟩

theorem l5Pushes (a b : Int) (w : World) (a0 : 0 ≤ a) (a9 : a ≤ 9) (b0 : 0 ≤ b) (b9 : b ≤ 9) :
    Calls Try.prog 49 #[.int .i64 a, .int .i64 b] w fun e w' => e = .returned (.int .i64 (pu (a / 5) (a % 5) (b / 5) (b % 5))) ∧ w = w' := by
  by_cases h1 : a / 5 = b / 5
  · have d1 : (a / 5 != b / 5) = false := by simp [h1]
    by_cases h2 : a % 5 = b % 5
    · have d2 : (a % 5 != b % 5) = false := by simp [h2]
      have HV : Hid (pu (a / 5) (a % 5) (b / 5) (b % 5) = 0) := Lib.hid (by simp [pu, pu1, h1, h2])
      clear h1 h2
      go_enter Try.func49, Try.ntmps49
      go_wp2
      go_ret
      exact ⟨ret_int HV.out.symm, rfl⟩
    · have d2 : (a % 5 != b % 5) = true := by simp [h2]
      have HV : Hid (pu (a / 5) (a % 5) (b / 5) (b % 5) = 1) := Lib.hid (by simp [pu, pu1, h1, h2])
      clear h1 h2
      go_enter Try.func49, Try.ntmps49
      go_wp2
      go_ret
      exact ⟨ret_int HV.out.symm, rfl⟩
  · have d1 : (a / 5 != b / 5) = true := by simp [h1]
    by_cases h2 : a % 5 = b % 5
    · have d2 : (a % 5 != b % 5) = false := by simp [h2]
      have HV : Hid (pu (a / 5) (a % 5) (b / 5) (b % 5) = 1) := Lib.hid (by simp [pu, pu1, h1, h2])
      clear h1 h2
      go_enter Try.func49, Try.ntmps49
      go_wp2
      go_ret
      exact ⟨ret_int HV.out.symm, rfl⟩
    · have d2 : (a % 5 != b % 5) = true := by simp [h2]
      have HV : Hid (pu (a / 5) (a % 5) (b / 5) (b % 5) = 2) := Lib.hid (by simp [pu, pu1, h1, h2])
      clear h1 h2
      go_enter Try.func49, Try.ntmps49
      go_wp2
      go_ret
      exact ⟨ret_int HV.out.symm, rfl⟩
theorem l5Pushes_at (x y x' y' : Int) (w : World) (x0 : 0 ≤ x) (x1 : x ≤ 1) (y0 : 0 ≤ y) (y1 : y ≤ 4) (x0' : 0 ≤ x') (x1' : x' ≤ 1) (y0' : 0 ≤ y') (y1' : y' ≤ 4) :
    Calls Try.prog 49 #[.int .i64 (5 * x + y), .int .i64 (5 * x' + y')] w fun e w' => e = .returned (.int .i64 (pu x y x' y')) ∧ w = w' := by
  have := l5Pushes (5 * x + y) (5 * x' + y') w (by omega) (by omega) (by omega) (by omega)
  rw [show (5 * x + y) / 5 = x by omega, show (5 * x + y) % 5 = y by omega, show (5 * x' + y') / 5 = x' by omega, show (5 * x' + y') % 5 = y' by omega] at this
  exact this

theorem box22 {w w1 : World} {x y x' y' : Value} {t t' : TypeId} (q : Below ((w.alloc (.cells #[x, y] t)).alloc (.cells #[x', y'] t')).heap.size ((w.alloc (.cells #[x, y] t)).alloc (.cells #[x', y'] t')) w1) :
    w1.cell? ⟨w.heap.size, 0, none⟩ = some x ∧ w1.cell? ⟨w.heap.size, 1, none⟩ = some y ∧ w1.cell? ⟨w.heap.size + 1, 0, none⟩ = some x' ∧ w1.cell? ⟨w.heap.size + 1, 1, none⟩ = some y' ∧ w.heap.size < w1.heap.size ∧ w.heap.size + 1 < w1.heap.size := by
  have hz := q.size
  simp at hz
  have c : ∀ (j : Nat) (v : Value), (w.alloc (.cells #[x, y] t)).cell? ⟨w.heap.size, j, none⟩ = some v → ((w.alloc (.cells #[x, y] t)).alloc (.cells #[x', y'] t')).cell? ⟨w.heap.size, j, none⟩ = some v := fun j v h => (World.cell?_alloc_lt _ _ _ (by simp)).trans h
  refine ⟨(q.cell (p := ⟨w.heap.size, 0, none⟩) (by simp; omega)).trans (c _ _ (by simp)), (q.cell (p := ⟨w.heap.size, 1, none⟩) (by simp; omega)).trans (c _ _ (by simp)), (q.cell (p := ⟨w.heap.size + 1, 0, none⟩) (by simp)).trans ?_, (q.cell (p := ⟨w.heap.size + 1, 1, none⟩) (by simp)).trans ?_, by omega, by omega⟩
  · simp
  · simp

set_option maxRecDepth 100000 in
set_option maxHeartbeats 1000000 in
theorem spec_FramePushes (A B A' B' : Option Addr) (c d c' d' : Nat) (hs ls hs' ls' : List Int) (w : World) (hr : FrRd w A B hs ls) (hr' : FrRd w A' B' hs' ls') (hh : hs.length ≤ 4194304) (hl : ls.length ≤ 4194304) (hh' : hs'.length ≤ 4194304) (hl' : ls'.length ≤ 4194304) :
    Calls Try.prog 26 #[.agg #[.slice A hs.length c, .slice B ls.length d], .agg #[.slice A' hs'.length c', .slice B' ls'.length d']] w fun e w' => e = .returned (.int .i64 (fpush hs ls hs' ls')) ∧ Below w.heap.size w w' := by
  have hb0 := ((Below.refl w.heap.size w).alloc (Nat.le_refl _) (.cells #[.slice A hs.length c, .slice B ls.length d] 27)).alloc (by simp) (.cells #[.slice A' hs'.length c', .slice B' ls'.length d'] 27)
  have hr0 := hr.below hb0
  have hr0' := hr'.below hb0
  cases h1 : frB hs ls
  · have HV : Hid (fpush hs ls hs' ls' = -1) := Lib.hid (by simp [fpush, h1])
    go_enter Try.func26, Try.ntmps26
    go_wp2_with fail
    refine (spec_FrameValid_b _ _ _ _ _ _ _ hr0 hh hl).mono ?_
    rintro e w1 ⟨rfl, q1⟩
    rw [h1]
    go_wp2_with fail
    go_ret
    exact ⟨ret_int HV.out.symm, bstep hb0 q1⟩
  cases h2 : frB hs' ls'
  · have HV : Hid (fpush hs ls hs' ls' = -1) := Lib.hid (by simp [fpush, h2])
    go_enter Try.func26, Try.ntmps26
    go_wp2_with fail
    refine (spec_FrameValid_b _ _ _ _ _ _ _ hr0 hh hl).mono ?_
    rintro e w1 ⟨rfl, q1⟩
    rw [h1]
    obtain ⟨x1, x2, x3, x4, z1, z2⟩ := box22 q1
    go_wp2_with fail
    refine (spec_FrameValid_b _ _ _ _ _ _ _ (hr0'.below q1) hh' hl').mono ?_
    rintro e w2 ⟨rfl, b2⟩
    rw [h2]
    clear x1 x2 x3 x4
    go_wp2_with fail
    go_ret
    exact ⟨ret_int HV.out.symm, bstep hb0 (bstep q1 b2)⟩
  have ok := frB_ok h1
  have ok' := frB_ok h2
  have n6 := ok.n6
  by_cases h3 : hs.length = hs'.length
  · have HV : Hid (fpush hs ls hs' ls' = puU hs ls hs' ls' hs.length) := Lib.hid (by simp [fpush, h1, h2, h3])
    have d3 : ((hs.length : Int) != (hs'.length : Int)) = false := by simp [h3]
    have l3 : hs.length ≤ hs'.length := by omega
    clear h3
    go_enter Try.func26, Try.ntmps26
    go_wp2_with fail
    refine (spec_FrameValid_b _ _ _ _ _ _ _ hr0 hh hl).mono ?_
    rintro e w1 ⟨rfl, q1⟩
    rw [h1]
    obtain ⟨x1, x2, x3, x4, z1, z2⟩ := box22 q1
    go_wp2_with fail
    refine (spec_FrameValid_b _ _ _ _ _ _ _ (hr0'.below q1) hh' hl').mono ?_
    rintro e w2 ⟨rfl, b2⟩
    rw [h2]
    clear x1 x2 x3 x4 z1 z2
    have q2 := bstep q1 b2
    obtain ⟨x1, x2, x3, x4, z1, z2⟩ := box22 q2
    go_wp2_with fail
    go_loopw [5, 6] (fun q i wr => ∃ k m : Nat, k ≤ hs.length ∧ i = .int .i64 k ∧ q = .int .i64 (puU hs ls hs' ls' k) ∧ wr = w2.drewN m) (fun _ i _ => hs.length - (intOf i).toNat)
    case atStart => exact ⟨0, 0, Nat.zero_le _, rfl, rfl, rfl⟩
    case round =>
      obtain ⟨k, m, hk, rfl, rfl, rfl⟩ := hrel
      have ⟨f0, f1⟩ := puU_bd hs ls hs' ls' k
      by_cases hlt : k < hs.length
      · have k2 : k < ls.length := by have := ok.len; omega
        have k3 : k < hs'.length := by omega
        have k4 : k < ls'.length := by have := ok'.len; omega
        obtain ⟨b, off, rfl, hbl, hc⟩ := hr0.hi.at hlt
        obtain ⟨b', off', rfl, hbl', hc'⟩ := hr0.lo.at k2
        obtain ⟨g, of2, rfl, hgl, hd⟩ := hr0'.hi.at k3
        obtain ⟨g', of2', rfl, hgl', hd'⟩ := hr0'.lo.at k4
        have e1 := cell_later hc q2
        have e2 := cell_later hc' q2
        have e3 := cell_later hd q2
        have e4 := cell_later hd' q2
        have l1 := World.block_lt_of_cell? w2 _ e1
        have l2 := World.block_lt_of_cell? w2 _ e2
        have l3 := World.block_lt_of_cell? w2 _ e3
        have l4 := World.block_lt_of_cell? w2 _ e4
        have ⟨a0, a1⟩ := ok.hi k hlt
        have ⟨c0, c1⟩ := ok.lo k hlt
        have ⟨a0', a1'⟩ := ok'.hi k k3
        have ⟨c0', c1'⟩ := ok'.lo k k3
        have ⟨p0, p1⟩ := pu_bd (nth hs k) (nth ls k) (nth hs' k) (nth ls' k)
        have v1 : IntKind.i64.wrap (5 * nth hs k) = 5 * nth hs k := IntWalk.i64_in _ (by omega)
        have v2 : IntKind.i64.wrap (5 * nth hs k + nth ls k) = 5 * nth hs k + nth ls k := IntWalk.i64_in _ (by omega)
        have v3 : IntKind.i64.wrap (5 * nth hs' k) = 5 * nth hs' k := IntWalk.i64_in _ (by omega)
        have v4 : IntKind.i64.wrap (5 * nth hs' k + nth ls' k) = 5 * nth hs' k + nth ls' k := IntWalk.i64_in _ (by omega)
        have v5 : IntKind.i64.wrap (puU hs ls hs' ls' k + pu (nth hs k) (nth ls k) (nth hs' k) (nth ls' k)) = puU hs ls hs' ls' k + pu (nth hs k) (nth ls k) (nth hs' k) (nth ls' k) := IntWalk.i64_in _ (by omega)
        have u0 : 0 ≤ (k : Int) := by omega
        have u1 : (k : Int) < hs.length := by omega
        have u2 : (k : Int) < ls.length := by omega
        have u3 : (k : Int) < hs'.length := by omega
        have u4 : (k : Int) < ls'.length := by omega
        have HS : Hid (puU hs ls hs' ls' (k + 1) = puU hs ls hs' ls' k + pu (nth hs k) (nth ls k) (nth hs' k) (nth ls' k)) := Lib.hid rfl
        clear hc hc' hbl hbl' hd hd' hgl hgl'
        go_wp2
        go_quiet ((go_at_call 49; exact quiet_left2 (l5Pushes_at _ _ _ _ _ a0 a1 c0 c1 a0' a1' c0' c1')))
        clear v1 v2 v3 v4 v5
        go_wp2
        go_roundw
        case rel => exact ⟨k + 1, _, by omega, by go_num, by rw [HS.out], rfl⟩
        case measure => simp [intOf]; omega
      · go_wp2
        go_ret
        obtain rfl : k = hs.length := by omega
        exact ⟨ret_int HV.out.symm, (bstep hb0 q2).drewN _⟩
  · have HV : Hid (fpush hs ls hs' ls' = -1) := Lib.hid (by simp [fpush, h3])
    have d3 : ((hs.length : Int) != (hs'.length : Int)) = true := by simp; omega
    clear h3
    go_enter Try.func26, Try.ntmps26
    go_wp2_with fail
    refine (spec_FrameValid_b _ _ _ _ _ _ _ hr0 hh hl).mono ?_
    rintro e w1 ⟨rfl, q1⟩
    rw [h1]
    obtain ⟨x1, x2, x3, x4, z1, z2⟩ := box22 q1
    go_wp2_with fail
    refine (spec_FrameValid_b _ _ _ _ _ _ _ (hr0'.below q1) hh' hl').mono ?_
    rintro e w2 ⟨rfl, b2⟩
    rw [h2]
    clear x1 x2 x3 x4 z1 z2
    have q2 := bstep q1 b2
    obtain ⟨x1, x2, x3, x4, z1, z2⟩ := box22 q2
    go_wp2_with fail
    go_ret
    exact ⟨ret_int HV.out.symm, bstep hb0 q2⟩
end Go.Proofs.Ytfdbhaojdccomaa
