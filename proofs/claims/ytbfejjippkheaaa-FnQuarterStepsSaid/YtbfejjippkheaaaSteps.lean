/- Contracts of QuarterSteps, of the program and of the reference. -/
import Derived.Test.YtbfejjippkheaaaInts
import Derived.Test.YtbfejjippkheaaaOwn
namespace Go.Proofs.Ytbfejjippkheaaa
open Go.RowKit

def qstep (i : Nat) : Int := ((i : Int) + 1) * ((i : Int) + 1) / 4 - (i : Int) * (i : Int) / 4
def qst (j : Nat) : List Int := (List.range j).map qstep
theorem qst_len (j : Nat) : (qst j).length = j := by simp [qst]
theorem qst_succ (j : Nat) : qst (j + 1) = qst j ++ [qstep j] := by simp [qst, List.range_succ]
def qs (n : Int) : List Int := if inB n 0 100 then qst n.toNat else []

theorem qs_le (n : Int) : (qs n).length ≤ 100 := by
  unfold qs
  split
  · rename_i h
    have := inB_t h
    rw [qst_len]; omega
  · simp

theorem qst_sl {w : World} {B : Nat} {A : Option Addr} {c j : Nat} (h : Sl w B A c (qst j ++ [((j : Int) + 1) * ((j : Int) + 1) / 4 - (j : Int) * (j : Int) / 4])) : Sl w B A c (qst (j + 1)) := by
  rw [qst_succ, qstep]
  exact h

set_option maxRecDepth 100000 in
theorem spec_QuarterSteps (n : Int) (w : World) : Calls Try.prog 22 #[.int .i64 n] w (SlPost w (qs n) (inB n 0 100)) := by
  cases h : inB n 0 100
  · have hv : qs n = [] := by simp [qs, h]
    rw [hv]; clear hv
    go_enter Try.func22, Try.ntmps22
    go_wp2_with (go_at_call 32; refine (l6In _ _ _ _).mono ?_; rintro e w' ⟨rfl, rfl⟩)
    go_ret2
    exact ⟨_, _, rfl, Sl.lit w _ (Nat.le_refl _) [] #[] rfl (by simp), (Below.refl _ _).alloc (Nat.le_refl _) _⟩
  · have hv : qs n = qst n.toNat := by simp [qs, h]
    rw [hv]; clear hv
    have ⟨h0, h1⟩ := inB_t h
    obtain ⟨N, rfl⟩ := Int.eq_ofNat_of_zero_le h0
    rw [Int.toNat_natCast]
    go_enter Try.func22, Try.ntmps22
    go_wp2_with (go_at_call 32; refine (l6In _ _ _ _).mono ?_; rintro e w' ⟨rfl, rfl⟩)
    go_loopw [4, 5] (fun v i wr => ∃ (j : Nat) (A : Option Addr) (c : Nat), j ≤ N ∧ i = .int .i64 (j + 1) ∧ v = .slice A (qst j).length c ∧ Sl wr w.heap.size A c (qst j) ∧ Below w.heap.size w wr) (fun _ i _ => N + 1 - (intOf i).toNat)
    case atStart => exact ⟨0, _, _, Nat.zero_le _, rfl, rfl, Sl.lit w _ (Nat.le_refl _) [] #[] rfl (by simp), (Below.refl _ _).alloc (Nat.le_refl _) _⟩
    case round =>
      obtain ⟨j, A, c, hj, rfl, rfl, hs, hb⟩ := hrel
      by_cases hlt : j < N
      · have ⟨q1, q2⟩ := sq_bd (j + 1) 100 (by omega) (by omega)
        have ⟨q3, q4⟩ := sq_bd (j : Int) 100 (by omega) (by omega)
        have hlen : (qst j).length ≤ 100 := by rw [qst_len]; omega
        have hbs := hb.size
        go_wp2_with (first
          | (go_at_call 12; refine (spec_QuarterOf_in _ _ (by omega) (by omega)).mono ?_; rintro e w' ⟨rfl, rfl⟩)
          | (at_builtin; refine wp_ap1 _ _ rfl rfl wr w.heap.size A c (qst j) _ rfl rfl hs (by omega) (by omega) ?_; intro A1 c1 w1 hs1 hg1 _))
        go_roundw
        case rel => exact ⟨j + 1, A1, c1, by omega, by go_num, by simp only [qst_len], qst_sl hs1, hb.grown hg1 (by omega) (fun k hk => (hs.lt k hk).1)⟩
        case measure => simp [intOf]; omega
      · go_wp2
        go_ret2
        obtain rfl : j = N := by omega
        exact ⟨_, _, rfl, hs, hb⟩

set_option maxRecDepth 100000 in
theorem impl_QuarterSteps (n : Int) (w : World) : Calls Try.prog 23 #[.int .i64 n] w (SlPost w (qs n) (inB n 0 100)) := by
  cases h : inB n 0 100
  · have hv : qs n = [] := by simp [qs, h]
    rw [hv]; clear hv
    rcases inB_f h with h0 | h0
    · go_enter Try.func23, Try.ntmps23
      go_wp2
      go_ret2
      exact ⟨_, _, rfl, Sl.nil_ _ _, Below.refl _ _⟩
    · have h1 : ¬ n < 0 := by omega
      go_enter Try.func23, Try.ntmps23
      go_wp2
      go_ret2
      exact ⟨_, _, rfl, Sl.nil_ _ _, Below.refl _ _⟩
  · have hv : qs n = qst n.toNat := by simp [qs, h]
    rw [hv]; clear hv
    have ⟨h0, h1⟩ := inB_t h
    obtain ⟨N, rfl⟩ := Int.eq_ofNat_of_zero_le h0
    rw [Int.toNat_natCast]
    go_enter Try.func23, Try.ntmps23
    go_wp2_with (at_make; refine wp_mk0 _ _ rfl rfl _ w.heap.size N rfl rfl (by omega) (by omega) ?_; intro A0 w0 hs0 hg0)
    go_loopw [4, 5] (fun v i wr => ∃ (j : Nat) (A : Option Addr) (c : Nat), j ≤ N ∧ i = .int .i64 (j + 1) ∧ v = .slice A (qst j).length c ∧ Sl wr w.heap.size A c (qst j) ∧ Below w.heap.size w wr) (fun _ i _ => N + 1 - (intOf i).toNat)
    case atStart => exact ⟨0, _, _, Nat.zero_le _, rfl, rfl, hs0, (Below.refl _ _).grown hg0 (Nat.le_refl _) (fun _ hk => by cases hk)⟩
    case round =>
      obtain ⟨j, A, c, hj, rfl, rfl, hs, hb⟩ := hrel
      by_cases hlt : j < N
      · have ⟨q1, q2⟩ := sq_bd (j + 1) 100 (by omega) (by omega)
        have ⟨q3, q4⟩ := sq_bd (j : Int) 100 (by omega) (by omega)
        have hlen : (qst j).length ≤ 100 := by rw [qst_len]; omega
        have hbs := hb.size
        go_wp2_with (first
          | (go_at_call 33; refine (quarter _ _ (by omega) (by omega)).mono ?_; rintro e w' ⟨rfl, rfl⟩)
          | (at_builtin; refine wp_ap1 _ _ rfl rfl wr w.heap.size A c (qst j) _ rfl rfl hs (by omega) (by omega) ?_; intro A1 c1 w1 hs1 hg1 _))
        go_roundw
        case rel => exact ⟨j + 1, A1, c1, by omega, by go_num, by simp only [qst_len], qst_sl hs1, hb.grown hg1 (by omega) (fun k hk => (hs.lt k hk).1)⟩
        case measure => simp [intOf]; omega
      · go_wp2
        go_ret2
        obtain rfl : j = N := by omega
        exact ⟨_, _, rfl, hs, hb⟩
end Go.Proofs.Ytbfejjippkheaaa
