/- Contracts of NumeralFar, of the program and of the reference. -/
import Derived.Test.YtceigfdmaeanaabChk
namespace Go.Proofs.Ytceigfdmaeanaab
open Go.RowKit

theorem farV_a {xs ys : List Int} (h : numB xs = false) : farV xs ys = -1 := by simp [farV, farB, h]
theorem farV_b {xs ys : List Int} (h : numB ys = false) : farV xs ys = -1 := by simp [farV, farB, h]
theorem farV_c {xs ys : List Int} (h : xs.length ≠ ys.length) : farV xs ys = -1 := by simp [farV, farB, h]
theorem farV_y {xs ys : List Int} (h : numB xs = true) (h1 : numB ys = true) (h2 : xs.length = ys.length) : farV xs ys = farTo xs ys xs.length := by simp only [farV, farB, h, h1, h2]; simp

set_option maxRecDepth 100000 in
theorem impl_NumeralFar (A B : Option Addr) (c d : Nat) (xs ys : List Int) (w : World) (hx : Rd .i64 w A xs) (hy : Rd .i64 w B ys) (lx : xs.length ≤ 4194304) (ly : ys.length ≤ 4194304) :
    Calls Try.prog 10 #[.slice A xs.length c, .slice B ys.length d] w (RetB w (.int .i64 (farV xs ys))) := by
  cases n1 : numB xs
  · rw [farV_a n1]
    go_enter Try.func10, Try.ntmps10
    go_wp2_with fail
    refine (impl_NumeralValid _ _ _ _ hx lx).mono ?_
    rintro e w1 ⟨rfl, b1⟩
    rw [n1]
    go_wp2_with fail
    go_ret
    exact ⟨rfl, b1⟩
  cases n2 : numB ys
  · rw [farV_b n2]
    go_enter Try.func10, Try.ntmps10
    go_wp2_with fail
    refine (impl_NumeralValid _ _ _ _ hx lx).mono ?_
    rintro e w1 ⟨rfl, b1⟩
    rw [n1]
    go_wp2_with fail
    refine (impl_NumeralValid _ _ _ _ (hy.below b1) ly).mono ?_
    rintro e w2 ⟨rfl, b2⟩
    rw [n2]
    go_wp2_with fail
    go_ret
    exact ⟨rfl, bstep b1 b2⟩
  by_cases hl : xs.length = ys.length
  · have hne : ((xs.length : Int) != (ys.length : Int)) = false := by simp [hl]
    have HV := Lib.hid (farV_y n1 n2 hl)
    have l6 := (numB_t n1).2.1
    have l1 : xs.length ≤ ys.length := by omega
    clear hl
    go_enter Try.func10, Try.ntmps10
    go_wp2_with fail
    refine (impl_NumeralValid _ _ _ _ hx lx).mono ?_
    rintro e w1 ⟨rfl, b1⟩
    rw [n1]
    go_wp2_with fail
    refine (impl_NumeralValid _ _ _ _ (hy.below b1) ly).mono ?_
    rintro e w2 ⟨rfl, b2⟩
    rw [n2]
    have r2 := bstep b1 b2
    go_wp2_with fail
    go_loop [5, 25] (fun s i => ∃ j : Nat, j ≤ xs.length ∧ i = .int .i64 j ∧ s = .int .i64 (farTo xs ys j)) (fun _ i => xs.length - (intOf i).toNat)
    case atStart => exact ⟨0, Nat.zero_le _, rfl, by simp [farTo]⟩
    case round =>
      obtain ⟨j, hj, rfl, rfl⟩ := hrel
      have ⟨s0, s1⟩ := farTo_bd xs ys j
      by_cases hlt : j < xs.length
      · obtain ⟨b, off, rfl, hbl, hc⟩ := (hx.below r2).at hlt
        obtain ⟨b', off', rfl, hbl', hc'⟩ := (hy.below r2).at (i := j) (by omega)
        have hly : j < ys.length := by omega
        by_cases he : nth xs j = nth ys j
        · have hd : (nth ys j != nth xs j) = false := by simp [he]
          have HE := Lib.hid (farTo_succ_eq he)
          clear he
          go_wp2
          go_round
          case rel => exact ⟨j + 1, by omega, by go_num, by rw [HE.out]⟩
          case measure => simp [intOf]; omega
        · have hd : (nth ys j != nth xs j) = true := by simp; exact fun h => he h.symm
          have HE := Lib.hid (farTo_succ_ne he)
          clear he
          go_wp2
          go_round
          case rel => exact ⟨j + 1, by omega, by go_num, by rw [HE.out]⟩
          case measure => simp [intOf]; omega
      · obtain rfl : j = xs.length := by omega
        go_wp2
        go_ret
        exact ⟨ret_int HV.out.symm, r2⟩
  · rw [farV_c hl]
    have hne : ((xs.length : Int) != (ys.length : Int)) = true := by simp; omega
    clear hl
    go_enter Try.func10, Try.ntmps10
    go_wp2_with fail
    refine (impl_NumeralValid _ _ _ _ hx lx).mono ?_
    rintro e w1 ⟨rfl, b1⟩
    rw [n1]
    go_wp2_with fail
    refine (impl_NumeralValid _ _ _ _ (hy.below b1) ly).mono ?_
    rintro e w2 ⟨rfl, b2⟩
    rw [n2]
    go_wp2_with fail
    go_ret
    exact ⟨rfl, bstep b1 b2⟩

def RetD (w : World) (v : Value) (e : Ending) (w' : World) : Prop := e = .returned v ∧ ∃ n, w' = w.drewN n

set_option maxRecDepth 100000 in
theorem spec_NumeralFar (A B : Option Addr) (c d : Nat) (xs ys : List Int) (w : World) (hx : Rd .i64 w A xs) (hy : Rd .i64 w B ys) (lx : xs.length ≤ 4194304) (ly : ys.length ≤ 4194304) :
    Calls Try.prog 11 #[.slice A xs.length c, .slice B ys.length d] w (RetD w (.int .i64 (farV xs ys))) := by
  cases n1 : numB xs
  · rw [farV_a n1]
    go_enter Try.func11, Try.ntmps11
    go_wp2_with fail
    refine (spec_NumeralValid _ _ _ _ hx lx).mono ?_
    rintro e w' ⟨rfl, rfl⟩
    rw [n1]
    go_wp2_with fail
    go_ret
    exact ⟨rfl, 0, rfl⟩
  cases n2 : numB ys
  · rw [farV_b n2]
    go_enter Try.func11, Try.ntmps11
    go_wp2_with fail
    refine (spec_NumeralValid _ _ _ _ hx lx).mono ?_
    rintro e w' ⟨rfl, rfl⟩
    rw [n1]
    go_wp2_with fail
    refine (spec_NumeralValid _ _ _ _ hy ly).mono ?_
    rintro e w' ⟨rfl, rfl⟩
    rw [n2]
    go_wp2_with fail
    go_ret
    exact ⟨rfl, 0, rfl⟩
  by_cases hl : xs.length = ys.length
  · have hne : ((xs.length : Int) != (ys.length : Int)) = false := by simp [hl]
    have HV := Lib.hid (farV_y n1 n2 hl)
    have l6 := (numB_t n1).2.1
    have l1 : xs.length ≤ ys.length := by omega
    clear hl
    go_enter Try.func11, Try.ntmps11
    go_wp2_with fail
    refine (spec_NumeralValid _ _ _ _ hx lx).mono ?_
    rintro e w' ⟨rfl, rfl⟩
    rw [n1]
    go_wp2_with fail
    refine (spec_NumeralValid _ _ _ _ hy ly).mono ?_
    rintro e w' ⟨rfl, rfl⟩
    rw [n2]
    go_wp2_with fail
    go_loopw [5, 6] (fun s i wr => ∃ j m : Nat, j ≤ xs.length ∧ i = .int .i64 j ∧ s = .int .i64 (farTo xs ys j) ∧ wr = w.drewN m) (fun _ i _ => xs.length - (intOf i).toNat)
    case atStart => exact ⟨0, 0, Nat.zero_le _, rfl, by simp [farTo], rfl⟩
    case round =>
      obtain ⟨j, m, hj, rfl, rfl, rfl⟩ := hrel
      have ⟨s0, s1⟩ := farTo_bd xs ys j
      by_cases hlt : j < xs.length
      · obtain ⟨b, off, rfl, hbl, hc⟩ := hx.at hlt
        obtain ⟨b', off', rfl, hbl', hc'⟩ := hy.at (i := j) (by omega)
        have hly : j < ys.length := by omega
        by_cases he : nth xs j = nth ys j
        · have hd : (nth xs j != nth ys j) = false := by simp [he]
          have HE := Lib.hid (farTo_succ_eq he)
          clear he
          go_wp2
          go_quiet (fail)
          go_wp2
          go_roundw
          case rel => exact ⟨j + 1, _, by omega, by go_num, by rw [HE.out], rfl⟩
          case measure => simp [intOf]; omega
        · have hd : (nth xs j != nth ys j) = true := by simp [he]
          have HE := Lib.hid (farTo_succ_ne he)
          clear he
          go_wp2
          go_quiet (fail)
          go_wp2
          go_roundw
          case rel => exact ⟨j + 1, _, by omega, by go_num, by rw [HE.out], rfl⟩
          case measure => simp [intOf]; omega
      · obtain rfl : j = xs.length := by omega
        go_wp2
        go_ret
        exact ⟨ret_int HV.out.symm, m, rfl⟩
  · rw [farV_c hl]
    have hne : ((xs.length : Int) != (ys.length : Int)) = true := by simp; omega
    clear hl
    go_enter Try.func11, Try.ntmps11
    go_wp2_with fail
    refine (spec_NumeralValid _ _ _ _ hx lx).mono ?_
    rintro e w' ⟨rfl, rfl⟩
    rw [n1]
    go_wp2_with fail
    refine (spec_NumeralValid _ _ _ _ hy ly).mono ?_
    rintro e w' ⟨rfl, rfl⟩
    rw [n2]
    go_wp2_with fail
    go_ret
    exact ⟨rfl, 0, rfl⟩
end Go.Proofs.Ytceigfdmaeanaab
