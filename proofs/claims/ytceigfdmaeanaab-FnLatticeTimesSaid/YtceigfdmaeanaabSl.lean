/- Contracts of the laws' own helpers on slices of integers. -/
import Derived.Test.YtceigfdmaeanaabKit
namespace Go.Proofs.Ytceigfdmaeanaab
open Go.RowKit

/-- Two lists are equal. -/
def eqB (xs ys : List Int) : Bool := decide (xs = ys)
theorem eqB_t {xs ys : List Int} (h : xs = ys) : eqB xs ys = true := by simp [eqB, h]
theorem eqB_f {xs ys : List Int} (h : xs ≠ ys) : eqB xs ys = false := by simp [eqB, h]
theorem eqB_iff {xs ys : List Int} : eqB xs ys = true ↔ xs = ys := by simp [eqB]
theorem eqB_len {xs ys : List Int} (h : xs.length ≠ ys.length) : eqB xs ys = false := eqB_f (fun e => h (by rw [e]))
theorem eqB_at {xs ys : List Int} {k : Nat} (h : nth xs k ≠ nth ys k) : eqB xs ys = false := eqB_f (fun e => h (by rw [e]))

theorem sameInts (A B : Option Addr) (c d : Nat) (xs ys : List Int) (w : World) (hx : Rd .i64 w A xs) (hy : Rd .i64 w B ys) (bx : xs.length ≤ 4194304) (_ : ys.length ≤ 4194304) :
    Calls Try.prog 13 #[.slice A xs.length c, .slice B ys.length d] w fun e w' => e = .returned (.bool (eqB xs ys)) ∧ ∃ n, w' = w.drewN n := by
  by_cases hl : xs.length = ys.length
  · have hne : ((xs.length : Int) != (ys.length : Int)) = false := by simp [hl]
    have l1 : xs.length ≤ ys.length := by omega
    have l2 : ys.length ≤ xs.length := by omega
    have HL := Lib.hid hl
    clear hl
    go_enter Try.func13, Try.ntmps13
    go_wp2
    go_loopw [5] (fun i wr => ∃ k m : Nat, k ≤ xs.length ∧ i = .int .i64 k ∧ (∀ j, j < k → nth xs j = nth ys j) ∧ wr = w.drewN m) (fun i _ => xs.length - (intOf i).toNat)
    case atStart => exact ⟨0, 0, Nat.zero_le _, rfl, fun j hj => absurd hj (by omega), rfl⟩
    case round =>
      obtain ⟨k, m, hk, rfl, hall, rfl⟩ := hrel
      have HA := Lib.hid hall
      clear hall
      by_cases hlt : k < xs.length
      · obtain ⟨b, off, rfl, hbs, hcx⟩ := hx.at hlt
        obtain ⟨b', off', rfl, hbs', hcy⟩ := hy.at (i := k) (by omega)
        have hky : k < ys.length := by omega
        by_cases he : nth xs k = nth ys k
        · have hd : (nth xs k != nth ys k) = false := by simp [he]
          have HE := Lib.hid he
          clear he
          go_wp2
          go_quiet (fail)
          go_wp2
          go_roundw
          case rel => exact ⟨k + 1, _, by omega, by go_num, fun j hj => by
            rcases Nat.lt_or_ge j k with h | h
            · exact HA.out j h
            · obtain rfl : j = k := by omega
              exact HE.out, rfl⟩
          case measure => simp [intOf]; omega
        · have hd : (nth xs k != nth ys k) = true := by simp [he]
          have HE := Lib.hid he
          clear he
          go_wp2
          go_quiet (fail)
          go_wp2
          go_ret
          exact ⟨ret_bool (eqB_at HE.out).symm, _, World.drewN_drewN _ _ _⟩
      · go_wp2
        go_ret
        exact ⟨ret_bool (eqB_t (nth_ext HL.out (fun i hi => HA.out i (by omega)))).symm, _, rfl⟩
  · rw [eqB_len hl]
    have hne : ((xs.length : Int) != (ys.length : Int)) = true := by simp; omega
    clear hl
    go_enter Try.func13, Try.ntmps13
    go_wp2
    go_ret
    exact ⟨rfl, 0, rfl⟩
theorem sameInts_same (A B : Option Addr) (c d : Nat) (xs : List Int) (w : World) (hx : Rd .i64 w A xs) (hy : Rd .i64 w B xs) (bx : xs.length ≤ 4194304) :
    Calls Try.prog 13 #[.slice A xs.length c, .slice B xs.length d] w fun e w' => e = .returned (.bool true) ∧ ∃ n, w' = w.drewN n := by
  have := sameInts A B c d xs xs w hx hy bx bx
  rwa [eqB_t rfl] at this
end Go.Proofs.Ytceigfdmaeanaab
