/- What l91Claim draws: three lists. -/
import Derived.Test.YtceigfdmaeanaabDrawFar
import Derived.Test.YtceigfdmaeanaabNumOf
namespace Go.Proofs.Ytceigfdmaeanaab
open Go.RowKit

/-- An integer is returned. -/
def SomeInt (w : World) (e : Ending) (w' : World) : Prop := (∃ n : Int, e = .returned (.int .i64 n)) ∧ w = w'
set_option maxRecDepth 100000 in
theorem l3Value (A : Option Addr) (c : Nat) (zs : List Int) (w : World) (hr : Rd .i64 w A zs) (hl : zs.length ≤ 4194304) :
    Calls Try.prog 52 #[.slice A zs.length c] w (SomeInt w) := by
  go_enter Try.func52, Try.ntmps52
  go_wp2
  go_loop [3, 4] (fun q i => ∃ (j : Nat) (n : Int), j ≤ zs.length ∧ i = .int .i64 j ∧ q = .int .i64 n) (fun _ i => zs.length - (intOf i).toNat)
  case atStart => exact ⟨0, 0, Nat.zero_le _, rfl, rfl⟩
  case round =>
    obtain ⟨j, n, hj, rfl, rfl⟩ := hrel
    by_cases hlt : j < zs.length
    · obtain ⟨b, off, rfl, hbl, hc⟩ := hr.at hlt
      go_wp2_with fail
      go_round
      case rel => exact ⟨j + 1, _, by omega, by go_num, rfl⟩
      case measure => simp [intOf]; omega
    · go_wp2_with fail
      go_ret
      exact ⟨⟨_, rfl⟩, rfl⟩

def lenOfV : Value → Nat
  | .slice _ n _ => n
  | _ => 0
/-- A list of few digits is returned, or none. -/
def SomeNum (w : World) (e : Ending) (w' : World) : Prop := ∃ A c ds ok, e = .returned (.tuple #[.slice A ds.length c, .bool ok]) ∧ Sl w' w.heap.size A c ds ∧ ds.length ≤ 6 ∧ Below w.heap.size w w'
set_option maxRecDepth 100000 in
set_option maxHeartbeats 1000000 in
theorem spec_NumeralOf (v : Int) (w : World) : Calls Try.prog 59 #[.int .i64 v] w (SomeNum w) := by
  have be := below_new w (.cells #[] 3)
  have se := Sl.empty w w (Nat.le_refl _)
  cases h : inB v 0 999999
  · go_enter Try.func59, Try.ntmps59
    go_wp2_with fail
    refine (l6In _ _ _ _).mono ?_
    rintro e w' ⟨rfl, rfl⟩
    rw [h]
    go_wp2_with fail
    go_ret2
    exact ⟨_, 0, [], false, rfl, se, by simp, be⟩
  have ⟨v0, v1⟩ := inB_t h
  have HSE := Lib.hid se
  have HBE := Lib.hid be
  clear se be
  go_enter Try.func59, Try.ntmps59
  go_wp2_with fail
  refine (l6In _ _ _ _).mono ?_
  rintro e w' ⟨rfl, rfl⟩
  rw [h]
  go_wp2_with fail
  go_loopw [0, 4] (fun q s wr => ∃ (k : Nat) (A : Option Addr) (c : Nat) (ds : List Int) (n : Int), k ≤ 6 ∧ q = .int .i64 n ∧ s = .slice A ds.length c ∧ ds.length = k ∧ 0 ≤ n ∧ n < p10 (6 - k) ∧ Sl wr w.heap.size A c ds ∧ Below w.heap.size w wr) (fun q s _ => (intOf q).toNat + (if lenOfV s = 0 then 1 else 0))
  case atStart => exact ⟨0, _, 0, [], v, Nat.zero_le _, rfl, rfl, rfl, v0, by rw [show p10 (6 - 0) = 1000000 from rfl]; omega, HSE.out, HBE.out⟩
  case round =>
    obtain ⟨k, A, c, ds, n, hk, rfl, rfl, hlen, n0, n1, hs, hb⟩ := hrel
    have hz := hb.size
    have HK := Lib.hid hlen
    have lk : ds.length ≤ 6 := by omega
    have HLIT := Lib.hid (Sl.lit wr w.heap.size hz [n % 10] #[.int .i64 (n % 10)] rfl (by simp))
    have HBA := Lib.hid (hb.alloc hz (.cells #[.int .i64 (n % 10)] 3))
    have hnb : n < 1000000 := by
      have := p10_mono (i := 6 - k) (j := 6) (by omega)
      rw [show p10 6 = 1000000 from rfl] at this
      omega
    clear hlen
    by_cases hn : 0 < n
    · have k5 : k ≤ 5 := by
        rcases Nat.lt_or_ge k 6 with h | h
        · omega
        · exfalso
          obtain rfl : k = 6 := by omega
          simp [p10] at n1
          omega
      have HPN : Hid (n / 10 < p10 (6 - (k + 1))) := Lib.hid (by
        rw [show 6 - k = (6 - (k + 1)) + 1 by omega] at n1
        simp only [p10] at n1
        omega)
      go_wp2_with (at_builtin; refine wp_apS _ _ rfl rfl _ w.heap.size _ _ _ _ [n % 10] ds rfl rfl HLIT.out (hs.rd.alloc _) hs.nz (by simp; omega) (by simp; omega) ?_; intro A1 c1 w2 s2 g2 _)
      go_roundw
      case rel => exact ⟨k + 1, A1, c1, [n % 10] ++ ds, n / 10, by omega, rfl, by simp, by simp [HK.out], by omega, HPN.out, s2, HBA.out.grown g2 (by simp; omega) (fun j hj => (HLIT.out.lt j hj).1)⟩
      case measure => simp [intOf, lenOfV]; omega
    · obtain rfl : n = 0 := by omega
      by_cases hk0 : k = 0
      · have hd0 : ds = [] := List.eq_nil_of_length_eq_zero (by rw [HK.out]; exact hk0)
        subst hd0 hk0
        go_wp2_with (at_builtin; refine wp_apS _ _ rfl rfl _ w.heap.size _ _ _ _ [0 % 10] [] rfl rfl HLIT.out (hs.rd.alloc _) hs.nz (by simp) (by simp; omega) ?_; intro A1 c1 w2 s2 g2 _)
        go_roundw
        case rel => exact ⟨1, A1, c1, [0 % 10] ++ [], 0, by omega, rfl, by simp, by simp, by omega, by simp [p10], s2, HBA.out.grown g2 (by simp; omega) (fun j hj => (HLIT.out.lt j hj).1)⟩
        case measure => simp [intOf, lenOfV]
      · have hl0 : ((ds.length : Int) == 0) = false := beq_eq_false_iff_ne.2 (by have := HK.out; omega)
        go_wp2_with fail
        go_ret2
        exact ⟨A, c, ds, true, rfl, hs, lk, hb⟩

/-- Two lists and the reader stand by. -/
structure ClSt (w0 : World) (B0 g m : Nat) (A : Option Addr) (c : Nat) (xs : List Int) (B : Option Addr) (d : Nat) (ys : List Int) (w : World) : Prop where
  st : FarSt w0 B0 g m A c xs w
  sb : Sl w B0 B d ys
section
variable {w0 w w1 : World} {B0 g m : Nat} {A B : Option Addr} {c d : Nat} {xs ys : List Int}
theorem ClSt.pick (h : ClSt w0 B0 g m A c xs B d ys w) (r : RdyI B0 w1 g (m + 1)) (k : w.grownBy w1 (some g)) : ClSt w0 B0 g (m + 1) A c xs B d ys w1 := ⟨h.st.pick r k, h.sb.pick k h.st.r.1⟩
theorem ClSt.below (h : ClSt w0 B0 g m A c xs B d ys w) (k : Below w.heap.size w w1) : ClSt w0 B0 g m A c xs B d ys w1 := ⟨h.st.below k, h.sb.below k⟩
end
/-- Three lists are drawn. -/
def DrawThree (w : World) (e : Ending) (w' : World) : Prop := ∃ A c xs B d ys C f zs, e = .returned (.tuple #[.slice A xs.length c, .slice B ys.length d, .slice C zs.length f]) ∧ Rd .i64 w' A xs ∧ Rd .i64 w' B ys ∧ Rd .i64 w' C zs ∧ xs.length ≤ 7 ∧ ys.length ≤ 7 ∧ zs.length ≤ 7 ∧ Below w.heap.size w w'
end Go.Proofs.Ytceigfdmaeanaab
