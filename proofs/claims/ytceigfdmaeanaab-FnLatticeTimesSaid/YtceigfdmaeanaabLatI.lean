/- Lattices: the program's LatticeDigits and LatticeTimes, the laws' valueOf. -/
import Derived.Test.YtceigfdmaeanaabLat
namespace Go.Proofs.Ytceigfdmaeanaab
open Go.RowKit

/-- The value of the last i of n digits. -/
def dv (D : List Int) (n : Nat) : Nat → Int
  | 0 => 0
  | i + 1 => dv D n i + nth D (n - 1 - i) * p10 i
theorem dv_eq (D : List Int) (n : Nat) : ∀ i, i ≤ n → dv D n i = valTo D n - valTo D (n - i) * p10 i
  | 0, _ => by simp [dv, p10]
  | i + 1, h => by
    rw [dv, dv_eq D n i (by omega), show n - i = n - (i + 1) + 1 by omega, valTo, show n - 1 - i = n - (i + 1) by omega, p10, Int.add_mul, Int.mul_assoc, Int.mul_comm 10 (p10 i)]
    omega
theorem dv_all (D : List Int) (n : Nat) : dv D n n = valTo D n := by rw [dv_eq D n n (Nat.le_refl _), Nat.sub_self, valTo]; simp
theorem dv_set {D : List Int} {n i : Nat} {v : Int} (hi : i < n) : ∀ m, m ≤ i → dv (D.set (n - 1 - i) v) n m = dv D n m
  | 0, _ => rfl
  | m + 1, h => by rw [dv, dv, dv_set hi m (by omega), lat_ne (by omega)]
theorem dv_put {D : List Int} {n i : Nat} {v : Int} (hi : i < n) (hl : D.length = n) : dv (D.set (n - 1 - i) v) n (i + 1) = dv D n i + v * p10 i := by
  rw [dv, dv_set hi i (Nat.le_refl _), lat_eq (by omega)]
theorem p10_pow : ∀ k : Nat, (10 : Int) ^ k = p10 k
  | 0 => rfl
  | k + 1 => by rw [Int.pow_succ, p10_pow k, p10]
theorem valTo_p {D : List Int} (h : ∀ i, 0 ≤ nth D i ∧ nth D i ≤ 9) : ∀ j, 0 ≤ valTo D j ∧ valTo D j < p10 j
  | 0 => by simp [valTo, p10]
  | j + 1 => by
    have := valTo_p h j
    have := h j
    simp only [valTo, p10]; omega
theorem mul_lt_p {x y : Int} {i j : Nat} (x0 : 0 ≤ x) (x1 : x < p10 i) (y0 : 0 ≤ y) (y1 : y < p10 j) : 0 ≤ x * y ∧ x * y < p10 (i + j) := by
  refine ⟨Int.mul_nonneg x0 y0, ?_⟩
  rw [p10_add]
  have h1 : x * y ≤ x * p10 j := Int.mul_le_mul_of_nonneg_left (by omega) x0
  have h2 : x * p10 j < p10 i * p10 j := Int.mul_lt_mul_of_pos_right x1 (by have := p10_pos j; omega)
  omega
theorem no_carry {V X c P : Int} (h : X + c * P = V) (hX : 0 ≤ X) (hV : V < P) (c0 : 0 ≤ c) (hP : 0 < P) : X = V := by
  rcases (show c = 0 ∨ 1 ≤ c by omega) with rfl | h1
  · simpa using h
  · have : 1 * P ≤ c * P := Int.mul_le_mul_of_nonneg_right h1 (by omega)
    omega

/-- Digits of a product. -/
def DigsOf (a b D : List Int) : Prop := D.length = a.length + b.length ∧ valTo D D.length = valTo a a.length * valTo b b.length ∧ ∀ i, 0 ≤ nth D i ∧ nth D i ≤ 9
theorem DigsOf.of {a b S D : List Int} {c : Int} (ha : numB a = true) (hb : numB b = true) (hS : SumsOf a b S) (hl : D.length = S.length) (hD : ∀ i, 0 ≤ nth D i ∧ nth D i ≤ 9) (c0 : 0 ≤ c) (h : valTo D D.length + c * p10 D.length = lv S S.length) : DigsOf a b D := by
  obtain ⟨s1, s2, _⟩ := hS
  rw [s1, s2] at h
  have hl2 := hl.trans s1
  refine ⟨hl2, ?_, hD⟩
  have ⟨x0, x1⟩ := valTo_p (numB_digit ha) a.length
  have ⟨y0, y1⟩ := valTo_p (numB_digit hb) b.length
  have hm := mul_lt_p x0 x1 y0 y1
  have hp := p10_pos D.length
  exact no_carry h (valTo_p hD _).1 (by rw [hl2]; exact hm.2) c0 (by omega)

def CarPost (S : List Int) (w : World) (e : Ending) (w' : World) : Prop := ∃ A c D, e = .returned (.slice A D.length c) ∧ Sl w' w.heap.size A c D ∧ D.length = S.length ∧ (∀ i, 0 ≤ nth D i ∧ nth D i ≤ 9) ∧ (∃ r : Int, 0 ≤ r ∧ valTo D D.length + r * p10 D.length = lv S S.length) ∧ Below w.heap.size w w'

set_option maxRecDepth 100000 in
set_option maxHeartbeats 1000000 in
theorem carried (A : Option Addr) (c : Nat) (S : List Int) (w : World) (hr : Rd .i64 w A S) (hl : S.length ≤ 12) (hS : ∀ i, 0 ≤ nth S i ∧ nth S i ≤ 648) :
    Calls Try.prog 54 #[.slice A S.length c] w (CarPost S w) := by
  have HS := Lib.hid hS
  clear hS
  go_enter Try.func54, Try.ntmps54
  go_wp2_with (at_make; refine wp_mkN _ _ rfl rfl _ w.heap.size S.length (by first | rfl | simp) (by first | rfl | simp) (by omega) (by omega) ?_; intro w0 hs0 hg0; refine Hid.out ?_)
  have HS0 := Lib.hid hs0
  have HB0 := Lib.hid ((Below.refl w.heap.size w).grown hg0 (Nat.le_refl _) (fun _ hk => by cases hk))
  clear hs0 hg0
  refine Lib.hid ?_
  go_wp2_with fail
  go_loopw [4, 12] (fun q x wr => ∃ (i : Nat) (r : Int) (D : List Int), i ≤ S.length ∧ q = .int .i64 r ∧ x = .int .i64 (i : Int) ∧ 0 ≤ r ∧ r ≤ 1000 ∧ Sl wr w.heap.size (some ⟨w.heap.size, 0, none⟩) S.length D ∧ Below w.heap.size w wr ∧ Hid (D.length = S.length ∧ dv D S.length i + r * p10 i = lv S i ∧ ∀ i, 0 ≤ nth D i ∧ nth D i ≤ 9)) (fun _ x _ => S.length - (intOf x).toNat)
  case atStart => exact ⟨0, 0, _, Nat.zero_le _, rfl, rfl, by omega, by omega, HS0.out, HB0.out, Lib.hid ⟨List.length_replicate, by simp [dv, lv], fun i => by rw [lat_zero]; omega⟩⟩
  case round =>
    obtain ⟨i, r, D, hi, rfl, rfl, r0, r1, hs, hbl, HI⟩ := hrel
    by_cases hlt : i < S.length
    · obtain ⟨b, off, rfl, hb2, hc⟩ := (hr.below hbl).at hlt
      obtain ⟨k, hk⟩ : ∃ k : Nat, k = S.length - 1 - i := ⟨_, rfl⟩
      have kI : (S.length : Int) - 1 - (i : Int) = (k : Int) := by omega
      have wk : IntKind.i64.wrap ((S.length : Int) - 1 - (i : Int)) = (k : Int) := by rw [kI]; exact IntWalk.i64_in _ (by omega)
      have hkl : k < S.length := by omega
      have hlen := HI.out.1
      have bS := HS.out i
      obtain ⟨t, ht⟩ : ∃ t, t = nth S i + r := ⟨_, rfl⟩
      have w1 : IntKind.i64.wrap (nth S i + r) = t := by rw [← ht]; exact IntWalk.i64_in _ (by omega)
      have t0 : 0 ≤ t := by omega
      have t1 : t ≤ 1648 := by omega
      have w2 : IntKind.i64.wrap (t % 10) = t % 10 := IntWalk.i64_in _ (by omega)
      have w3 : IntKind.i64.wrap (t / 10) = t / 10 := IntWalk.i64_in _ (by omega)
      have cK := hs.cell (j := k) (by omega)
      have fK := hs.free k
      have HS2 := Lib.hid (hs.set_ k (t % 10))
      have HB2 := Lib.hid (hbl.setCell (p := ⟨w.heap.size, k, none⟩) (Nat.le_refl _) (.int .i64 (t % 10)))
      have HN : Hid ((D.set k (t % 10)).length = S.length ∧ dv (D.set k (t % 10)) S.length (i + 1) + t / 10 * p10 (i + 1) = lv S (i + 1) ∧ ∀ j, 0 ≤ nth (D.set k (t % 10)) j ∧ nth (D.set k (t % 10)) j ≤ 9) := Lib.hid (by
        refine ⟨by rw [List.length_set]; exact hlen, ?_, fun j => ?_⟩
        · rw [hk, dv_put hlt hlen, lv, ← HI.out.2.1, p10]
          have e : t % 10 * p10 i + t / 10 * (p10 i * 10) = t * p10 i := by
            rw [Int.mul_comm (p10 i) 10, ← Int.mul_assoc, ← Int.add_mul]
            congr 1; omega
          rw [ht] at e
          rw [ht, Int.add_assoc, e, Int.add_mul]
          omega
        · by_cases ej : j = k
          · subst ej
            rw [lat_eq (by omega)]; omega
          · rw [lat_ne ej]; exact HI.out.2.2 j)
      clear hs hbl hk kI hlen
      have HT := Lib.hid ht
      clear ht
      go_wp2_with fail
      go_roundw
      case rel => exact ⟨i + 1, t / 10, _, by omega, rfl, by go_num, by omega, by omega, HS2.out, HB2.out, HN⟩
      case measure => simp [intOf]; omega
    · obtain rfl : i = S.length := by omega
      go_wp2_with fail
      go_ret
      obtain ⟨h1, h2, h3⟩ := HI.out
      refine ⟨_, _, D, by rw [h1]; rfl, hs, h1, h3, ⟨r, r0, ?_⟩, hbl⟩
      rw [h1, ← h2, dv_all]

def bothB (a b : List Int) : Bool := numB a && numB b
theorem bothB_t {a b : List Int} (h : bothB a b = true) : numB a = true ∧ numB b = true := by simpa [bothB] using h
def LatSPost (a b : List Int) (w : World) (e : Ending) (w' : World) : Prop := ∃ A c S, e = .returned (.tuple #[.slice A S.length c, .bool (bothB a b)]) ∧ Sl w' w.heap.size A c S ∧ (bothB a b = true → SumsOf a b S) ∧ S.length ≤ 12 ∧ Below w.heap.size w w'
def LatDPost (a b : List Int) (w : World) (e : Ending) (w' : World) : Prop := ∃ A c D, e = .returned (.tuple #[.slice A D.length c, .bool (bothB a b)]) ∧ Sl w' w.heap.size A c D ∧ (bothB a b = true → DigsOf a b D) ∧ D.length ≤ 12 ∧ Below w.heap.size w w'
def latT (a b : List Int) : Int := if bothB a b then valTo a a.length * valTo b b.length else -1

theorem impl_LatticeSums (A B : Option Addr) (c d : Nat) (a b : List Int) (w : World) (ra : Rd .i64 w A a) (rb : Rd .i64 w B b) (la : a.length ≤ 4194304) (lb : b.length ≤ 4194304) :
    Calls Try.prog 53 #[.slice A a.length c, .slice B b.length d] w (LatSPost a b w) := by
  have HA := Lib.hid (digitsOf A c a w ra la)
  go_enter Try.func53, Try.ntmps53
  go_wp2_with fail
  refine HA.out.mono ?_
  rintro e w1 ⟨s, rfl, hs, b1⟩
  have rb1 := rb.below b1
  go_wp2_with fail
  refine (digitsOf B d b w1 rb1 lb).mono ?_
  rintro e w2 ⟨t, rfl, ht, b2⟩
  have HB2 := Lib.hid (bstep b1 b2)
  clear b1 b2 rb1 ra rb
  cases ha : numB a
  · have HF : Hid (bothB a b = false) := Lib.hid (by simp [bothB, ha])
    clear hs ht ha
    go_wp2_with fail
    go_ret2
    exact ⟨none, 0, [], by rw [HF.out]; rfl, Sl.nil_ _ _, fun h => (by rw [HF.out] at h; cases h), by simp, HB2.out⟩
  cases hb : numB b
  · have HF : Hid (bothB a b = false) := Lib.hid (by simp [bothB, hb])
    clear hs ht ha hb
    go_wp2_with fail
    go_ret2
    exact ⟨none, 0, [], by rw [HF.out]; rfl, Sl.nil_ _ _, fun h => (by rw [HF.out] at h; cases h), by simp, HB2.out⟩
  obtain rfl := hs ha
  obtain rfl := ht hb
  have HF : Hid (bothB a b = true) := Lib.hid (by simp [bothB, ha, hb])
  have HD := Lib.hid (diagonals a b ha hb w2)
  have HL : Hid (a.length ≤ 6 ∧ b.length ≤ 6) := Lib.hid ⟨(numB_t ha).2.1, (numB_t hb).2.1⟩
  clear ha hb hs ht
  go_wp2_with fail
  refine HD.out.mono ?_
  rintro e w3 ⟨A3, c3, S, rfl, s3, hS, b3⟩
  have HS := Lib.hid hS
  clear hS
  go_wp2_with fail
  go_ret2
  exact ⟨A3, c3, S, by rw [HF.out]; rfl, s3.down HB2.out.size, fun _ => HS.out, by have := HS.out.1; have := HL.out; omega, bstep HB2.out b3⟩

theorem impl_LatticeDigits (A B : Option Addr) (c d : Nat) (a b : List Int) (w : World) (ra : Rd .i64 w A a) (rb : Rd .i64 w B b) (la : a.length ≤ 4194304) (lb : b.length ≤ 4194304) :
    Calls Try.prog 29 #[.slice A a.length c, .slice B b.length d] w (LatDPost a b w) := by
  have HA := Lib.hid (impl_LatticeSums A B c d a b w ra rb la lb)
  clear ra rb
  go_enter Try.func29, Try.ntmps29
  go_wp2_with fail
  refine HA.out.mono ?_
  rintro e w1 ⟨A1, c1, S, rfl, s1, hS, l1, b1⟩
  cases hv : bothB a b
  · clear hS
    go_wp2_with fail
    go_ret2
    exact ⟨none, 0, [], by rw [hv]; rfl, Sl.nil_ _ _, fun h => (by rw [hv] at h; cases h), by simp, b1⟩
  have HV := Lib.hid hv
  have HS := Lib.hid (hS hv)
  have HC := Lib.hid (carried A1 c1 S w1 s1.rd l1 (hS hv).2.2)
  clear hS hv
  go_wp2_with fail
  refine HC.out.mono ?_
  rintro e w2 ⟨A2, c2, D, rfl, s2, hl, hD, hr, b2⟩
  have HD : Hid (DigsOf a b D) := Lib.hid (by
    obtain ⟨r, r0, h⟩ := hr
    exact DigsOf.of (bothB_t HV.out).1 (bothB_t HV.out).2 HS.out hl hD r0 h)
  have l2 : D.length ≤ 12 := by omega
  clear hl hD hr
  go_wp2_with fail
  go_ret2
  exact ⟨A2, c2, D, by rw [HV.out]; rfl, s2.down b1.size, fun _ => HD.out, l2, bstep b1 b2⟩

theorem val12 {D : List Int} (h : ∀ i, 0 ≤ nth D i ∧ nth D i ≤ 9) {j : Nat} (hj : j ≤ 12) : 0 ≤ valTo D j ∧ valTo D j < 1000000000000 := by
  have h1 := valTo_p h j
  have h2 := p10_mono hj
  have h3 : p10 12 = 1000000000000 := by decide
  omega

set_option maxRecDepth 100000 in
theorem impl_LatticeTimes (A B : Option Addr) (c d : Nat) (a b : List Int) (w : World) (ra : Rd .i64 w A a) (rb : Rd .i64 w B b) (la : a.length ≤ 4194304) (lb : b.length ≤ 4194304) :
    Calls Try.prog 27 #[.slice A a.length c, .slice B b.length d] w fun e w' => e = .returned (.int .i64 (latT a b)) ∧ Below w.heap.size w w' := by
  have HA := Lib.hid (impl_LatticeDigits A B c d a b w ra rb la lb)
  clear ra rb
  go_enter Try.func27, Try.ntmps27
  go_wp2_with fail
  refine HA.out.mono ?_
  rintro e w1 ⟨A1, c1, D, rfl, s1, hD, l1, b1⟩
  cases hv : bothB a b
  · have HF : Hid (latT a b = -1) := Lib.hid (by simp [latT, hv])
    clear hD hv
    go_wp2_with fail
    go_ret
    exact ⟨ret_int HF.out.symm, b1⟩
  have HF : Hid (latT a b = valTo D D.length) := Lib.hid (by rw [(hD hv).2.1]; simp [latT, hv])
  have HDG := Lib.hid (hD hv).2.2
  have r1 := s1.rd
  clear hD hv s1
  go_wp2_with fail
  go_loop [7, 20] (fun q i => ∃ j : Nat, j ≤ D.length ∧ i = .int .i64 j ∧ q = .int .i64 (valTo D j)) (fun _ i => D.length - (intOf i).toNat)
  case atStart => exact ⟨0, Nat.zero_le _, rfl, rfl⟩
  case round =>
    obtain ⟨j, hj, rfl, rfl⟩ := hrel
    have ⟨v0, v1⟩ := val12 HDG.out (j := j) (by omega)
    have ⟨d0, d9⟩ := HDG.out j
    by_cases hlt : j < D.length
    · obtain ⟨p, off, rfl, hpl, hc⟩ := r1.at hlt
      have HS : Hid (valTo D (j + 1) = valTo D j * 10 + nth D j) := Lib.hid rfl
      go_wp2_with fail
      go_round
      case rel => exact ⟨j + 1, by omega, by go_num, by rw [HS.out]⟩
      case measure => simp [intOf]; omega
    · obtain rfl : j = D.length := by omega
      go_wp2_with fail
      go_ret
      exact ⟨ret_int HF.out.symm, b1⟩

set_option maxRecDepth 100000 in
theorem valueOf (A : Option Addr) (c : Nat) (D : List Int) (w : World) (hr : Rd .i64 w A D) (hl : D.length ≤ 12) (hD : ∀ i, 0 ≤ nth D i ∧ nth D i ≤ 9) :
    Calls Try.prog 30 #[.slice A D.length c] w fun e w' => e = .returned (.int .i64 (valTo D D.length)) ∧ w = w' := by
  have HDG := Lib.hid hD
  clear hD
  go_enter Try.func30, Try.ntmps30
  go_wp2_with fail
  go_loop [3, 4] (fun q i => ∃ j : Nat, j ≤ D.length ∧ i = .int .i64 j ∧ q = .int .i64 (valTo D j)) (fun _ i => D.length - (intOf i).toNat)
  case atStart => exact ⟨0, Nat.zero_le _, rfl, rfl⟩
  case round =>
    obtain ⟨j, hj, rfl, rfl⟩ := hrel
    have ⟨v0, v1⟩ := val12 HDG.out (j := j) (by omega)
    have ⟨d0, d9⟩ := HDG.out j
    by_cases hlt : j < D.length
    · obtain ⟨p, off, rfl, hpl, hc⟩ := hr.at hlt
      have HS : Hid (valTo D (j + 1) = 10 * valTo D j + nth D j) := Lib.hid (by rw [valTo]; omega)
      go_wp2_with fail
      go_round
      case rel => exact ⟨j + 1, by omega, by go_num, by rw [HS.out]⟩
      case measure => simp [intOf]; omega
    · obtain rfl : j = D.length := by omega
      go_wp2_with fail
      go_ret
      exact ⟨rfl, rfl⟩
set_option maxRecDepth 100000 in
theorem l3Value (A : Option Addr) (c : Nat) (D : List Int) (w : World) (hr : Rd .i64 w A D) (hl : D.length ≤ 12) (hD : ∀ i, 0 ≤ nth D i ∧ nth D i ≤ 9) :
    Calls Try.prog 52 #[.slice A D.length c] w fun e w' => e = .returned (.int .i64 (valTo D D.length)) ∧ w = w' := by
  have HDG := Lib.hid hD
  clear hD
  go_enter Try.func52, Try.ntmps52
  go_wp2_with fail
  go_loop [3, 4] (fun q i => ∃ j : Nat, j ≤ D.length ∧ i = .int .i64 j ∧ q = .int .i64 (valTo D j)) (fun _ i => D.length - (intOf i).toNat)
  case atStart => exact ⟨0, Nat.zero_le _, rfl, rfl⟩
  case round =>
    obtain ⟨j, hj, rfl, rfl⟩ := hrel
    have ⟨v0, v1⟩ := val12 HDG.out (j := j) (by omega)
    have ⟨d0, d9⟩ := HDG.out j
    by_cases hlt : j < D.length
    · obtain ⟨p, off, rfl, hpl, hc⟩ := hr.at hlt
      have HS : Hid (valTo D (j + 1) = 10 * valTo D j + nth D j) := Lib.hid (by rw [valTo]; omega)
      go_wp2_with fail
      go_round
      case rel => exact ⟨j + 1, by omega, by go_num, by rw [HS.out]⟩
      case measure => simp [intOf]; omega
    · obtain rfl : j = D.length := by omega
      go_wp2_with fail
      go_ret
      exact ⟨rfl, rfl⟩
end Go.Proofs.Ytceigfdmaeanaab
