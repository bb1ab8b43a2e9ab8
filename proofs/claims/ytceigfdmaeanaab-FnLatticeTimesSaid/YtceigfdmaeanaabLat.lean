/- Lattices: the values of sums of diagonals; the program's diagonals and carried. -/
import Derived.Test.YtceigfdmaeanaabNVal
import Derived.Test.YtceigfdmaeanaabPow
namespace Go.Proofs.Ytceigfdmaeanaab
open Go.RowKit

theorem lat_ne {zs : List Int} {k i : Nat} {v : Int} (h : i ≠ k) : nth (zs.set k v) i = nth zs i := by
  unfold nth
  rw [List.getElem?_set_ne (fun e => h e.symm)]
theorem lat_eq {zs : List Int} {k : Nat} {v : Int} (h : k < zs.length) : nth (zs.set k v) k = v := by
  unfold nth
  rw [List.getElem?_set_self h]
  rfl
theorem lat_zero (n i : Nat) : nth (List.replicate n 0) i = 0 := by
  unfold nth
  rw [List.getElem?_replicate]
  split <;> rfl

/-- The value of sums, the least place first. -/
def lv (S : List Int) : Nat → Int
  | 0 => 0
  | k + 1 => lv S k + nth S k * p10 k
theorem lv_zero (n : Nat) : ∀ k, lv (List.replicate n 0) k = 0
  | 0 => rfl
  | k + 1 => by rw [lv, lv_zero n k, lat_zero, Int.zero_mul, Int.zero_add]
theorem lv_set {S : List Int} {k : Nat} {v : Int} (hk : k < S.length) : ∀ n, lv (S.set k v) n = lv S n + (if k < n then (v - nth S k) * p10 k else 0)
  | 0 => by simp [lv]
  | n + 1 => by
    rw [lv, lv, lv_set hk n]
    rcases Nat.lt_trichotomy k n with h | h | h
    · rw [if_pos h, if_pos (by omega), lat_ne (by omega)]; omega
    · subst h
      rw [if_neg (by omega), if_pos (by omega), lat_eq hk, Int.sub_mul]; omega
    · rw [if_neg (by omega), if_neg (by omega), lat_ne (by omega)]; omega
theorem lv_cell {S : List Int} {k n : Nat} {c u v : Int} (hk : k + 1 < n) (hn : S.length = n) (hu : u = nth S k + c % 10) (hv : v = nth S (k + 1) + c / 10) : lv ((S.set k u).set (k + 1) v) n = lv S n + c * p10 k := by
  rw [lv_set (by rw [List.length_set]; omega), lv_set (by omega), if_pos (by omega), if_pos hk, lat_ne (by omega), hu, hv, p10]
  have e : c * p10 k = (c % 10) * p10 k + (c / 10) * (p10 k * 10) := by
    rw [Int.mul_comm (p10 k) 10, ← Int.mul_assoc, ← Int.add_mul]
    congr 1; omega
  rw [e, show nth S k + c % 10 - nth S k = c % 10 by omega, show nth S (k + 1) + c / 10 - nth S (k + 1) = c / 10 by omega]
  omega
theorem bd_cell {S : List Int} {k : Nat} {c u v B : Int} (hb : ∀ i, 0 ≤ nth S i ∧ nth S i ≤ B) (c0 : 0 ≤ c) (c1 : c ≤ 81) (hu : u = nth S k + c % 10) (hv : v = nth S (k + 1) + c / 10) (hk : k + 1 < S.length) :
    ∀ i, 0 ≤ nth ((S.set k u).set (k + 1) v) i ∧ nth ((S.set k u).set (k + 1) v) i ≤ B + 18 := by
  intro i
  have h0 := hb i
  have h1 := hb k
  have h2 := hb (k + 1)
  by_cases e : i = k + 1
  · subst e
    rw [lat_eq (by rw [List.length_set]; exact hk)]; omega
  · rw [lat_ne e]
    by_cases e2 : i = k
    · subst e2
      rw [lat_eq (by omega)]; omega
    · rw [lat_ne e2]; omega

/-- The value of the first digits, at their places. -/
def pv (zs : List Int) (m : Nat) : Int := valTo zs m * p10 (zs.length - m)
theorem pv_zero (zs : List Int) : pv zs 0 = 0 := by simp [pv, valTo]
theorem pv_all (zs : List Int) : pv zs zs.length = valTo zs zs.length := by simp [pv, p10]
theorem pv_step {zs : List Int} {m : Nat} (h : m < zs.length) : pv zs (m + 1) = pv zs m + nth zs m * p10 (zs.length - 1 - m) := by
  unfold pv
  rw [valTo, show zs.length - m = zs.length - 1 - m + 1 by omega, show zs.length - (m + 1) = zs.length - 1 - m by omega, p10, Int.add_mul]
  rw [Int.mul_assoc, Int.mul_comm 10]
theorem p10_add (i : Nat) : ∀ j, p10 (i + j) = p10 i * p10 j
  | 0 => by simp [p10]
  | j + 1 => by rw [← Nat.add_assoc, p10, p10, p10_add i j, Int.mul_assoc]

/-- What the sums hold when I digits of a, and J of b at the next, are done. -/
def latV (a b : List Int) (I J : Nat) : Int := pv a I * valTo b b.length + nth a I * p10 (a.length - 1 - I) * pv b J
theorem latV_zero (a b : List Int) : latV a b 0 0 = 0 := by rw [latV, pv_zero, pv_zero]; simp
theorem latV_row {a b : List Int} {I : Nat} (h : I < a.length) : latV a b I b.length = latV a b (I + 1) 0 := by
  rw [latV, latV, pv_zero, pv_all, pv_step h, Int.add_mul]; simp
theorem latV_all (a b : List Int) : latV a b a.length 0 = valTo a a.length * valTo b b.length := by
  rw [latV, pv_zero, pv_all]; simp
theorem latV_step {a b : List Int} {I J k : Nat} (hJ : J < b.length) (hk : k = a.length - 1 - I + (b.length - 1 - J)) : latV a b I (J + 1) = latV a b I J + nth a I * nth b J * p10 k := by
  rw [latV, latV, pv_step hJ, hk, p10_add, Int.mul_add]
  have e : nth a I * p10 (a.length - 1 - I) * (nth b J * p10 (b.length - 1 - J)) = nth a I * nth b J * (p10 (a.length - 1 - I) * p10 (b.length - 1 - J)) := by
    rw [Int.mul_assoc, Int.mul_assoc]
    congr 1
    rw [← Int.mul_assoc, ← Int.mul_assoc, Int.mul_comm (p10 _) (nth b J)]
  rw [e]; omega

/-- Sums of a lattice. -/
def SumsOf (a b S : List Int) : Prop := S.length = a.length + b.length ∧ lv S (a.length + b.length) = valTo a a.length * valTo b b.length ∧ ∀ i, 0 ≤ nth S i ∧ nth S i ≤ 648
def SumsPost (a b : List Int) (w : World) (e : Ending) (w' : World) : Prop := ∃ A c S, e = .returned (.slice A S.length c) ∧ Sl w' w.heap.size A c S ∧ SumsOf a b S ∧ Below w.heap.size w w'

set_option maxRecDepth 100000 in
set_option maxHeartbeats 1000000 in
theorem diagonals (a b : List Int) (ha : numB a = true) (hb : numB b = true) (w : World) :
    Calls Try.prog 64 #[.string ⟨(digs a).toArray⟩, .string ⟨(digs b).toArray⟩] w (SumsPost a b w) := by
  have ⟨a1, a6, _⟩ := numB_t ha
  have ⟨b1, b6, _⟩ := numB_t hb
  have HDA := Lib.hid (numB_digit ha)
  have HDB := Lib.hid (numB_digit hb)
  have sa : (ByteArray.mk (digs a).toArray).size = a.length := by simp [ByteArray.size, digs, digsTo_len _ _ (Nat.le_refl _)]
  have sb : (ByteArray.mk (digs b).toArray).size = b.length := by simp [ByteArray.size, digs, digsTo_len _ _ (Nat.le_refl _)]
  clear ha hb
  go_enter Try.func64, Try.ntmps64
  go_wp2_with (at_make; refine wp_mkN _ _ rfl rfl _ w.heap.size (a.length + b.length) (by first | rfl | simp) (by first | rfl | simp) (by omega) (by omega) ?_; intro w0 hs0 hg0; refine Hid.out ?_)
  have HS0 := Lib.hid hs0
  have HB0 := Lib.hid ((Below.refl w.heap.size w).grown hg0 (Nat.le_refl _) (fun _ hk => by cases hk))
  clear hs0 hg0
  refine Lib.hid ?_
  go_wp2_with fail
  go_loopw [6] (fun q wr => ∃ (I : Nat) (S : List Int), I ≤ a.length ∧ q = .int .i64 (I : Int) ∧ Sl wr w.heap.size (some ⟨w.heap.size, 0, none⟩) (a.length + b.length) S ∧ Below w.heap.size w wr ∧ Hid (S.length = a.length + b.length ∧ lv S (a.length + b.length) = latV a b I 0 ∧ ∀ i, 0 ≤ nth S i ∧ nth S i ≤ 18 * (6 * (I : Int)))) (fun q _ => a.length - (intOf q).toNat)
  case atStart => exact ⟨0, _, Nat.zero_le _, rfl, HS0.out, HB0.out, Lib.hid ⟨List.length_replicate, by rw [lv_zero, latV_zero], fun i => by rw [lat_zero]; simp⟩⟩
  case round =>
    obtain ⟨I, S, hI, rfl, hs, hbl, HI⟩ := hrel
    by_cases hlt : I < a.length
    · have HS1 := Lib.hid hs
      have HB1 := Lib.hid hbl
      clear hs hbl
      go_wp2_with fail
      go_loopw [7] (fun q wr => ∃ (J : Nat) (S : List Int), J ≤ b.length ∧ q = .int .i64 (J : Int) ∧ Sl wr w.heap.size (some ⟨w.heap.size, 0, none⟩) (a.length + b.length) S ∧ Below w.heap.size w wr ∧ Hid (S.length = a.length + b.length ∧ lv S (a.length + b.length) = latV a b I J ∧ ∀ i, 0 ≤ nth S i ∧ nth S i ≤ 18 * (6 * (I : Int) + (J : Int)))) (fun q _ => b.length - (intOf q).toNat)
      case atStart => exact ⟨0, S, Nat.zero_le _, rfl, HS1.out, HB1.out, Lib.hid ⟨HI.out.1, HI.out.2.1, fun i => by have := HI.out.2.2 i; omega⟩⟩
      case round =>
        obtain ⟨J, S, hJ, rfl, hs, hbl, HJ⟩ := hrel
        by_cases hltj : J < b.length
        · obtain ⟨k, hk⟩ : ∃ k : Nat, k = a.length - 1 - I + (b.length - 1 - J) := ⟨_, rfl⟩
          have kI : (a.length : Int) - 1 - (I : Int) + (b.length : Int) - 1 - (J : Int) = (k : Int) := by omega
          have wk : IntKind.i64.wrap ((a.length : Int) - 1 - (I : Int) + (b.length : Int) - 1 - (J : Int)) = (k : Int) := by rw [kI]; exact IntWalk.i64_in _ (by omega)
          have hk1 : k + 1 < a.length + b.length := by omega
          have hk11 : k ≤ 11 := by omega
          have ⟨x0, x9⟩ := HDA.out I
          have ⟨y0, y9⟩ := HDB.out J
          have c0 : 0 ≤ nth a I * nth b J := Int.mul_nonneg x0 y0
          have c1 : nth a I * nth b J ≤ 9 * 9 := Int.mul_le_mul x9 y9 y0 (by omega)
          have HAT := Lib.hid (fun w => digitAt a I hlt x0 x9 w)
          have HBT := Lib.hid (fun w => digitAt b J hltj y0 y9 w)
          have HSTEP := Lib.hid (latV_step (a := a) (b := b) (I := I) (J := J) (k := k) hltj hk)
          obtain ⟨c, hc⟩ : ∃ c, nth a I * nth b J = c := ⟨_, rfl⟩
          have wc : IntKind.i64.wrap (nth a I * nth b J) = c := by rw [hc]; exact IntWalk.i64_in _ (by omega)
          rw [hc] at HSTEP c0 c1
          have hlen := HJ.out.1
          have bk := HJ.out.2.2 k
          have bk1 := HJ.out.2.2 (k + 1)
          have cK := hs.cell (j := k) (by omega)
          have cK1 := hs.cell (j := k + 1) (by omega)
          have fK := hs.free k
          have fK1 := hs.free (k + 1)
          obtain ⟨u, hu⟩ : ∃ u, u = nth S k + c % 10 := ⟨_, rfl⟩
          obtain ⟨v, hv⟩ : ∃ v, v = nth S (k + 1) + c / 10 := ⟨_, rfl⟩
          have w1 : IntKind.i64.wrap (c % 10) = c % 10 := IntWalk.i64_in _ (by omega)
          have w2 : IntKind.i64.wrap (c / 10) = c / 10 := IntWalk.i64_in _ (by omega)
          have w3 : IntKind.i64.wrap (nth S k + c % 10) = u := by rw [← hu]; exact IntWalk.i64_in _ (by omega)
          have w4 : IntKind.i64.wrap (nth S (k + 1) + c / 10) = v := by rw [← hv]; exact IntWalk.i64_in _ (by omega)
          have s1 := hs.set_ k u
          have s2 := s1.set_ (k + 1) v
          have cK2 : (wr.setCell ⟨w.heap.size, k, none⟩ (.int .i64 u)).cell? ⟨w.heap.size, k + 1, none⟩ = some (.int .i64 (nth S (k + 1))) := by
            rw [s1.cell (j := k + 1) (by rw [List.length_set]; omega), lat_ne (by omega)]
          have fK2 := s1.free (k + 1)
          have HS2 := Lib.hid s2
          have HB2 := Lib.hid ((hbl.setCell (p := ⟨w.heap.size, k, none⟩) (Nat.le_refl _) (.int .i64 u)).setCell (p := ⟨w.heap.size, k + 1, none⟩) (Nat.le_refl _) (.int .i64 v))
          have HNEW : Hid (((S.set k u).set (k + 1) v).length = a.length + b.length ∧ lv ((S.set k u).set (k + 1) v) (a.length + b.length) = latV a b I (J + 1) ∧ ∀ i, 0 ≤ nth ((S.set k u).set (k + 1) v) i ∧ nth ((S.set k u).set (k + 1) v) i ≤ 18 * (6 * (I : Int) + ((J + 1 : Nat) : Int))) := Lib.hid (by
            refine ⟨by rw [List.length_set, List.length_set]; exact hlen, ?_, fun i => ?_⟩
            · rw [lv_cell hk1 hlen hu hv, HJ.out.2.1, HSTEP.out]
            · have := bd_cell HJ.out.2.2 c0 (by omega) hu hv (by omega) i
              omega)
          clear hc hu hv s1 s2 hk kI hs hbl hlen
          go_wp2_with fail
          refine (HAT.out _).mono ?_
          rintro e w' ⟨rfl, rfl⟩
          go_wp2_with fail
          refine (HBT.out _).mono ?_
          rintro e w' ⟨rfl, rfl⟩
          go_wp2_with fail
          go_roundw
          case rel => exact ⟨J + 1, _, by omega, by go_num, HS2.out, HB2.out, HNEW⟩
          case measure => simp [intOf]; omega
        · obtain rfl : J = b.length := by omega
          have HR : Hid (latV a b I b.length = latV a b (I + 1) 0) := Lib.hid (latV_row hlt)
          go_wp2_with fail
          go_roundw
          case rel => exact ⟨I + 1, S, by omega, by go_num, hs, hbl, Lib.hid ⟨HJ.out.1, by rw [HJ.out.2.1, HR.out], fun i => by have := HJ.out.2.2 i; omega⟩⟩
          case measure => simp [intOf]; omega
    · obtain rfl : I = a.length := by omega
      go_wp2_with fail
      go_ret
      obtain ⟨h1, h2, h3⟩ := HI.out
      exact ⟨_, _, S, by rw [h1]; rfl, hs, ⟨h1, by rw [h2, latV_all], fun i => by have := h3 i; omega⟩, hbl⟩
end Go.Proofs.Ytceigfdmaeanaab
