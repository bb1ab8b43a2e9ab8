/- Plain words about numerals: nines and elevens of a value, of an exchange, of a slip. -/
import Derived.Test.YtceigfdmaeanaabNVal
import Derived.Test.YtceigfdmaeanaabExch
namespace Go.Proofs.Ytceigfdmaeanaab

theorem val_nines (zs : List Int) : ∀ j, j ≤ zs.length → (valTo zs j - sumTo zs j) % 9 = 0
  | 0, _ => by simp [valTo, sumTo]
  | j + 1, h => by
    have i := val_nines zs j (by omega)
    rw [valTo, sumTo_succ zs j (by omega)]
    omega
theorem nines_val {zs : List Int} (h : numB zs = true) : ninesV zs = numV zs % 9 := by
  have := val_nines zs _ (Nat.le_refl _)
  rw [ninesV_yes h, numV, if_pos h]
  omega
theorem nth_set {zs : List Int} {i j : Nat} {z : Int} (hj : j < zs.length) : nth (zs.set i z) j = if i = j then z else nth zs j := by
  by_cases h : i = j
  · subst h; simp [nth, hj]
  · simp [nth, h]
theorem sum_set (zs : List Int) (i : Nat) (z : Int) (hi : i < zs.length) : ∀ j, j ≤ zs.length → sumTo (zs.set i z) j = sumTo zs j + (if i < j then z - nth zs i else 0)
  | 0, _ => by simp [sumTo]
  | j + 1, h => by
    rw [sumTo_succ _ j (by rw [List.length_set]; omega), sumTo_succ zs j (by omega), sum_set zs i z hi j (by omega), nth_set (by omega)]
    by_cases h1 : i = j
    · subst h1
      rw [if_neg (by omega), if_pos rfl, if_pos (by omega)]; omega
    · rw [if_neg h1]
      by_cases h2 : i < j
      · rw [if_pos h2, if_pos (by omega)]; omega
      · rw [if_neg h2, if_neg (by omega)]; omega
theorem exch_len (zs : List Int) {i : Int} (h : exchB zs i = true) : (exchL zs i).length = zs.length := by simp [exch_yes h]
/-- What is known of an exchange. -/
theorem exchB_t {zs : List Int} {i : Int} (h : exchB zs i = true) : numB zs = true ∧ 0 ≤ i ∧ i.toNat + 1 < zs.length ∧ nth zs i.toNat ≠ nth zs (i.toNat + 1) := by
  simp only [exchB, Bool.and_eq_true, Bool.not_eq_true', beq_eq_false_iff_ne] at h
  have := inB_t h.1.2
  exact ⟨h.1.1, this.1, by omega, h.2⟩
theorem exch_nth {zs : List Int} {i : Int} (h : exchB zs i = true) {j : Nat} (hj : j < zs.length) : nth (exchL zs i) j = if j = i.toNat then nth zs (i.toNat + 1) else if j = i.toNat + 1 then nth zs i.toNat else nth zs j := by
  obtain ⟨_, _, h3, _⟩ := exchB_t h
  rw [exch_yes h, nth_set (by simp; omega), nth_set hj]
  by_cases h1 : j = i.toNat
  · subst h1; rw [if_neg (by omega), if_pos rfl, if_pos rfl]
  · by_cases h2 : j = i.toNat + 1
    · subst h2; rw [if_pos rfl, if_neg h1, if_pos rfl]
    · rw [if_neg (by omega), if_neg (by omega), if_neg h1, if_neg h2]
theorem exch_num {zs : List Int} {i : Int} (h : exchB zs i = true) : numB (exchL zs i) = true := by
  obtain ⟨h1, _, h3, _⟩ := exchB_t h
  have ⟨l1, l6, _⟩ := numB_t h1
  refine numB_of_nth (by rw [exch_len _ h]; omega) (by rw [exch_len _ h]; omega) fun j hj => ?_
  rw [exch_len _ h] at hj
  rw [exch_nth h hj]
  have := numB_digit h1
  split
  · exact this _
  · split
    · exact this _
    · exact this _
theorem exch_sum {zs : List Int} {i : Int} (h : exchB zs i = true) : sumTo (exchL zs i) zs.length = sumTo zs zs.length := by
  obtain ⟨_, _, h3, _⟩ := exchB_t h
  rw [exch_yes h, sum_set _ _ _ (by simp; omega) _ (by simp), sum_set _ _ _ (by omega) _ (Nat.le_refl _), nth_set (by omega), if_pos (by omega), if_pos (by omega), if_neg (by omega)]
  omega
theorem exch_nines {zs : List Int} {i : Int} (h : exchB zs i = true) : ninesV (exchL zs i) = ninesV zs := by
  rw [ninesV_yes (exch_num h), ninesV_yes (exchB_t h).1, exch_len _ h, exch_sum h]
theorem nines_bd {zs : List Int} (h : numB zs = true) : 0 ≤ ninesV zs ∧ ninesV zs ≤ 8 := by rw [ninesV_yes h]; omega

/-- The elevens of a value: each digit ahead changes the sign. -/
def pm (n : Nat) : Int := if n % 2 = 0 then 1 else -1
theorem pm_succ (n : Nat) : pm (n + 1) = - pm n := by
  unfold pm
  by_cases h : n % 2 = 0
  · rw [if_neg (by omega), if_pos h]
  · rw [if_pos (by omega), if_neg h]; rfl
theorem sg_pm (zs : List Int) (i : Nat) : sg zs i = pm (zs.length - 1 - i) * nth zs i := by
  unfold sg pm
  split <;> omega
theorem pm_cases (n : Nat) : pm n = 1 ∨ pm n = -1 := by unfold pm; split <;> simp
theorem val_elev (zs : List Int) : ∀ j, j ≤ zs.length → (pm (zs.length - j) * valTo zs j - altTo zs j) % 11 = 0
  | 0, _ => by simp [valTo, altTo]
  | j + 1, h => by
    have i := val_elev zs j (by omega)
    rw [valTo, altTo_succ, sg_pm]
    have e : zs.length - j = (zs.length - (j + 1)) + 1 := by omega
    rw [e, pm_succ] at i
    rw [show zs.length - 1 - j = zs.length - (j + 1) by omega]
    rcases pm_cases (zs.length - (j + 1)) with h1 | h1
    · rw [h1] at i ⊢; omega
    · rw [h1] at i ⊢; omega
theorem elev_val {zs : List Int} (h : numB zs = true) : elevV zs = numV zs % 11 := by
  have := val_elev zs _ (Nat.le_refl _)
  rw [Nat.sub_self, show pm 0 = 1 from rfl] at this
  rw [elevV_yes h, numV, if_pos h]
  omega
theorem elev_bd {zs : List Int} (h : numB zs = true) : 0 ≤ elevV zs ∧ elevV zs ≤ 10 := by rw [elevV_yes h]; omega
/-- The signed sum with one number changed. -/
theorem alt_set (zs : List Int) (i : Nat) (z : Int) (hi : i < zs.length) : ∀ j, j ≤ zs.length → altTo (zs.set i z) j = altTo zs j + (if i < j then pm (zs.length - 1 - i) * (z - nth zs i) else 0)
  | 0, _ => by simp [altTo]
  | j + 1, h => by
    rw [altTo_succ, altTo_succ, alt_set zs i z hi j (by omega), sg_pm, sg_pm, List.length_set, nth_set (by omega)]
    by_cases h1 : i = j
    · subst h1
      rw [if_neg (by omega), if_pos rfl, if_pos (by omega), Int.mul_sub]; omega
    · rw [if_neg h1]
      by_cases h2 : i < j
      · rw [if_pos h2, if_pos (by omega)]; omega
      · rw [if_neg h2, if_neg (by omega)]; omega
/-- An exchange of different digits changes the elevens. -/
theorem exch_elev {zs : List Int} {i : Int} (h : exchB zs i = true) : elevV (exchL zs i) ≠ elevV zs := by
  obtain ⟨h1, _, h3, h4⟩ := exchB_t h
  have d0 := numB_digit h1 i.toNat
  have d1 := numB_digit h1 (i.toNat + 1)
  rw [elevV_yes (exch_num h), elevV_yes h1, exch_len _ h, exch_yes h, alt_set _ _ _ (by simp; omega) _ (by simp), alt_set _ _ _ (by omega) _ (Nat.le_refl _), nth_set (by omega), List.length_set, if_pos (by omega), if_pos (by omega), if_neg (by omega)]
  have e : zs.length - 1 - i.toNat = (zs.length - 1 - (i.toNat + 1)) + 1 := by omega
  rw [e, pm_succ]
  rcases pm_cases (zs.length - 1 - (i.toNat + 1)) with hp | hp
  · rw [hp]; omega
  · rw [hp]; omega

/-- A slip. -/
theorem slipB_t {zs : List Int} {i d : Int} (h : slipB zs i d = true) : numB zs = true ∧ 0 ≤ i ∧ i.toNat < zs.length ∧ 0 ≤ d ∧ d ≤ 9 ∧ nth zs i.toNat ≠ d := by
  simp only [slipB, Bool.and_eq_true, Bool.not_eq_true', beq_eq_false_iff_ne] at h
  have a := inB_t h.1.1.2
  have b := inB_t h.1.2
  exact ⟨h.1.1.1, a.1, by omega, b.1, b.2, h.2⟩
theorem slip_len {zs : List Int} {i d : Int} (h : slipB zs i d = true) : (slipL zs i d).length = zs.length := by simp [slip_yes h]
theorem slip_nth {zs : List Int} {i d : Int} (h : slipB zs i d = true) {j : Nat} (hj : j < zs.length) : nth (slipL zs i d) j = if i.toNat = j then d else nth zs j := by
  rw [slip_yes h, nth_set hj]
theorem slip_num {zs : List Int} {i d : Int} (h : slipB zs i d = true) : numB (slipL zs i d) = true := by
  obtain ⟨h1, _, h3, h4, h5, _⟩ := slipB_t h
  have ⟨l1, l6, _⟩ := numB_t h1
  refine numB_of_nth (by rw [slip_len h]; omega) (by rw [slip_len h]; omega) fun j hj => ?_
  rw [slip_len h] at hj
  rw [slip_nth h hj]
  split
  · exact ⟨h4, h5⟩
  · exact numB_digit h1 j
theorem slip_elev {zs : List Int} {i d : Int} (h : slipB zs i d = true) : elevV (slipL zs i d) ≠ elevV zs := by
  obtain ⟨h1, _, h3, h4, h5, h6⟩ := slipB_t h
  have d0 := numB_digit h1 i.toNat
  rw [elevV_yes (slip_num h), elevV_yes h1, slip_len h, slip_yes h, alt_set _ _ _ h3 _ (Nat.le_refl _), if_pos h3]
  rcases pm_cases (zs.length - 1 - i.toNat) with hp | hp
  · rw [hp]; omega
  · rw [hp]; omega
theorem slip_sum {zs : List Int} {i d : Int} (h : slipB zs i d = true) : sumTo (slipL zs i d) zs.length = sumTo zs zs.length + (d - nth zs i.toNat) := by
  obtain ⟨h1, _, h3, _⟩ := slipB_t h
  rw [slip_yes h, sum_set _ _ _ h3 _ (Nat.le_refl _), if_pos h3]
end Go.Proofs.Ytceigfdmaeanaab
