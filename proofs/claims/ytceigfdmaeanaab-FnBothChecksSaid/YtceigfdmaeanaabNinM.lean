/- Plain words about numerals: what is exchanged or slipped can be taken back. -/
import Derived.Test.YtceigfdmaeanaabNinL
import Derived.Test.YtceigfdmaeanaabFar
namespace Go.Proofs.Ytceigfdmaeanaab

theorem exch_exch {zs : List Int} {i : Int} (h : exchB zs i = true) : exchB (exchL zs i) i = true ∧ exchL (exchL zs i) i = zs := by
  obtain ⟨h1, h2, h3, h4⟩ := exchB_t h
  have hb : exchB (exchL zs i) i = true := by
    refine exchB_y (exch_num h) ?_ ?_
    · rw [exch_len _ h]; exact inB_of h2 (by omega)
    · rw [exch_nth h (by omega), exch_nth h (by omega), if_pos rfl, if_neg (by omega), if_pos rfl]
      rw [beq_eq_false_iff_ne]; exact h4.symm
  refine ⟨hb, nth_ext (by rw [exch_len _ hb, exch_len _ h]) fun j hj => ?_⟩
  rw [exch_len _ hb, exch_len _ h] at hj
  rw [exch_nth hb (by rw [exch_len _ h]; exact hj), exch_nth h (by omega), exch_nth h (by omega), exch_nth h hj]
  by_cases e1 : j = i.toNat
  · subst e1; rw [if_pos rfl, if_neg (by omega), if_pos rfl]
  · by_cases e2 : j = i.toNat + 1
    · subst e2; rw [if_neg e1, if_pos rfl, if_pos rfl]
    · rw [if_neg e1, if_neg e2, if_neg e1, if_neg e2]
theorem far_step (xs ys : List Int) (j : Nat) : farTo xs ys (j + 1) = farTo xs ys j + (if nth xs j = nth ys j then 0 else 1) := by
  by_cases h : nth xs j = nth ys j
  · rw [farTo_succ_eq h, if_pos h]; omega
  · rw [farTo_succ_ne h, if_neg h]
theorem exch_farTo {zs : List Int} {i : Int} (h : exchB zs i = true) : ∀ j, j ≤ zs.length → farTo zs (exchL zs i) j = (if i.toNat < j then 1 else 0) + (if i.toNat + 1 < j then 1 else 0)
  | 0, _ => by simp [farTo]
  | j + 1, hj => by
    obtain ⟨_, _, h3, h4⟩ := exchB_t h
    rw [far_step, exch_farTo h j (by omega), exch_nth h (by omega)]
    by_cases e1 : j = i.toNat
    · subst e1
      rw [if_pos rfl, if_neg h4, if_neg (by omega), if_neg (by omega), if_pos (by omega), if_neg (by omega)]; rfl
    · by_cases e2 : j = i.toNat + 1
      · subst e2
        rw [if_neg e1, if_pos rfl]
        (repeat' split) <;> omega
      · rw [if_neg e1, if_neg e2, if_pos rfl]
        by_cases e3 : i.toNat < j
        · rw [if_pos e3, if_pos (by omega), if_pos (by omega), if_pos (by omega)]; rfl
        · rw [if_neg e3, if_neg (by omega), if_neg (by omega), if_neg (by omega)]; rfl
theorem exch_far {zs : List Int} {i : Int} (h : exchB zs i = true) : farV zs (exchL zs i) = 2 := by
  obtain ⟨h1, _, h3, _⟩ := exchB_t h
  rw [farV_y h1 (exch_num h) (exch_len _ h).symm, exch_farTo h _ (Nat.le_refl _), if_pos (by omega), if_pos (by omega)]; rfl
theorem exch_val {zs : List Int} {i : Int} (h : exchB zs i = true) : (numV (exchL zs i) - numV zs).tmod 9 = 0 := by
  have h1 := exch_nines h
  rw [nines_val (exch_num h), nines_val (exchB_t h).1] at h1
  exact Int.tmod_eq_zero_of_dvd (by omega)

theorem slip_slip {zs : List Int} {i d : Int} (h : slipB zs i d = true) : slipB (slipL zs i d) i (nth zs i.toNat) = true ∧ slipL (slipL zs i d) i (nth zs i.toNat) = zs := by
  obtain ⟨h1, h2, h3, h4, h5, h6⟩ := slipB_t h
  have hd := numB_digit h1 i.toNat
  have hb : slipB (slipL zs i d) i (nth zs i.toNat) = true := by
    refine slipB_y (slip_num h) ?_ (inB_of hd.1 hd.2) ?_
    · rw [slip_len h]; exact inB_of h2 (by omega)
    · rw [slip_nth h h3, if_pos rfl, beq_eq_false_iff_ne]; exact h6.symm
  refine ⟨hb, nth_ext (by rw [slip_len hb, slip_len h]) fun j hj => ?_⟩
  rw [slip_len hb, slip_len h] at hj
  rw [slip_nth hb (by rw [slip_len h]; exact hj), slip_nth h hj]
  by_cases e : i.toNat = j
  · rw [if_pos e, e]
  · rw [if_neg e, if_neg e]
theorem slip_farTo {zs : List Int} {i d : Int} (h : slipB zs i d = true) : ∀ j, j ≤ zs.length → farTo zs (slipL zs i d) j = (if i.toNat < j then 1 else 0)
  | 0, _ => by simp [farTo]
  | j + 1, hj => by
    obtain ⟨_, _, h3, _, _, h6⟩ := slipB_t h
    rw [far_step, slip_farTo h j (by omega), slip_nth h (by omega)]
    by_cases e : i.toNat = j
    · subst e; rw [if_pos rfl, if_neg h6, if_neg (by omega), if_pos (by omega)]; rfl
    · rw [if_neg e, if_pos rfl]
      by_cases e3 : i.toNat < j
      · rw [if_pos e3, if_pos (by omega)]; rfl
      · rw [if_neg e3, if_neg (by omega)]; rfl
theorem slip_far {zs : List Int} {i d : Int} (h : slipB zs i d = true) : farV zs (slipL zs i d) = 1 := by
  obtain ⟨h1, _, h3, _⟩ := slipB_t h
  rw [farV_y h1 (slip_num h) (slip_len h).symm, slip_farTo h _ (Nat.le_refl _), if_pos h3]
theorem slip_nines {zs : List Int} {i d : Int} (h : slipB zs i d = true) : (ninesV (slipL zs i d) == ninesV zs) = (d - nth zs i.toNat == 9 || d - nth zs i.toNat == -9) := by
  obtain ⟨h1, _, h3, h4, h5, h6⟩ := slipB_t h
  have hd := numB_digit h1 i.toNat
  rw [ninesV_yes (slip_num h), ninesV_yes h1, slip_len h, slip_sum h, Bool.eq_iff_iff]
  simp only [beq_iff_eq, Bool.or_eq_true]
  omega
end Go.Proofs.Ytceigfdmaeanaab
