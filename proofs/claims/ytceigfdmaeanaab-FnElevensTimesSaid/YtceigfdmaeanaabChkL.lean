/- Plain words about the checks of sums and products. -/
import Derived.Test.YtceigfdmaeanaabClaimD
import Derived.Test.YtceigfdmaeanaabPass
namespace Go.Proofs.Ytceigfdmaeanaab

theorem numV_bd {zs : List Int} (h : numB zs = true) : 0 ≤ numV zs ∧ numV zs < 1000000 := by rw [numV, if_pos h]; exact valTo_bd6 h (numB_t h).2.1
theorem nsumB_t {xs ys zs : List Int} (h : nsumB xs ys zs = true) : numB xs = true ∧ numB ys = true ∧ numB zs = true ∧ ninesV zs = (ninesV xs + ninesV ys) % 9 := by
  simp only [nsumB, Bool.and_eq_true, beq_iff_eq] at h
  exact ⟨h.1.1.1, h.1.1.2, h.1.2, h.2⟩
theorem nsumB_of {xs ys zs : List Int} (h1 : numB xs = true) (h2 : numB ys = true) (h3 : numB zs = true) (h : ninesV zs = (ninesV xs + ninesV ys) % 9) : nsumB xs ys zs = true := by
  simp only [nsumB, Bool.and_eq_true, beq_iff_eq]; exact ⟨⟨⟨h1, h2⟩, h3⟩, h⟩
theorem nsum_d {xs ys zs : List Int} (h : nsumB xs ys zs = true) : (numV zs - numV xs - numV ys).tmod 9 = 0 := by
  obtain ⟨h1, h2, h3, h4⟩ := nsumB_t h
  rw [nines_val h1, nines_val h2, nines_val h3] at h4
  exact Int.tmod_eq_zero_of_dvd (by omega)
theorem nsum_comm {xs ys zs : List Int} (h : nsumB xs ys zs = true) : nsumB ys xs zs = true := by
  obtain ⟨h1, h2, h3, h4⟩ := nsumB_t h
  exact nsumB_of h2 h1 h3 (by rw [h4, Int.add_comm])
theorem nsum_right {xs ys zs ds : List Int} (h : nsumB xs ys zs = true) (h5 : numB ds = true) (h6 : numV ds = numV xs + numV ys) : nsumB xs ys ds = true := by
  obtain ⟨h1, h2, h3, h4⟩ := nsumB_t h
  refine nsumB_of h1 h2 h5 ?_
  rw [nines_val h1, nines_val h2, nines_val h5, h6]
  omega

theorem mod_d (n : Int) {a b c : Int} (h : c % n = ((a % n) * (b % n)) % n) : n ∣ c - a * b := by
  rw [← Int.mul_emod] at h
  exact Int.dvd_of_emod_eq_zero (Int.emod_eq_emod_iff_emod_sub_eq_zero.1 h)
theorem ntimB_t {xs ys zs : List Int} (h : ntimB xs ys zs = true) : numB xs = true ∧ numB ys = true ∧ numB zs = true ∧ ninesV zs = (ninesV xs * ninesV ys) % 9 := by
  simp only [ntimB, Bool.and_eq_true, beq_iff_eq] at h
  exact ⟨h.1.1.1, h.1.1.2, h.1.2, h.2⟩
theorem ntimB_of {xs ys zs : List Int} (h1 : numB xs = true) (h2 : numB ys = true) (h3 : numB zs = true) (h : ninesV zs = (ninesV xs * ninesV ys) % 9) : ntimB xs ys zs = true := by
  simp only [ntimB, Bool.and_eq_true, beq_iff_eq]; exact ⟨⟨⟨h1, h2⟩, h3⟩, h⟩
theorem ntim_dvd {xs ys zs : List Int} (h : ntimB xs ys zs = true) : 9 ∣ numV zs - numV xs * numV ys := by
  obtain ⟨h1, h2, h3, h4⟩ := ntimB_t h
  rw [nines_val h1, nines_val h2, nines_val h3] at h4
  exact mod_d 9 h4
theorem ntim_d {xs ys zs : List Int} (h : ntimB xs ys zs = true) : (numV zs - numV xs * numV ys).tmod 9 = 0 := Int.tmod_eq_zero_of_dvd (ntim_dvd h)
theorem ntim_comm {xs ys zs : List Int} (h : ntimB xs ys zs = true) : ntimB ys xs zs = true := by
  obtain ⟨h1, h2, h3, h4⟩ := ntimB_t h
  exact ntimB_of h2 h1 h3 (by rw [h4, Int.mul_comm])
theorem ntim_right {xs ys zs ds : List Int} (h : ntimB xs ys zs = true) (h5 : numB ds = true) (h6 : numV ds = numV xs * numV ys) : ntimB xs ys ds = true := by
  obtain ⟨h1, h2, h3, h4⟩ := ntimB_t h
  refine ntimB_of h1 h2 h5 ?_
  rw [nines_val h1, nines_val h2, nines_val h5, h6, Int.mul_emod]
theorem ntim_exch {xs ys ds : List Int} {i : Int} (h : ntimB xs ys ds = true) (hx : exchB ds i = true) : ntimB xs ys (exchL ds i) = true := by
  obtain ⟨h1, h2, h3, h4⟩ := ntimB_t h
  exact ntimB_of h1 h2 (exch_num hx) (by rw [exch_nines hx]; exact h4)

theorem etimB_t {xs ys zs : List Int} (h : etimB xs ys zs = true) : numB xs = true ∧ numB ys = true ∧ numB zs = true ∧ elevV zs = (elevV xs * elevV ys) % 11 := by
  simp only [etimB, Bool.and_eq_true, beq_iff_eq] at h
  exact ⟨h.1.1.1, h.1.1.2, h.1.2, h.2⟩
theorem etimB_of {xs ys zs : List Int} (h1 : numB xs = true) (h2 : numB ys = true) (h3 : numB zs = true) (h : elevV zs = (elevV xs * elevV ys) % 11) : etimB xs ys zs = true := by
  simp only [etimB, Bool.and_eq_true, beq_iff_eq]; exact ⟨⟨⟨h1, h2⟩, h3⟩, h⟩
theorem etim_dvd {xs ys zs : List Int} (h : etimB xs ys zs = true) : 11 ∣ numV zs - numV xs * numV ys := by
  obtain ⟨h1, h2, h3, h4⟩ := etimB_t h
  rw [elev_val h1, elev_val h2, elev_val h3] at h4
  exact mod_d 11 h4
theorem etim_d {xs ys zs : List Int} (h : etimB xs ys zs = true) : (numV zs - numV xs * numV ys).tmod 11 = 0 := Int.tmod_eq_zero_of_dvd (etim_dvd h)
theorem etim_right {xs ys zs ds : List Int} (h : etimB xs ys zs = true) (h5 : numB ds = true) (h6 : numV ds = numV xs * numV ys) : etimB xs ys ds = true := by
  obtain ⟨h1, h2, h3, h4⟩ := etimB_t h
  refine etimB_of h1 h2 h5 ?_
  rw [elev_val h1, elev_val h2, elev_val h5, h6, Int.mul_emod]
theorem etim_not {xs ys ds es : List Int} (h : etimB xs ys ds = true) (he : elevV es ≠ elevV ds) : etimB xs ys es = false := by
  obtain ⟨h1, h2, h3, h4⟩ := etimB_t h
  cases hb : etimB xs ys es
  · rfl
  · exact absurd ((etimB_t hb).2.2.2.trans h4.symm) he
theorem prod_bd {xs ys : List Int} (h1 : numB xs = true) (h2 : numB ys = true) : 0 ≤ numV xs * numV ys ∧ numV xs * numV ys ≤ 1000000 * 1000000 := by
  have a := numV_bd h1
  have b := numV_bd h2
  exact ⟨Int.mul_nonneg a.1 b.1, Int.mul_le_mul (by omega) (by omega) b.1 (by omega)⟩
end Go.Proofs.Ytceigfdmaeanaab
