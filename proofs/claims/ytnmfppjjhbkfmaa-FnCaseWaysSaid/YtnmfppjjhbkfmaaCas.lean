/- Cases of rods: in how many ways they show a list of digits; the order of the digits does not matter. -/
import Derived.Test.YtnmfppjjhbkfmaaNum
namespace Go.Proofs.Ytnmfppjjhbkfmaa
open Go.RowKit

/-- A sum over the numbers below n. -/
def sumN (f : Nat → Nat) : Nat → Nat
  | 0 => 0
  | n + 1 => sumN f n + f n
theorem sumN_congr {f g : Nat → Nat} : ∀ n, (∀ i, i < n → f i = g i) → sumN f n = sumN g n
  | 0, _ => rfl
  | n + 1, h => by rw [sumN, sumN, sumN_congr n (fun i hi => h i (by omega)), h n (by omega)]
theorem sumN_zero : ∀ n, sumN (fun _ => 0) n = 0
  | 0 => rfl
  | n + 1 => by rw [sumN, sumN_zero n]
theorem sumN_add (f g : Nat → Nat) : ∀ n, sumN (fun i => f i + g i) n = sumN f n + sumN g n
  | 0 => rfl
  | n + 1 => by rw [sumN, sumN, sumN, sumN_add f g n]; omega
theorem sumN_swap (f : Nat → Nat → Nat) (m : Nat) : ∀ n, sumN (fun i => sumN (f i) m) n = sumN (fun j => sumN (fun i => f i j) n) m
  | 0 => by simp only [sumN]; rw [sumN_zero]
  | n + 1 => by
    rw [sumN, sumN_swap f m n, ← sumN_add]
    rfl
theorem sumN_if (b : Bool) (f : Nat → Nat) (n : Nat) : sumN (fun j => if b = true then f j else 0) n = if b = true then sumN f n else 0 := by
  cases b
  · simpa using sumN_zero n
  · simp
theorem sumN_mono (f : Nat → Nat) : ∀ {m n}, m ≤ n → sumN f m ≤ sumN f n := by
  intro m n h
  induction n with
  | zero => obtain rfl : m = 0 := by omega
            exact Nat.le_refl _
  | succ n ih =>
    rcases Nat.lt_or_ge m (n + 1) with h1 | h1
    · have := ih (by omega); rw [sumN]; omega
    · obtain rfl : m = n + 1 := by omega
      exact Nat.le_refl _
theorem sumN_part (f : Nat → Nat) {i n : Nat} (h : i < n) : sumN f i + f i ≤ sumN f n := by
  have := sumN_mono f (m := i + 1) (n := n) (by omega)
  rw [sumN] at this
  exact this
theorem sumN_le {f : Nat → Nat} {k : Nat} : ∀ n, (∀ i, i < n → f i ≤ k) → sumN f n ≤ n * k
  | 0, _ => by simp [sumN]
  | n + 1, h => by
    have h1 := sumN_le n (fun i hi => h i (by omega))
    have h2 := h n (by omega)
    rw [sumN, Nat.add_mul]; omega

/-- The sides of a rod. -/
def sd (R : List (List Int)) (i : Nat) : List Int := R[i]?.getD []
/-- A list holds a number. -/
def hasB (s : List Int) (d : Int) : Bool := s.contains d
/-- A used rod more, or less. -/
def setU (u : Nat → Bool) (i : Nat) (b : Bool) : Nat → Bool := fun j => if j = i then b else u j
theorem setU_back {u : Nat → Bool} {i : Nat} (h : u i = false) : setU (setU u i true) i false = u := by
  funext j
  unfold setU
  by_cases e : j = i
  · subst e; simp [h]
  · simp [e]
theorem setU_comm {u : Nat → Bool} {i j : Nat} : setU (setU u i true) j true = setU (setU u j true) i true := by
  funext k
  unfold setU
  by_cases e : k = i <;> by_cases e2 : k = j <;> simp [e, e2]

/-- May rod i be taken for a digit? -/
def fitB (R : List (List Int)) (u : Nat → Bool) (d : Int) (i : Nat) : Bool := !(u i) && hasB (sd R i) d
/-- The ways to show digits by rods that are not used. -/
def ways (R : List (List Int)) : List Int → (Nat → Bool) → Nat
  | [], _ => 1
  | d :: ds, u => sumN (fun i => if fitB R u d i = true then ways R ds (setU u i true) else 0) R.length
theorem ways_le {R : List (List Int)} (hR : R.length ≤ 10) : ∀ (ds : List Int) (u : Nat → Bool), ways R ds u ≤ 10 ^ ds.length
  | [], _ => by simp [ways]
  | d :: ds, u => by
    rw [ways, List.length_cons, Nat.pow_succ]
    have := sumN_le (f := fun i => if fitB R u d i = true then ways R ds (setU u i true) else 0) (k := 10 ^ ds.length) R.length (fun i _ => by
      show (if fitB R u d i = true then ways R ds (setU u i true) else 0) ≤ _
      split
      · exact ways_le hR ds _
      · exact Nat.zero_le _)
    refine Nat.le_trans this ?_
    rw [Nat.mul_comm]
    exact Nat.mul_le_mul_left _ hR
theorem fit_two {R : List (List Int)} {u : Nat → Bool} {d e : Int} {i j : Nat} : (fitB R u d i && fitB R (setU u i true) e j) = (fitB R u e j && fitB R (setU u j true) d i) := by
  unfold fitB setU
  by_cases h : j = i
  · subst h; simp
  · have h' : ¬ i = j := fun e => h e.symm
    simp [h, h']
    cases u i <;> cases u j <;> simp [Bool.and_comm]
theorem ways_swap (R : List (List Int)) (d e : Int) (ds : List Int) (u : Nat → Bool) : ways R (d :: e :: ds) u = ways R (e :: d :: ds) u := by
  have key : ∀ (d e : Int), ways R (d :: e :: ds) u = sumN (fun i => sumN (fun j => if (fitB R u d i && fitB R (setU u i true) e j) = true then ways R ds (setU (setU u i true) j true) else 0) R.length) R.length := by
    intro d e
    rw [ways]
    refine sumN_congr _ (fun i _ => ?_)
    show (if fitB R u d i = true then ways R (e :: ds) (setU u i true) else 0) = _
    rw [ways, ← sumN_if]
    refine sumN_congr _ (fun j _ => ?_)
    show (if fitB R u d i = true then (if fitB R (setU u i true) e j = true then ways R ds (setU (setU u i true) j true) else 0) else 0) = _
    cases fitB R u d i <;> simp
  rw [key d e, key e d, sumN_swap]
  refine sumN_congr _ (fun j _ => sumN_congr _ (fun i _ => ?_))
  show (if (fitB R u d i && fitB R (setU u i true) e j) = true then ways R ds (setU (setU u i true) j true) else 0) = (if (fitB R u e j && fitB R (setU u j true) d i) = true then ways R ds (setU (setU u j true) i true) else 0)
  rw [fit_two, setU_comm]
theorem ways_perm (R : List (List Int)) {xs ys : List Int} (h : xs.Perm ys) : ∀ u, ways R xs u = ways R ys u := by
  induction h with
  | nil => intro u; rfl
  | cons d _ ih =>
    intro u
    rw [ways, ways]
    refine sumN_congr _ (fun i _ => ?_)
    show (if fitB R u d i = true then ways R _ (setU u i true) else 0) = (if fitB R u d i = true then ways R _ (setU u i true) else 0)
    rw [ih]
  | swap d e l => intro u; exact (ways_swap R d e l u).symm
  | trans _ _ ih1 ih2 => intro u; rw [ih1, ih2]
theorem ways_reverse (R : List (List Int)) (xs : List Int) (u : Nat → Bool) : ways R xs.reverse u = ways R xs u := ways_perm R (List.reverse_perm xs) u
theorem ways_one (R : List (List Int)) (d : Int) : ways R [d] (fun _ => false) = sumN (fun i => if hasB (sd R i) d = true then 1 else 0) R.length := by
  rw [ways]
  refine sumN_congr _ (fun i _ => ?_)
  simp [fitB, ways]

/-- A case. -/
def rodB (s : List Int) : Bool := decide (s.length = 4) && ((List.range 4).all fun k => inB (nth s k) 0 9)
def caseTo (R : List (List Int)) (n : Nat) : Bool := (List.range n).all fun i => rodB (sd R i)
def caseB (R : List (List Int)) : Bool := decide (R.length ≤ 10) && caseTo R R.length
theorem caseTo_iff {R : List (List Int)} {n : Nat} : caseTo R n = true ↔ ∀ i, i < n → rodB (sd R i) = true := by
  simp [caseTo, List.all_eq_true]
theorem caseB_t {R : List (List Int)} (h : caseB R = true) : R.length ≤ 10 ∧ ∀ i, i < R.length → rodB (sd R i) = true := by
  simp only [caseB, Bool.and_eq_true, decide_eq_true_eq] at h
  exact ⟨h.1, caseTo_iff.1 h.2⟩
theorem caseB_no {R : List (List Int)} {i : Nat} (hi : i < R.length) (h : rodB (sd R i) = false) : caseB R = false := by
  cases hc : caseB R
  · rfl
  · have := (caseB_t hc).2 i hi
    rw [h] at this
    cases this
theorem rodB_t {s : List Int} (h : rodB s = true) : s.length = 4 ∧ ∀ k, k < 4 → 0 ≤ nth s k ∧ nth s k ≤ 9 := by
  simp only [rodB, Bool.and_eq_true, decide_eq_true_eq, List.all_eq_true, List.mem_range] at h
  exact ⟨h.1, fun k hk => inB_t (h.2 k hk)⟩
theorem rodB_of {s : List Int} (h : s.length = 4) (h2 : ∀ k, k < 4 → 0 ≤ nth s k ∧ nth s k ≤ 9) : rodB s = true := by
  simp only [rodB, Bool.and_eq_true, decide_eq_true_eq, List.all_eq_true, List.mem_range]
  exact ⟨h, fun k hk => inB_of (h2 k hk).1 (h2 k hk).2⟩
theorem rodB_len {s : List Int} (h : s.length ≠ 4) : rodB s = false := by simp [rodB, h]
theorem rodB_bad {s : List Int} {k : Nat} (hk : k < 4) (h : inB (nth s k) 0 9 = false) : rodB s = false := by
  cases hr : rodB s
  · rfl
  · have := (rodB_t hr).2 k hk
    rw [inB_of this.1 this.2] at h
    cases h
theorem hasB_iff {s : List Int} {d : Int} : hasB s d = true ↔ ∃ k, k < s.length ∧ nth s k = d := by
  unfold hasB
  rw [List.contains_iff_mem, List.mem_iff_getElem]
  constructor
  · rintro ⟨k, hk, e⟩; exact ⟨k, hk, by rw [← nth_get hk]; exact e⟩
  · rintro ⟨k, hk, e⟩; exact ⟨k, hk, by rw [nth_get hk]; exact e⟩
end Go.Proofs.Ytnmfppjjhbkfmaa
