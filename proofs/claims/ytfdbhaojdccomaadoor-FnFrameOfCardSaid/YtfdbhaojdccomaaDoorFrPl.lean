/- Plain words about frames: a list that is changed place by place, nines, digits of a value, pushes. -/
import Derived.Test.YtfdbhaojdccomaaDoorPush
namespace Go.Proofs.YtfdbhaojdccomaaDoor

/-- The first j numbers of xs, and ys behind them. -/
def mix (xs ys : List Int) (j : Nat) : List Int := xs.take j ++ ys.drop j
section
variable {xs ys : List Int} {j : Nat}
theorem mix_len (h : xs.length = ys.length) (hj : j ≤ ys.length) : (mix xs ys j).length = ys.length := by simp [mix]; omega
theorem mix_zero : mix xs ys 0 = ys := by simp [mix]
theorem mix_all (h : xs.length = ys.length) : mix xs ys ys.length = xs := by simp [mix, ← h]
theorem mix_at (h : xs.length = ys.length) (hj : j < ys.length) : nth (mix xs ys j) j = nth ys j := by
  unfold nth mix
  rw [List.getElem?_append_right (by simp; omega), List.length_take, Nat.min_eq_left (by omega), Nat.sub_self, List.getElem?_drop, Nat.add_zero]
theorem mix_succ (h : xs.length = ys.length) (hj : j < ys.length) : (mix xs ys j).set j (nth xs j) = mix xs ys (j + 1) := by
  unfold mix
  rw [take_nth (by omega), List.set_append_right _ _ (by simp; omega), List.length_take, Nat.min_eq_left (by omega), Nat.sub_self, List.drop_eq_getElem_cons hj, List.set_cons_zero]
  simp
end

theorem nth_map {f : Int → Int} {zs : List Int} {i : Nat} (h : i < zs.length) : nth (zs.map f) i = f (nth zs i) := by simp [nth, h]
theorem nth_gen {f : Nat → Int} {n i : Nat} (h : i < n) : nth ((List.range n).map f) i = f i := by simp [nth, h]

/-- The beads of the nines. -/
def ninH (hs : List Int) : List Int := hs.map fun h => 1 - h
def ninL (ls : List Int) : List Int := ls.map fun l => 4 - l
theorem ninH_len (hs : List Int) : (ninH hs).length = hs.length := by simp [ninH]
theorem ninL_len (ls : List Int) : (ninL ls).length = ls.length := by simp [ninL]
theorem ninH_nth {hs : List Int} {i : Nat} (h : i < hs.length) : nth (ninH hs) i = 1 - nth hs i := nth_map h
theorem ninL_nth {ls : List Int} {i : Nat} (h : i < ls.length) : nth (ninL ls) i = 4 - nth ls i := nth_map h
theorem nin_nin (hs : List Int) : ninH (ninH hs) = hs := by
  simp only [ninH, List.map_map]
  have : ((fun h : Int => 1 - h) ∘ fun h => 1 - h) = id := by funext x; simp only [Function.comp_apply, id]; omega
  rw [this, List.map_id]
theorem nil_nil (ls : List Int) : ninL (ninL ls) = ls := by
  simp only [ninL, List.map_map]
  have : ((fun h : Int => 4 - h) ∘ fun h => 4 - h) = id := by funext x; simp only [Function.comp_apply, id]; omega
  rw [this, List.map_id]

theorem ok_frB {hs ls : List Int} (ok : FrOk hs ls) : frB hs ls = true := by
  have := ok.n1; have := ok.n6; have := ok.len
  refine frB_y (inB_of (by omega) (by omega)) (by omega) fun k hk => ?_
  have ⟨a0, a1⟩ := ok.hi k hk
  have ⟨c0, c1⟩ := ok.lo k hk
  rw [inB_of a0 a1, inB_of c0 c1]; rfl
theorem FrOk.nin {hs ls : List Int} (ok : FrOk hs ls) : FrOk (ninH hs) (ninL ls) := by
  have n1 := ok.n1; have n6 := ok.n6; have hl := ok.len
  refine ⟨by rw [ninH_len]; exact n1, by rw [ninH_len]; exact n6, by rw [ninH_len, ninL_len]; exact hl, fun k hk => ?_, fun k hk => ?_⟩
  · rw [ninH_len] at hk
    rw [ninH_nth hk]; have := ok.hi k hk; omega
  · rw [ninH_len] at hk
    rw [ninL_nth (by omega)]; have := ok.lo k hk; omega

theorem nin_sum {hs ls : List Int} (ok : FrOk hs ls) : ∀ k, k ≤ hs.length → fvU hs ls k + fvU (ninH hs) (ninL ls) k = p10 k - 1
  | 0, _ => by simp [fvU, p10]
  | k + 1, h => by
    have i := nin_sum ok k (by omega)
    have hl := ok.len
    have e : dg (ninH hs) (ninL ls) k = 9 - dg hs ls k := by
      unfold dg; rw [ninH_nth (by omega), ninL_nth (by omega)]; omega
    simp only [fvU, p10]
    rw [e, Int.sub_mul]
    omega
theorem nin_val {hs ls : List Int} (ok : FrOk hs ls) : fval hs ls + fval (ninH hs) (ninL ls) = p10 hs.length - 1 := by
  unfold fval
  rw [if_pos (ok_frB ok), if_pos (ok_frB ok.nin), ninH_len]
  exact nin_sum ok _ (Nat.le_refl _)

/-- The pushes to the nines. -/
def dueU (ls : List Int) : Nat → Int
  | 0 => 0
  | k + 1 => dueU ls k + (if nth ls k = 2 then 1 else 2)
theorem dueU_bd (ls : List Int) : ∀ k, 0 ≤ dueU ls k ∧ dueU ls k ≤ 2 * k
  | 0 => by simp [dueU]
  | k + 1 => by have := dueU_bd ls k; simp only [dueU]; split <;> omega
theorem nin_pu {hs ls : List Int} (hl : hs.length = ls.length) : ∀ k, k ≤ hs.length → puU hs ls (ninH hs) (ninL ls) k = dueU ls k
  | 0, _ => rfl
  | k + 1, h => by
    simp only [puU, dueU]
    rw [nin_pu hl k (by omega), ninH_nth (by omega), ninL_nth (by omega)]
    unfold pu pu1
    rw [if_neg (by omega)]
    by_cases h2 : nth ls k = 2
    · rw [if_pos (by omega), if_pos h2]; omega
    · rw [if_neg (by omega), if_neg h2]; omega
theorem nin_push {hs ls : List Int} (ok : FrOk hs ls) : fpush hs ls (ninH hs) (ninL ls) = dueU ls hs.length := by
  unfold fpush
  rw [ok_frB ok, ok_frB ok.nin, ninH_len]
  simp only [decide_true, Bool.and_self, if_true]
  exact nin_pu ok.len _ (Nat.le_refl _)

theorem pu1_symm (x y : Int) : pu1 x y = pu1 y x := by unfold pu1; by_cases h : x = y <;> simp [h, eq_comm]
theorem pu1_tri (x y z : Int) : pu1 x z ≤ pu1 x y + pu1 y z := by
  unfold pu1
  by_cases h : x = y
  · subst h; simp
  · rw [if_neg h]
    split <;> split <;> omega
theorem puU_symm (hs ls hs' ls' : List Int) : ∀ k, puU hs ls hs' ls' k = puU hs' ls' hs ls k
  | 0 => rfl
  | k + 1 => by
    simp only [puU, pu]
    rw [puU_symm hs ls hs' ls' k, pu1_symm (nth hs k), pu1_symm (nth ls k)]
theorem puU_tri (hs ls hs' ls' hs2 ls2 : List Int) : ∀ k, puU hs ls hs' ls' k ≤ puU hs ls hs2 ls2 k + puU hs2 ls2 hs' ls' k
  | 0 => by simp [puU]
  | k + 1 => by
    have := puU_tri hs ls hs' ls' hs2 ls2 k
    have := pu1_tri (nth hs k) (nth hs2 k) (nth hs' k)
    have := pu1_tri (nth ls k) (nth ls2 k) (nth ls' k)
    simp only [puU, pu]; omega
theorem puU_zero {hs ls hs' ls' : List Int} : ∀ k, puU hs ls hs' ls' k = 0 → ∀ j, j < k → nth hs j = nth hs' j ∧ nth ls j = nth ls' j
  | 0, _, j, hj => by omega
  | k + 1, h, j, hj => by
    have hb := (puU_bd hs ls hs' ls' k).1
    have a := pu1_bd (nth hs k) (nth hs' k)
    have c := pu1_bd (nth ls k) (nth ls' k)
    simp only [puU, pu] at h
    rcases Nat.lt_or_ge j k with h1 | h1
    · exact puU_zero k (by omega) j h1
    · obtain rfl : j = k := by omega
      have e1 : pu1 (nth hs j) (nth hs' j) = 0 := by omega
      have e2 : pu1 (nth ls j) (nth ls' j) = 0 := by omega
      unfold pu1 at e1 e2
      refine ⟨?_, ?_⟩
      · by_cases h3 : nth hs j = nth hs' j
        · exact h3
        · rw [if_neg h3] at e1; omega
      · by_cases h3 : nth ls j = nth ls' j
        · exact h3
        · rw [if_neg h3] at e2; omega
theorem puU_self (hs ls : List Int) : ∀ k, puU hs ls hs ls k = 0
  | 0 => rfl
  | k + 1 => by simp [puU, pu, pu1, puU_self hs ls k]

/-- What is known where pushes are told. -/
theorem fpush_ok {hs ls hs' ls' : List Int} (h : 0 ≤ fpush hs ls hs' ls') : FrOk hs ls ∧ FrOk hs' ls' ∧ hs.length = hs'.length ∧ fpush hs ls hs' ls' = puU hs ls hs' ls' hs.length := by
  unfold fpush at *
  by_cases hc : (frB hs ls && frB hs' ls' && decide (hs.length = hs'.length)) = true
  · rw [if_pos hc]
    simp only [Bool.and_eq_true, decide_eq_true_eq] at hc
    exact ⟨frB_ok hc.1.1, frB_ok hc.1.2, hc.2, rfl⟩
  · rw [if_neg hc] at h; omega
theorem fpush_of {hs ls hs' ls' : List Int} (ok : FrOk hs ls) (ok' : FrOk hs' ls') (hl : hs.length = hs'.length) : fpush hs ls hs' ls' = puU hs ls hs' ls' hs.length := by
  unfold fpush
  rw [ok_frB ok, ok_frB ok']
  simp [hl]
theorem fpush_same {hs ls hs' ls' : List Int} (h : 0 ≤ fpush hs ls hs' ls') : decide (fpush hs ls hs' ls' = 0) = (eqB hs hs' && eqB ls ls') := by
  obtain ⟨ok, ok', hl, e⟩ := fpush_ok h
  rw [e]
  have l1 := ok.len; have l2 := ok'.len
  by_cases hz : puU hs ls hs' ls' hs.length = 0
  · have hall := puU_zero _ hz
    rw [eqB_t (nth_ext hl fun i hi => (hall i hi).1), eqB_t (nth_ext (by omega) fun i hi => (hall i (by omega)).2)]
    simp [hz]
  · have : (eqB hs hs' && eqB ls ls') = false := by
      cases hb : (eqB hs hs' && eqB ls ls')
      · rfl
      · exfalso
        simp only [Bool.and_eq_true, eqB_iff] at hb
        obtain ⟨rfl, rfl⟩ := hb
        exact hz (puU_self hs ls _)
    rw [this]
    simp [hz]

/-- The beads of a value. -/
def ofH (v : Int) (n : Nat) : List Int := (List.range n).map fun k => v / p10 k % 10 / 5
def ofL (v : Int) (n : Nat) : List Int := (List.range n).map fun k => v / p10 k % 10 % 5
theorem ofH_len (v : Int) (n : Nat) : (ofH v n).length = n := by simp [ofH]
theorem ofL_len (v : Int) (n : Nat) : (ofL v n).length = n := by simp [ofL]
theorem ofH_nth (v : Int) {n k : Nat} (h : k < n) : nth (ofH v n) k = v / p10 k % 10 / 5 := nth_gen h
theorem ofL_nth (v : Int) {n k : Nat} (h : k < n) : nth (ofL v n) k = v / p10 k % 10 % 5 := nth_gen h
theorem ofH_succ (v : Int) (n : Nat) : ofH v (n + 1) = ofH v n ++ [v / p10 n % 10 / 5] := by simp [ofH, List.range_succ]
theorem ofL_succ (v : Int) (n : Nat) : ofL v (n + 1) = ofL v n ++ [v / p10 n % 10 % 5] := by simp [ofL, List.range_succ]
theorem ofV_ok (v : Int) {n : Nat} (n1 : 1 ≤ n) (n6 : n ≤ 6) : FrOk (ofH v n) (ofL v n) := by
  refine ⟨by rw [ofH_len]; exact n1, by rw [ofH_len]; exact n6, by rw [ofH_len, ofL_len], fun k hk => ?_, fun k hk => ?_⟩
  · rw [ofH_len] at hk
    rw [ofH_nth v hk]; omega
  · rw [ofH_len] at hk
    rw [ofL_nth v hk]; omega
theorem p10_next (v : Int) (k : Nat) : v / p10 (k + 1) = v / p10 k / 10 := by
  have hp := p10_pos k
  simp only [p10]
  rw [← Int.ediv_ediv_of_nonneg (by omega)]

theorem val_dig {hs ls : List Int} (ok : FrOk hs ls) {k : Nat} (h : k < hs.length) : fvU hs ls hs.length / p10 k % 10 = dg hs ls k := by
  have hp := p10_pos k
  have ⟨f0, f1⟩ := ok.fvU (k := k) (by omega)
  have ⟨d0, d9⟩ := ok.dg h
  have e := fv_split hs ls hs.length (hs.length - k) (by omega)
  rw [show hs.length - (hs.length - k) = k by omega] at e
  rw [e, Int.add_mul_ediv_right _ _ (by omega), Int.ediv_eq_zero_of_lt f0 f1, Int.zero_add]
  obtain ⟨j, hj⟩ : ∃ j, hs.length - k = j + 1 := ⟨hs.length - k - 1, by omega⟩
  rw [hj]
  simp only [fvD]
  rw [show hs.length - 1 - j = k by omega]
  omega
theorem ofV_val {hs ls : List Int} (ok : FrOk hs ls) : ofH (fvU hs ls hs.length) hs.length = hs ∧ ofL (fvU hs ls hs.length) hs.length = ls := by
  have hl := ok.len
  refine ⟨nth_ext (ofH_len _ _) fun i hi => ?_, nth_ext (by rw [ofL_len]; exact hl) fun i hi => ?_⟩
  · rw [ofH_len] at hi
    have := ok.hi i hi
    have := ok.lo i hi
    rw [ofH_nth _ hi, val_dig ok hi, dg]; omega
  · rw [ofL_len] at hi
    have := ok.hi i hi
    have := ok.lo i hi
    rw [ofL_nth _ hi, val_dig ok hi, dg]; omega
end Go.Proofs.YtfdbhaojdccomaaDoor
