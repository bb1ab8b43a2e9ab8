/- The rule for drawn regions with a relation between the values of any two operations. -/
import Derived.Test.YtfdbhaojdccomaaRegP
namespace Go.Proofs.Ytfdbhaojdccomaa
open Go.RowKit

section
variable {P : Program} {l : List Oper} {Q : Exit → Act → World → Prop} {a : Act}
variable {R : Nat → World → World → Prop} {I : World → Prop} {T : Nat → World → Value → Prop} {E : Nat → Nat → Value → Value → Prop}

/-- What is asked of one operation. -/
def LawX (P : Program) (l : List Oper) (a : Act) (R : Nat → World → World → Prop) (I : World → Prop) (T : Nat → World → Value → Prop) (E : Nat → Nat → Value → Value → Prop) (n i : Nat) (o : Oper) : Prop :=
  ∀ (L : Nat → Bool) v w1, I w1 → (∀ k, List.elem k (depsOf o) = true → L k = true) → (∀ k, k < n → k ≠ i → L k = true → T k w1 (v k)) → (∀ j k, j < n → k < n → j ≠ k → j ≠ i → k ≠ i → L j = true → L k = true → E j k (v j) (v k)) →
    Kept (Gives P o (fillL l 0 v a) w1 fun u w2 => R i w1 w2 ∧ I w2 ∧ T i w2 u ∧ ∀ j, j < n → j ≠ i → L j = true → E j i (v j) u ∧ E i j u (v j))

def InvX (n : Nat) (I : World → Prop) (T : Nat → World → Value → Prop) (E : Nat → Nat → Value → Value → Prop) (L : Nat → Bool) (v : Nat → Value) (w : World) : Prop :=
  I w ∧ (∀ k, k < n → L k = true → T k w (v k)) ∧ ∀ j k, j < n → k < n → j ≠ k → L j = true → L k = true → E j k (v j) (v k)

theorem lawX_S {n : Nat} (hT : ∀ i j w1 w2 v, i ≠ j → R i w1 w2 → T j w1 v → T j w2 v) {i : Nat} {o : Oper} (h : LawX P l a R I T E n i o) : LawS P l a (InvX n I T E) i o := by
  intro L v w1 hLi ⟨hI, hall, hE⟩ hdeps
  refine ⟨gives_mono (h L v w1 hI hdeps (fun k hk _ hL => hall k hk hL) (fun j k hj hk hjk _ _ hLj hLk => hE j k hj hk hjk hLj hLk)).out ?_⟩
  intro u w2 ⟨hR, hI2, hTi, hEi⟩
  refine ⟨hI2, fun k hk hL => ?_, fun j k hj hk hjk hLj hLk => ?_⟩
  · by_cases hki : k = i
    · subst hki; rw [upd_same]; exact hTi
    · rw [upd_ne v u hki]; rw [updB_ne L hki] at hL; exact hT i k w1 w2 _ (Ne.symm hki) hR (hall k hk hL)
  · by_cases hji : j = i
    · subst hji
      rw [upd_same, upd_ne v u (Ne.symm hjk)]
      rw [updB_ne L (Ne.symm hjk)] at hLk
      exact (hEi k hk (Ne.symm hjk) hLk).2
    · rw [updB_ne L hji] at hLj
      by_cases hki : k = i
      · subst hki
        rw [upd_same, upd_ne v u hji]
        exact (hEi j hj hji hLj).1
      · rw [updB_ne L hki] at hLk
        rw [upd_ne v u hji, upd_ne v u hki]
        exact hE j k hj hk hjk hLj hLk

/-- The laws of all operations. -/
def LawsX (P : Program) (l : List Oper) (a : Act) (R : Nat → World → World → Prop) (I : World → Prop) (T : Nat → World → Value → Prop) (E : Nat → Nat → Value → Value → Prop) (n : Nat) : Nat → List Oper → Prop
  | _, [] => True
  | k, o :: rest => (o.guard = none ∧ LawX P l a R I T E n k o) ∧ LawsX P l a R I T E n (k + 1) rest
theorem lawsX_nil {n k : Nat} : LawsX P l a R I T E n k [] := trivial
theorem lawsX_cons {n k : Nat} {o : Oper} {rest : List Oper} (hg : o.guard = none) (h : LawX P l a R I T E n k o) (hs : LawsX P l a R I T E n (k + 1) rest) : LawsX P l a R I T E n k (o :: rest) := ⟨⟨hg, h⟩, hs⟩

theorem lawsX_S {n : Nat} (hT : ∀ i j w1 w2 v, i ≠ j → R i w1 w2 → T j w1 v → T j w2 v) : ∀ (rest : List Oper) (k : Nat), LawsX P l a R I T E n k rest → LawsS P l a (InvX n I T E) k rest
  | [], _, _ => trivial
  | _ :: rest, k, h => ⟨⟨h.1.1, lawX_S hT h.1.2⟩, lawsX_S hT rest (k + 1) h.2⟩

theorem wp_region_pairs {id : Nat} {w : World} (R : Nat → World → World → Prop) (I : World → Prop) (T : Nat → World → Value → Prop) (E : Nat → Nat → Value → Value → Prop) (n : Nat)
    (hm : P.follows .mixedOrders = true) (hB : (lawsB l && decide (l.length = n)) = true) (hT : ∀ i j w1 w2 v, i ≠ j → R i w1 w2 → T j w1 v → T j w2 v) (hI : I w.drew) (hs : LawsX P l a R I T E n 0 l)
    (hq : ∀ v w1, I w1 → (∀ k, k < n → T k w1 (v k)) → Kept (Q .normal (fillL l 0 v a) w1)) : (Code.region id l.toArray true).wp P Q a w := by
  simp only [Bool.and_eq_true, decide_eq_true_eq] at hB
  obtain ⟨hB, rfl⟩ := hB
  refine wp_region_S (InvX l.length I T E) hm hB ?_ (lawsX_S hT l 0 hs) (fun L v w1 hInv hL => hq v w1 hInv.1 (fun k hk => hInv.2.1 k hk (hL k hk)))
  intro L v hL
  refine ⟨hI, ?_, ?_⟩
  · intro k hk h
    rw [hL k hk] at h
    cases h
  · intro j k hj _ _ h
    rw [hL j hj] at h
    cases h
end
end Go.Proofs.Ytfdbhaojdccomaa
