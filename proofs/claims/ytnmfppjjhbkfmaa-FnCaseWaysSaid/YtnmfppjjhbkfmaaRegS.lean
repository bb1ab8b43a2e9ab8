/- The rule for drawn regions with an invariant that may speak of several values at once. -/
import Derived.Test.YtnmfppjjhbkfmaaReg
namespace Go.Proofs.Ytnmfppjjhbkfmaa
open Go.RowKit

def updB (L : Nat → Bool) (i : Nat) : Nat → Bool := fun j => if j = i then true else L j
theorem updB_same (L : Nat → Bool) (i : Nat) : updB L i i = true := by simp [updB]
theorem updB_ne (L : Nat → Bool) {i j : Nat} (h : j ≠ i) : updB L i j = L j := by simp [updB, h]

section
variable {P : Program} {l : List Oper} {Q : Exit → Act → World → Prop} {a : Act} {Inv : (Nat → Bool) → (Nat → Value) → World → Prop}

/-- What is asked of one operation. -/
def LawS (P : Program) (l : List Oper) (a : Act) (Inv : (Nat → Bool) → (Nat → Value) → World → Prop) (i : Nat) (o : Oper) : Prop :=
  ∀ L v w1, L i = false → Inv L v w1 → (∀ k, List.elem k (depsOf o) = true → L k = true) → Kept (Gives P o (fillL l 0 v a) w1 (fun u w2 => Inv (updB L i) (upd v i u) w2))

theorem laws_anyS (hB : lawsB l = true) (hg : ∀ (i : Nat) (o : Oper), l[i]? = some o → o.guard = none) (hs : ∀ i o, l[i]? = some o → LawS P l a Inv i o)
    (hq : ∀ L v w1, Inv L v w1 → (∀ i, i < l.length → L i = true) → Q .normal (fillL l 0 v a) w1) :
    ∀ (fuel : Nat) (listed : Array Bool) (v : Nat → Value) (w1 : World) (U : List Nat), listed.size = l.length → U.length ≤ fuel → (∀ i, listed.getD i true = false → i ∈ U) → Inv (fun i => listed.getD i true) v w1 →
      wpAny P .any l.toArray Q fuel listed (fillL l 0 v a) w1 := by
  simp only [lawsB, Bool.and_eq_true] at hB
  have back := back_spec hB.1
  intro fuel
  induction fuel with
  | zero =>
    intro listed v w1 U hsz hU hun hI
    have hU0 : U = [] := List.eq_nil_of_length_eq_zero (by omega)
    subst hU0
    have hno : ∀ i, listed.getD i true = true := fun i => by
      cases h : listed.getD i true
      · exact absurd (hun i h) (by simp)
      · rfl
    refine ⟨?_, hq _ _ _ hI (fun i _ => hno i)⟩
    rw [List.eq_nil_iff_forall_not_mem]
    intro i hi
    have := (mem_ready.1 hi).1
    rw [hno i] at this
    cases this
  | succ fuel ih =>
    intro listed v w1 U hsz hU hun hI
    have hd : ∀ i, i < l.length → listed.getD i false = listed.getD i true := fun i hi => by simp [hsz, hi]
    refine ⟨fun hr => ?_, fun i hi => ?_⟩
    · have hno : ∀ i, i < l.length → listed.getD i true = true := fun i => by
        induction i using Nat.strongRecOn with
        | ind i ih2 =>
          intro hi
          cases h : listed.getD i true
          · exfalso
            have hm : i ∈ Region.ready .any l.toArray listed := by
              refine mem_ready.2 ⟨h, l[i], by simp [hi], fun e he hbi => ?_⟩
              have he1 := back i l[i] (by simp [hi]) e he hbi
              have hlt : e.on < i := by omega
              rw [hd e.on (by omega)]
              exact ih2 e.on hlt (by omega)
            rw [hr] at hm
            cases hm
          · rfl
      exact hq _ _ _ hI hno
    · obtain ⟨hun1, o, ho, hdeps⟩ := mem_ready.1 hi
      have hol : l[i]? = some o := by simpa using ho
      have hil : i < l.length := (List.getElem?_eq_some_iff.1 hol).1
      have hlaw := (hs i o hol (fun i => listed.getD i true) v w1 hun1 hI (fun k hk => by
        have hk' : k ∈ depsOf o := by simpa using hk
        simp only [depsOf, List.mem_map, List.mem_filter] at hk'
        obtain ⟨e, ⟨he, hb⟩, rfl⟩ := hk'
        have he' : e ∈ o.after := by simpa using he
        have h1 := hdeps e he' hb
        have h2 := back i o hol e he' hb
        rw [hd e.on (by omega)] at h1
        exact h1)).out
      have next : ∀ u w2, Inv (updB (fun i => listed.getD i true) i) (upd v i u) w2 → wpAny P .any l.toArray Q fuel (listed.setIfInBounds i true) ((fillL l 0 v a).put o.dst u) w2 := by
        intro u w2 hI2
        rw [fillL_put l 0 v a i o u hB.2 hol, Nat.zero_add]
        refine ih (listed.setIfInBounds i true) (upd v i u) w2 (U.erase i) (by simp [hsz]) ?_ ?_ ?_
        · rw [List.length_erase_of_mem (hun i hun1)]; omega
        · intro j hj
          by_cases hji : j = i
          · subst hji
            have : (listed.setIfInBounds j true).getD j true = true := by simp [hsz, hil]
            rw [this] at hj; cases hj
          · rw [getD_set_ne true (Ne.symm hji)] at hj
            exact (List.mem_erase_of_ne hji).2 (hun j hj)
        · have : (fun j => (listed.setIfInBounds i true).getD j true) = updB (fun i => listed.getD i true) i := by
            funext j
            by_cases hji : j = i
            · subst hji
              rw [updB_same]
              simp [hsz, hil]
            · rw [updB_ne _ hji, getD_set_ne true (Ne.symm hji)]
          rw [this]
          exact hI2
      unfold wpOp
      rw [ho]
      show if Region.wanted o (yielded l.toArray (fillL l 0 v a).tmps) = true then _ else _
      have hgd : o.guard = none := hg i o hol
      have hw : Region.wanted o (yielded l.toArray (fillL l 0 v a).tmps) = true := by simp [Region.wanted, hgd]
      rw [if_pos hw]
      exact .inl (wp_of_gives hlaw fun u w2 hI2 => next u w2 hI2)

/-- The laws of all operations. -/
def LawsS (P : Program) (l : List Oper) (a : Act) (Inv : (Nat → Bool) → (Nat → Value) → World → Prop) : Nat → List Oper → Prop
  | _, [] => True
  | k, o :: rest => (o.guard = none ∧ LawS P l a Inv k o) ∧ LawsS P l a Inv (k + 1) rest
theorem lawsS_nil {k : Nat} : LawsS P l a Inv k [] := trivial
theorem lawsS_cons {k : Nat} {o : Oper} {rest : List Oper} (hg : o.guard = none) (h : LawS P l a Inv k o) (hs : LawsS P l a Inv (k + 1) rest) : LawsS P l a Inv k (o :: rest) := ⟨⟨hg, h⟩, hs⟩
theorem lawsS_at : ∀ {rest : List Oper} {k : Nat}, LawsS P l a Inv k rest → ∀ (i : Nat) (o : Oper), rest[i]? = some o → o.guard = none ∧ LawS P l a Inv (k + i) o
  | [], _, _, i, o, h => by simp at h
  | o' :: rest, k, h, 0, o, ho => by simp at ho; subst ho; exact h.1
  | o' :: rest, k, h, i + 1, o, ho => by
    have := lawsS_at h.2 i o (by simpa using ho)
    rwa [show k + 1 + i = k + (i + 1) by omega] at this

theorem wp_region_S {id : Nat} {w : World} (Inv : (Nat → Bool) → (Nat → Value) → World → Prop) (hm : P.follows .mixedOrders = true) (hB : lawsB l = true)
    (hI : ∀ L v, (∀ i, i < l.length → L i = false) → Inv L v w.drew) (hs : LawsS P l a Inv 0 l)
    (hq : ∀ L v w1, Inv L v w1 → (∀ i, i < l.length → L i = true) → Kept (Q .normal (fillL l 0 v a) w1)) : (Code.region id l.toArray true).wp P Q a w := by
  refine wp_region_any hm ?_
  obtain ⟨v, hv⟩ := fillL_start l 0 a
  have := laws_anyS (P := P) (Q := Q) (Inv := Inv) hB (fun i o ho => (lawsS_at hs i o ho).1) (fun i o ho => by have := (lawsS_at hs i o ho).2; rwa [Nat.zero_add] at this) (fun L v w1 h1 h2 => (hq L v w1 h1 h2).out) l.length (Array.replicate l.length false) v w.drew (List.range l.length) (by simp) (by simp) (fun i hi => by
    rw [List.mem_range]
    rcases Nat.lt_or_ge i l.length with h | h
    · exact h
    · simp [Nat.not_lt.2 h] at hi) (hI _ v (fun i hi => by simp [hi]))
  rw [hv] at this
  simpa using this
end
end Go.Proofs.Ytnmfppjjhbkfmaa
