/- The rule for drawn regions in which an operation may use up what another one gave; no last operation is asked for. -/
import Derived.Test.YtfdabeikcpccgaaRegP
namespace Go.Proofs.Ytfdabeikcpccgaa
open Go.RowKit

section
variable {P : Program} {l : List Oper} {Q : Exit → Act → World → Prop} {a : Act}
variable {R : Nat → (Nat → Value) → World → World → Prop} {I : World → Prop} {T : Nat → World → Value → Prop} {used : Nat → Nat} {late : List (Nat × Nat)}

/-- The value of operation k is not used up when operation i begins. -/
def freeF (used : Nat → Nat) (n i k : Nat) : Bool := used k == i || decide (n ≤ used k)
def LawF (P : Program) (l : List Oper) (a : Act) (R : Nat → (Nat → Value) → World → World → Prop) (I : World → Prop) (T : Nat → World → Value → Prop) (used : Nat → Nat) (n i : Nat) (o : Oper) : Prop :=
  ∀ v w1, I w1 → (∀ k, List.elem k (depsOf o) = true → freeF used n i k = true → T k w1 (v k)) → Kept (Gives P o (fillL l 0 v a) w1 fun u w2 => R i v w1 w2 ∧ I w2 ∧ T i w2 u)
/-- Keeping: T j outlives operation i, unless i uses it up or comes behind what uses it up. -/
def StableF (R : Nat → (Nat → Value) → World → World → Prop) (T : Nat → World → Value → Prop) (used : Nat → Nat) (late : List (Nat × Nat)) (n : Nat) : Prop :=
  ∀ i j v w1 w2, i < n → j < n → i ≠ j → used j ≠ i → late.contains (i, j) = false → R i v w1 w2 → T j w1 (v j) → T j w2 (v j)
def lateB (l : List Oper) (used : Nat → Nat) (n : Nat) (late : List (Nat × Nat)) : Bool :=
  late.all fun p => (decide (used p.2 < n) && match l[p.1]? with
    | some o => List.elem (used p.2) (depsOf o)
    | none => false) || (match l[p.2]? with
    | some o => List.elem p.1 (depsOf o)
    | none => false)
def InvF (l : List Oper) (n : Nat) (I : World → Prop) (T : Nat → World → Value → Prop) (used : Nat → Nat) (L : Nat → Bool) (v : Nat → Value) (w : World) : Prop :=
  Closed l L ∧ I w ∧ ∀ k, k < n → L k = true → (used k < n → L (used k) = false) → T k w (v k)

theorem lawF_S {n : Nat} (hB : lawsB l = true) (hn : l.length = n) (hT : StableF R T used late n) (hlate : lateB l used n late = true) {i : Nat} {o : Oper} (ho : l[i]? = some o) (h : LawF P l a R I T used n i o) : LawS P l a (InvF l n I T used) i o := by
  intro L v w1 hLi ⟨hc, hI, hall⟩ hdeps
  have hin : i < n := by rw [← hn]; exact (List.getElem?_eq_some_iff.1 ho).1
  refine ⟨gives_mono (h v w1 hI (fun k hk hf => hall k (by have := depsOf_lt hB ho hk; omega) (hdeps k hk) (fun hlt => by
    simp only [freeF, Bool.or_eq_true, beq_iff_eq, decide_eq_true_eq] at hf
    rcases hf with h | h
    · rw [h]; exact hLi
    · omega))).out ?_⟩
  intro u w2 ⟨hR, hI2, hTi⟩
  refine ⟨closed_upd hc ho hdeps, hI2, fun j hj hL hu => ?_⟩
  by_cases hji : j = i
  · subst hji; rw [upd_same]; exact hTi
  · rw [upd_ne v u hji]
    rw [updB_ne L hji] at hL
    have h2 : used j ≠ i := fun e => by
      have := hu (by omega)
      rw [e, updB_same] at this; cases this
    have h3 : used j < n → L (used j) = false := fun hlt => by have := hu hlt; rwa [updB_ne L h2] at this
    refine hT i j v w1 w2 hin hj (Ne.symm hji) h2 ?_ hR (hall j hj hL h3)
    cases hcc : late.contains (i, j)
    · rfl
    · exfalso
      have hm : (i, j) ∈ late := by simpa using hcc
      simp only [lateB, List.all_eq_true, Bool.and_eq_true, Bool.or_eq_true, decide_eq_true_eq] at hlate
      rcases hlate _ hm with h5 | h5
      · rw [ho] at h5
        have h4 := hdeps _ h5.2
        rw [h3 h5.1] at h4
        cases h4
      · have hjl : j < l.length := by omega
        have ho2 : l[j]? = some l[j] := by simp [hjl]
        rw [ho2] at h5
        have h4 := hc j _ ho2 hL i h5
        rw [hLi] at h4
        cases h4

def LawsF (P : Program) (l : List Oper) (a : Act) (R : Nat → (Nat → Value) → World → World → Prop) (I : World → Prop) (T : Nat → World → Value → Prop) (used : Nat → Nat) (n : Nat) : Nat → List Oper → Prop
  | _, [] => True
  | k, o :: rest => (o.guard = none ∧ LawF P l a R I T used n k o) ∧ LawsF P l a R I T used n (k + 1) rest
theorem lawsF_nil {n k : Nat} : LawsF P l a R I T used n k [] := trivial
theorem lawsF_cons {n k : Nat} {o : Oper} {rest : List Oper} (hg : o.guard = none) (h : LawF P l a R I T used n k o) (hs : LawsF P l a R I T used n (k + 1) rest) : LawsF P l a R I T used n k (o :: rest) := ⟨⟨hg, h⟩, hs⟩
theorem lawsF_S {n : Nat} (hB : lawsB l = true) (hn : l.length = n) (hT : StableF R T used late n) (hlate : lateB l used n late = true) :
    ∀ (rest : List Oper) (k : Nat), (∀ i o, rest[i]? = some o → l[k + i]? = some o) → LawsF P l a R I T used n k rest → LawsS P l a (InvF l n I T used) k rest
  | [], _, _, _ => trivial
  | o :: rest, k, hat, h => ⟨⟨h.1.1, lawF_S hB hn hT hlate (by have := hat 0 o rfl; simpa using this) h.1.2⟩, lawsF_S hB hn hT hlate rest (k + 1) (fun i x hi => by have := hat (i + 1) x (by simpa using hi); rwa [show k + 1 + i = k + (i + 1) by omega]) h.2⟩

theorem wp_region_free {id : Nat} {w : World} (R : Nat → (Nat → Value) → World → World → Prop) (I : World → Prop) (T : Nat → World → Value → Prop) (used : Nat → Nat) (late : List (Nat × Nat)) (n : Nat)
    (hm : P.follows .mixedOrders = true) (hB : (lawsB l && decide (l.length = n) && lateB l used n late) = true) (hT : StableF R T used late n) (hI : I w.drew) (hs : LawsF P l a R I T used n 0 l)
    (hq : ∀ v w1, I w1 → (∀ k, k < n → n ≤ used k → T k w1 (v k)) → Kept (Q .normal (fillL l 0 v a) w1)) : (Code.region id l.toArray true).wp P Q a w := by
  simp only [Bool.and_eq_true, decide_eq_true_eq] at hB
  obtain ⟨⟨h1, h2⟩, h3⟩ := hB
  refine wp_region_S (InvF l n I T used) hm h1 ?_ (lawsF_S h1 h2 hT h3 l 0 (fun i o h => by rwa [Nat.zero_add]) hs) (fun L v w1 hInv hL => hq v w1 hInv.2.1 (fun k hk hu => hInv.2.2 k hk (hL k (by omega)) (fun h => by omega)))
  intro L v hL
  refine ⟨fun i o ho hLi => ?_, hI, ?_⟩
  · rw [hL i (List.getElem?_eq_some_iff.1 ho).1] at hLi
    cases hLi
  · intro k hk h
    rw [hL k (by omega)] at h
    cases h
end
end Go.Proofs.Ytfdabeikcpccgaa
