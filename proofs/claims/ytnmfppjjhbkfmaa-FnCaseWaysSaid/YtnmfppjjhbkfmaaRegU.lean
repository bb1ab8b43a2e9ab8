/- The rule for drawn regions in which an operation may use up what another one gave (an append onto a slice of the call's own); the last operation waits for all others. -/
import Derived.Test.YtnmfppjjhbkfmaaRegP
namespace Go.Proofs.Ytnmfppjjhbkfmaa
open Go.RowKit

section
variable {P : Program} {l : List Oper} {Q : Exit → Act → World → Prop} {a : Act}
variable {R : Nat → (Nat → Value) → World → World → Prop} {I J : World → Prop} {m : Nat} {T : Nat → World → Value → Prop} {used : Nat → Nat} {p q : Nat} {D : Value → Value → Prop} {Fin : (Nat → Value) → World → Prop}

/-- The value of operation k is not used up when operation i begins. -/
def freeU (used : Nat → Nat) (n i k : Nat) : Bool := used k == i || decide (n ≤ used k)
/-- What is asked of one operation ahead of the last. -/
def LawU (P : Program) (l : List Oper) (a : Act) (R : Nat → (Nat → Value) → World → World → Prop) (I J : World → Prop) (m : Nat) (T : Nat → World → Value → Prop) (used : Nat → Nat) (n p q : Nat) (D : Value → Value → Prop) (i : Nat) (o : Oper) : Prop :=
  ∀ v w1, I w1 → (i = m → J w1) → (∀ k, List.elem k (depsOf o) = true → freeU used n i k = true → T k w1 (v k)) → (List.elem p (depsOf o) = true → List.elem q (depsOf o) = true → freeU used n i p = true → freeU used n i q = true → D (v p) (v q)) →
    Kept (Gives P o (fillL l 0 v a) w1 (fun u w2 => R i v w1 w2 ∧ I w2 ∧ T i w2 u ∧ (i = p → ∀ y, T q w1 y → D u y) ∧ (i = q → ∀ x, T p w1 x → D x u)))

/-- Keeping: T j outlives operation i. -/
def StableU (l : List Oper) (R : Nat → (Nat → Value) → World → World → Prop) (T : Nat → World → Value → Prop) (used : Nat → Nat) (p q : Nat) (D : Value → Value → Prop) (n : Nat) : Prop :=
  ∀ i j v w1 w2, j < n → i ≠ j → used j ≠ i → (∀ o, l[i]? = some o → (List.elem p (depsOf o) = true → freeU used n i p = true → j = q → D (v p) (v q)) ∧ (List.elem q (depsOf o) = true → freeU used n i q = true → j = p → D (v p) (v q))) → R i v w1 w2 → T j w1 (v j) → T j w2 (v j)

def InvU (l : List Oper) (I J : World → Prop) (m : Nat) (T : Nat → World → Value → Prop) (used : Nat → Nat) (p q : Nat) (D : Value → Value → Prop) (Fin : (Nat → Value) → World → Prop) (n : Nat) (L : Nat → Bool) (v : Nat → Value) (w : World) : Prop :=
  Closed l L ∧ (L n = false → (I w ∧ (L m = false → J w)) ∧ (∀ i, i < n → L i = true → (used i < n → L (used i) = false) → T i w (v i)) ∧ ((used p < n → L (used p) = false) → (used q < n → L (used q) = false) → L p = true → L q = true → D (v p) (v q))) ∧ (L n = true → Fin v w)

theorem used_free {n i k : Nat} {L : Nat → Bool} (hLi : L i = false) (h : freeU used n i k = true) : used k < n → L (used k) = false := by
  intro hlt
  simp only [freeU, Bool.or_eq_true, beq_iff_eq, decide_eq_true_eq] at h
  rcases h with h | h
  · rw [h]; exact hLi
  · omega

theorem lawU_S (hB : lawsB l = true) (hTB : tailB l = true) {n : Nat} (hT : StableU l R T used p q D n) (hJ : ∀ i v w1 w2, i ≠ m → R i v w1 w2 → J w1 → J w2) (hn : l.length = n + 1) (hpq : p ≠ q) (hp : p < n) (hq : q < n) {i : Nat} {o : Oper} (hin : i < n) (ho : l[i]? = some o)
    (h : LawU P l a R I J m T used n p q D i o) : LawS P l a (InvU l I J m T used p q D Fin n) i o := by
  intro L v w1 hLi ⟨hc, h0, h1⟩ hdeps
  have hLn : L n = false := by
    cases hb : L n
    · rfl
    · exfalso
      have hlt : n < l.length := by omega
      have ho2 : l[n]? = some l[n] := by simp [hlt]
      have := closed_all hB hTB hc hn ho2 (hc n _ ho2 hb) i hin
      rw [this] at hLi; cases hLi
  obtain ⟨⟨hI, hJ1⟩, hall, hD⟩ := h0 hLn
  refine ⟨gives_mono (h v w1 hI (fun e => hJ1 (e ▸ hLi)) (fun k hk hf => hall k (by have := depsOf_lt hB ho hk; omega) (hdeps k hk) (used_free hLi hf)) (fun hp' hq' fp fq => hD (used_free hLi fp) (used_free hLi fq) (hdeps p hp') (hdeps q hq'))).out ?_⟩
  intro u w2 ⟨hR, hI2, hTi, hup, huq⟩
  have back : ∀ j, (used j < n → updB L i (used j) = false) → used j ≠ i ∧ (used j < n → L (used j) = false) := by
    intro j hj
    have h2 : used j ≠ i := fun e => by
      have := hj (by omega)
      rw [e, updB_same] at this; cases this
    exact ⟨h2, fun hlt => by have := hj hlt; rwa [updB_ne L h2] at this⟩
  refine ⟨closed_upd hc ho hdeps, fun _ => ⟨⟨hI2, fun hm => ?_⟩, fun j hj hL hu => ?_, fun hup' huq' hLp hLq => ?_⟩, fun hL => ?_⟩
  · have hmi : m ≠ i := fun e => by rw [e, updB_same] at hm; cases hm
    rw [updB_ne L hmi] at hm
    exact hJ i v w1 w2 (Ne.symm hmi) hR (hJ1 hm)
  · by_cases hji : j = i
    · subst hji; rw [upd_same]; exact hTi
    · obtain ⟨h2, h3⟩ := back j hu
      rw [upd_ne v u hji]; rw [updB_ne L hji] at hL
      refine hT i j v w1 w2 hj (Ne.symm hji) h2 (fun o' ho' => ?_) hR (hall j hj hL h3)
      rw [ho] at ho'
      injection ho' with ho'
      subst ho'
      exact ⟨fun hp' fp hjq => hD (used_free hLi fp) (hjq ▸ h3) (hdeps p hp') (hjq ▸ hL), fun hq' fq hjp => hD (hjp ▸ h3) (used_free hLi fq) (hjp ▸ hL) (hdeps q hq')⟩
  · obtain ⟨p2, p3⟩ := back p hup'
    obtain ⟨q2, q3⟩ := back q huq'
    by_cases hpi : p = i
    · subst hpi
      rw [upd_same, upd_ne v u (Ne.symm hpq)]
      rw [updB_ne L (Ne.symm hpq)] at hLq
      exact hup rfl _ (hall q hq hLq q3)
    · rw [updB_ne L hpi] at hLp
      by_cases hqi : q = i
      · subst hqi
        rw [upd_same, upd_ne v u hpi]
        exact huq rfl _ (hall p hp hLp p3)
      · rw [updB_ne L hqi] at hLq
        rw [upd_ne v u hpi, upd_ne v u hqi]
        exact hD p3 q3 hLp hLq
  · rw [updB_ne L (by omega), hLn] at hL; cases hL

/-- What is asked of the last operation. -/
def LawV (P : Program) (l : List Oper) (a : Act) (I : World → Prop) (T : Nat → World → Value → Prop) (used : Nat → Nat) (Fin : (Nat → Value) → World → Prop) (n : Nat) (o : Oper) : Prop :=
  ∀ v w1, I w1 → (∀ i, i < n → n ≤ used i → T i w1 (v i)) → Kept (Gives P o (fillL l 0 v a) w1 (fun u w2 => Fin (upd v n u) w2))

theorem lawV_S (hB : lawsB l = true) (hTB : tailB l = true) {n : Nat} (hn : l.length = n + 1) {o : Oper} (ho : l[n]? = some o) (h : LawV P l a I T used Fin n o) : LawS P l a (InvU l I J m T used p q D Fin n) n o := by
  intro L v w1 hLi ⟨hc, h0, h1⟩ hdeps
  obtain ⟨⟨hI, _⟩, hall, hD⟩ := h0 hLi
  have hL := closed_all hB hTB hc hn ho hdeps
  refine ⟨gives_mono (h v w1 hI (fun i hi hu => hall i hi (hL i hi) (fun h => by omega))).out ?_⟩
  intro u w2 hF
  refine ⟨closed_upd hc ho hdeps, fun hL' => ?_, fun _ => hF⟩
  rw [updB_same] at hL'; cases hL'

/-- The laws of all operations. -/
def LawsU (P : Program) (l : List Oper) (a : Act) (R : Nat → (Nat → Value) → World → World → Prop) (I J : World → Prop) (m : Nat) (T : Nat → World → Value → Prop) (used : Nat → Nat) (n p q : Nat) (D : Value → Value → Prop) (Fin : (Nat → Value) → World → Prop) : Nat → List Oper → Prop
  | _, [] => False
  | k, [o] => o.guard = none ∧ LawV P l a I T used Fin k o
  | k, o :: rest => (o.guard = none ∧ LawU P l a R I J m T used n p q D k o) ∧ LawsU P l a R I J m T used n p q D Fin (k + 1) rest
theorem lawsU_cons {n k : Nat} {o o' : Oper} {rest : List Oper} (hg : o.guard = none) (h : LawU P l a R I J m T used n p q D k o) (hs : LawsU P l a R I J m T used n p q D Fin (k + 1) (o' :: rest)) : LawsU P l a R I J m T used n p q D Fin k (o :: o' :: rest) := ⟨⟨hg, h⟩, hs⟩
theorem lawsU_last {n k : Nat} {o : Oper} (hg : o.guard = none) (h : LawV P l a I T used Fin k o) : LawsU P l a R I J m T used n p q D Fin k [o] := ⟨hg, h⟩

theorem lawsU_S (hB : lawsB l = true) (hTB : tailB l = true) {n : Nat} (hT : StableU l R T used p q D n) (hJ : ∀ i v w1 w2, i ≠ m → R i v w1 w2 → J w1 → J w2) (hn : l.length = n + 1) (hpq : p ≠ q) (hp : p < n) (hq : q < n) :
    ∀ (rest : List Oper) (k : Nat), k + rest.length = n + 1 → (∀ i o, rest[i]? = some o → l[k + i]? = some o) → LawsU P l a R I J m T used n p q D Fin k rest → LawsS P l a (InvU l I J m T used p q D Fin n) k rest
  | [], _, _, _, h => h.elim
  | [o], k, hk, hat, h => by
    simp at hk
    subst hk
    exact ⟨⟨h.1, lawV_S hB hTB hn (by have := hat 0 o rfl; simpa using this) h.2⟩, trivial⟩
  | o :: o' :: rest, k, hk, hat, h => by
    simp at hk
    exact ⟨⟨h.1.1, lawU_S hB hTB hT hJ hn hpq hp hq (by omega) (by have := hat 0 o rfl; simpa using this) h.1.2⟩,
      lawsU_S hB hTB hT hJ hn hpq hp hq (o' :: rest) (k + 1) (by simp; omega) (fun i x hi => by have := hat (i + 1) x (by simpa using hi); rwa [show k + 1 + i = k + (i + 1) by omega]) h.2⟩

theorem wp_region_use {id : Nat} {w : World} (R : Nat → (Nat → Value) → World → World → Prop) (I J : World → Prop) (m : Nat) (T : Nat → World → Value → Prop) (used : Nat → Nat) (p q : Nat) (D : Value → Value → Prop) (Fin : (Nat → Value) → World → Prop) (n : Nat)
    (hm : P.follows .mixedOrders = true) (hB : (lawsB l && tailB l && decide (l.length = n + 1) && decide (p ≠ q) && decide (p < n) && decide (q < n)) = true)
    (hT : StableU l R T used p q D n) (hJ : ∀ i v w1 w2, i ≠ m → R i v w1 w2 → J w1 → J w2) (hI : I w.drew) (hJ0 : J w.drew) (hs : LawsU P l a R I J m T used n p q D Fin 0 l)
    (hq : ∀ v w1, Fin v w1 → Kept (Q .normal (fillL l 0 v a) w1)) : (Code.region id l.toArray true).wp P Q a w := by
  simp only [Bool.and_eq_true, decide_eq_true_eq] at hB
  obtain ⟨⟨⟨⟨⟨h1, h2⟩, h3⟩, h4⟩, h5⟩, h6⟩ := hB
  refine wp_region_S (InvU l I J m T used p q D Fin n) hm h1 ?_ (lawsU_S h1 h2 hT hJ h3 h4 h5 h6 l 0 (by omega) (fun i o h => by rwa [Nat.zero_add]) hs) (fun L v w1 hInv hL => hq v w1 (hInv.2.2 (hL n (by omega))))
  intro L v hL
  refine ⟨fun i o ho hLi => ?_, fun _ => ⟨⟨hI, fun _ => hJ0⟩, fun i hi hLi _ => ?_, fun _ _ hLp => ?_⟩, fun hLn => ?_⟩
  · have hi : i < l.length := (List.getElem?_eq_some_iff.1 ho).1
    rw [hL i hi] at hLi; cases hLi
  · rw [hL i (by omega)] at hLi; cases hLi
  · rw [hL p (by omega)] at hLp; cases hLp
  · rw [hL n (by omega)] at hLn; cases hLn
end
end Go.Proofs.Ytnmfppjjhbkfmaa
