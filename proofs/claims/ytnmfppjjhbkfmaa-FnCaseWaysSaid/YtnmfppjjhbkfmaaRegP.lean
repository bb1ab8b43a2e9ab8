/- The rule for drawn regions whose last operation waits for all others, with a relation between the values of two of them. -/
import Derived.Test.YtnmfppjjhbkfmaaRegS
namespace Go.Proofs.Ytnmfppjjhbkfmaa
open Go.RowKit

theorem gives_mono {P : Program} {o : Oper} {a : Act} {w : World} {K K' : Value → World → Prop} (h : Gives P o a w K) (hk : ∀ u w', K u w' → K' u w') : Gives P o a w K' := by
  unfold Gives at *
  generalize (execOp a.eval o).run P w = r at *
  cases r with
  | ok n w' =>
    cases n <;> simp only [givesUpon] at *
    case value u => exact hk _ _ h
    case skip => exact hk _ _ h
    case enter f args => exact h.mono fun e w'' ⟨v, he, hv⟩ => ⟨v, he, hk _ _ hv⟩
  | halt x w' => simp only [givesUpon] at h

section
variable {P : Program} {l : List Oper} {Q : Exit → Act → World → Prop} {a : Act}

/-- Every operation but the last is waited for. -/
def tailB (l : List Oper) : Bool := (List.range (l.length - 1)).all fun i => l.any fun o => List.elem i (depsOf o)
/-- What is listed is listed with all that it waits for. -/
def Closed (l : List Oper) (L : Nat → Bool) : Prop := ∀ i o, l[i]? = some o → L i = true → ∀ k, List.elem k (depsOf o) = true → L k = true

theorem depsOf_lt (hB : lawsB l = true) {i k : Nat} {o : Oper} (h : l[i]? = some o) (hk : List.elem k (depsOf o) = true) : k < i := by
  simp only [lawsB, Bool.and_eq_true] at hB
  have hk' : k ∈ depsOf o := by simpa using hk
  simp only [depsOf, List.mem_map, List.mem_filter] at hk'
  obtain ⟨e, ⟨he, hb⟩, rfl⟩ := hk'
  have := back_spec hB.1 i o h e (by simpa using he) hb
  omega

theorem closed_all (hB : lawsB l = true) (hT : tailB l = true) {L : Nat → Bool} (hc : Closed l L) {n : Nat} (hn : l.length = n + 1) {o : Oper} (ho : l[n]? = some o) (hd : ∀ k, List.elem k (depsOf o) = true → L k = true) : ∀ i, i < n → L i = true := by
  have key : ∀ m, ∀ i, i < n → n - i ≤ m → L i = true := by
    intro m
    induction m with
    | zero => intro i hi hm; omega
    | succ m ih =>
      intro i hi hm
      simp only [tailB, List.all_eq_true, List.mem_range] at hT
      have h1 := hT i (by omega)
      simp only [List.any_eq_true] at h1
      obtain ⟨o', ho', hk⟩ := h1
      obtain ⟨k, hkl, rfl⟩ := List.getElem_of_mem ho'
      have hk2 : l[k]? = some l[k] := by simp [hkl]
      have := depsOf_lt hB hk2 hk
      by_cases hkn : k = n
      · subst hkn
        rw [hk2] at ho
        injection ho with ho
        subst ho
        exact hd i hk
      · exact hc k _ hk2 (ih k (by omega) (by omega)) i hk
  intro i hi
  exact key n i hi (by omega)

variable {R : World → World → Prop} {I : World → Prop} {T : Nat → World → Value → Prop} {p q : Nat} {D : Value → Value → Prop} {Fin : (Nat → Value) → World → Prop}

/-- What is asked of one operation ahead of the last. -/
def LawP (P : Program) (l : List Oper) (a : Act) (R : World → World → Prop) (I : World → Prop) (T : Nat → World → Value → Prop) (p q : Nat) (D : Value → Value → Prop) (i : Nat) (o : Oper) : Prop :=
  ∀ v w1, I w1 → (∀ k, List.elem k (depsOf o) = true → T k w1 (v k)) → (List.elem p (depsOf o) = true → List.elem q (depsOf o) = true → D (v p) (v q)) →
    Kept (Gives P o (fillL l 0 v a) w1 (fun u w2 => R w1 w2 ∧ I w2 ∧ T i w2 u ∧ (i = p → ∀ y, T q w1 y → D u y) ∧ (i = q → ∀ x, T p w1 x → D x u)))

def InvP (l : List Oper) (I : World → Prop) (T : Nat → World → Value → Prop) (p q : Nat) (D : Value → Value → Prop) (Fin : (Nat → Value) → World → Prop) (n : Nat) (L : Nat → Bool) (v : Nat → Value) (w : World) : Prop :=
  Closed l L ∧ (L n = false → I w ∧ (∀ i, i < n → L i = true → T i w (v i)) ∧ (L p = true → L q = true → D (v p) (v q))) ∧ (L n = true → Fin v w)

theorem closed_upd {L : Nat → Bool} {i : Nat} {o : Oper} (hc : Closed l L) (ho : l[i]? = some o) (hd : ∀ k, List.elem k (depsOf o) = true → L k = true) : Closed l (updB L i) := by
  intro j o' hj hL k hk
  by_cases hji : j = i
  · subst hji
    rw [ho] at hj
    injection hj with hj
    subst hj
    by_cases hkj : k = j
    · subst hkj; exact updB_same L k
    · rw [updB_ne L hkj]; exact hd k hk
  · rw [updB_ne L hji] at hL
    by_cases hki : k = i
    · subst hki; exact updB_same L k
    · rw [updB_ne L hki]; exact hc j o' hj hL k hk

theorem lawP_S (hB : lawsB l = true) (hTB : tailB l = true) (hT : ∀ i w1 w2 v, R w1 w2 → T i w1 v → T i w2 v) {n : Nat} (hn : l.length = n + 1) (hpq : p ≠ q) (hp : p < n) (hq : q < n) {i : Nat} {o : Oper} (hin : i < n) (ho : l[i]? = some o)
    (h : LawP P l a R I T p q D i o) : LawS P l a (InvP l I T p q D Fin n) i o := by
  intro L v w1 hLi ⟨hc, h0, h1⟩ hdeps
  have hLn : L n = false := by
    cases hb : L n
    · rfl
    · exfalso
      have hlt : n < l.length := by omega
      have ho2 : l[n]? = some l[n] := by simp [hlt]
      have := closed_all hB hTB hc hn ho2 (hc n _ ho2 hb) i hin
      rw [this] at hLi; cases hLi
  obtain ⟨hI, hall, hD⟩ := h0 hLn
  refine ⟨gives_mono (h v w1 hI (fun k hk => hall k (by have := depsOf_lt hB ho hk; omega) (hdeps k hk)) (fun hp' hq' => hD (hdeps p hp') (hdeps q hq'))).out ?_⟩
  intro u w2 ⟨hR, hI2, hTi, hup, huq⟩
  refine ⟨closed_upd hc ho hdeps, fun _ => ⟨hI2, fun j hj hL => ?_, fun hLp hLq => ?_⟩, fun hL => ?_⟩
  · by_cases hji : j = i
    · subst hji; rw [upd_same]; exact hTi
    · rw [upd_ne v u hji]; rw [updB_ne L hji] at hL; exact hT j w1 w2 _ hR (hall j hj hL)
  · by_cases hpi : p = i
    · subst hpi
      rw [upd_same, upd_ne v u (Ne.symm hpq)]
      rw [updB_ne L (Ne.symm hpq)] at hLq
      exact hup rfl _ (hall q hq hLq)
    · rw [updB_ne L hpi] at hLp
      by_cases hqi : q = i
      · subst hqi
        rw [upd_same, upd_ne v u hpi]
        exact huq rfl _ (hall p hp hLp)
      · rw [updB_ne L hqi] at hLq
        rw [upd_ne v u hpi, upd_ne v u hqi]
        exact hD hLp hLq
  · rw [updB_ne L (by omega), hLn] at hL; cases hL

/-- What is asked of the last operation. -/
def LawE (P : Program) (l : List Oper) (a : Act) (I : World → Prop) (T : Nat → World → Value → Prop) (p q : Nat) (D : Value → Value → Prop) (Fin : (Nat → Value) → World → Prop) (n : Nat) (o : Oper) : Prop :=
  ∀ v w1, I w1 → (∀ i, i < n → T i w1 (v i)) → D (v p) (v q) → Kept (Gives P o (fillL l 0 v a) w1 (fun u w2 => Fin (upd v n u) w2))

theorem lawE_S (hB : lawsB l = true) (hTB : tailB l = true) {n : Nat} (hn : l.length = n + 1) (hp : p < n) (hq : q < n) {o : Oper} (ho : l[n]? = some o) (h : LawE P l a I T p q D Fin n o) : LawS P l a (InvP l I T p q D Fin n) n o := by
  intro L v w1 hLi ⟨hc, h0, h1⟩ hdeps
  obtain ⟨hI, hall, hD⟩ := h0 hLi
  have hL := closed_all hB hTB hc hn ho hdeps
  refine ⟨gives_mono (h v w1 hI (fun i hi => hall i hi (hL i hi)) (hD (hL p hp) (hL q hq))).out ?_⟩
  intro u w2 hF
  refine ⟨closed_upd hc ho hdeps, fun hL' => ?_, fun _ => hF⟩
  rw [updB_same] at hL'; cases hL'

/-- The laws of all operations. -/
def LawsP (P : Program) (l : List Oper) (a : Act) (R : World → World → Prop) (I : World → Prop) (T : Nat → World → Value → Prop) (p q : Nat) (D : Value → Value → Prop) (Fin : (Nat → Value) → World → Prop) : Nat → List Oper → Prop
  | _, [] => False
  | k, [o] => o.guard = none ∧ LawE P l a I T p q D Fin k o
  | k, o :: rest => (o.guard = none ∧ LawP P l a R I T p q D k o) ∧ LawsP P l a R I T p q D Fin (k + 1) rest
theorem lawsP_cons {k : Nat} {o o' : Oper} {rest : List Oper} (hg : o.guard = none) (h : LawP P l a R I T p q D k o) (hs : LawsP P l a R I T p q D Fin (k + 1) (o' :: rest)) : LawsP P l a R I T p q D Fin k (o :: o' :: rest) := ⟨⟨hg, h⟩, hs⟩
theorem lawsP_last {k : Nat} {o : Oper} (hg : o.guard = none) (h : LawE P l a I T p q D Fin k o) : LawsP P l a R I T p q D Fin k [o] := ⟨hg, h⟩

theorem lawsP_S (hB : lawsB l = true) (hTB : tailB l = true) (hT : ∀ i w1 w2 v, R w1 w2 → T i w1 v → T i w2 v) {n : Nat} (hn : l.length = n + 1) (hpq : p ≠ q) (hp : p < n) (hq : q < n) :
    ∀ (rest : List Oper) (k : Nat), k + rest.length = n + 1 → (∀ i o, rest[i]? = some o → l[k + i]? = some o) → LawsP P l a R I T p q D Fin k rest → LawsS P l a (InvP l I T p q D Fin n) k rest
  | [], _, _, _, h => h.elim
  | [o], k, hk, hat, h => by
    simp at hk
    subst hk
    exact ⟨⟨h.1, lawE_S hB hTB hn hp hq (by have := hat 0 o rfl; simpa using this) h.2⟩, trivial⟩
  | o :: o' :: rest, k, hk, hat, h => by
    simp at hk
    exact ⟨⟨h.1.1, lawP_S hB hTB hT hn hpq hp hq (by omega) (by have := hat 0 o rfl; simpa using this) h.1.2⟩,
      lawsP_S hB hTB hT hn hpq hp hq (o' :: rest) (k + 1) (by simp; omega) (fun i x hi => by have := hat (i + 1) x (by simpa using hi); rwa [show k + 1 + i = k + (i + 1) by omega]) h.2⟩

theorem wp_region_tail {id : Nat} {w : World} (R : World → World → Prop) (I : World → Prop) (T : Nat → World → Value → Prop) (p q : Nat) (D : Value → Value → Prop) (Fin : (Nat → Value) → World → Prop) (n : Nat)
    (hm : P.follows .mixedOrders = true) (hB : (lawsB l && tailB l && decide (l.length = n + 1) && decide (p ≠ q) && decide (p < n) && decide (q < n)) = true)
    (hT : ∀ i w1 w2 v, R w1 w2 → T i w1 v → T i w2 v) (hI : I w.drew) (hs : LawsP P l a R I T p q D Fin 0 l)
    (hq : ∀ v w1, Fin v w1 → Kept (Q .normal (fillL l 0 v a) w1)) : (Code.region id l.toArray true).wp P Q a w := by
  simp only [Bool.and_eq_true, decide_eq_true_eq] at hB
  obtain ⟨⟨⟨⟨⟨h1, h2⟩, h3⟩, h4⟩, h5⟩, h6⟩ := hB
  refine wp_region_S (InvP l I T p q D Fin n) hm h1 ?_ (lawsP_S h1 h2 hT h3 h4 h5 h6 l 0 (by omega) (fun i o h => by rwa [Nat.zero_add]) hs) (fun L v w1 hInv hL => hq v w1 (hInv.2.2 (hL n (by omega))))
  intro L v hL
  refine ⟨fun i o ho hLi => ?_, fun _ => ⟨hI, fun i hi hLi => ?_, fun hLp => ?_⟩, fun hLn => ?_⟩
  · have hi : i < l.length := (List.getElem?_eq_some_iff.1 ho).1
    rw [hL i hi] at hLi; cases hLi
  · rw [hL i (by omega)] at hLi; cases hLi
  · rw [hL p (by omega)] at hLp; cases hLp
  · rw [hL n (by omega)] at hLn; cases hLn
end
end Go.Proofs.Ytnmfppjjhbkfmaa
