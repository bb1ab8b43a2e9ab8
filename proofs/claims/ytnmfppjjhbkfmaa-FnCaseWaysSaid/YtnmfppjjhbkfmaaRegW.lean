/- As RegU, where every operation may have a resource of its own that it uses up, and the last one's slot is known to hold X till then (begun as a print of XRegU). -/
import Derived.Test.YtnmfppjjhbkfmaaRegU
namespace Go.Proofs.Ytnmfppjjhbkfmaa
open Go.RowKit

section
variable {P : Program} {l : List Oper} {Q : Exit → Act → World → Prop} {a : Act}
variable {R : Nat → (Nat → Value) → World → World → Prop} {I : World → Prop} {J : Nat → World → Prop} {T : Nat → World → Value → Prop} {used : Nat → Nat} {p q : Nat} {D : Value → Value → Prop} {Fin : (Nat → Value) → World → Prop} {X : Value}

/-- What is asked of one operation ahead of the last. -/
def LawUW (P : Program) (l : List Oper) (a : Act) (R : Nat → (Nat → Value) → World → World → Prop) (I : World → Prop) (J : Nat → World → Prop) (T : Nat → World → Value → Prop) (used : Nat → Nat) (n p q : Nat) (D : Value → Value → Prop) (X : Value) (i : Nat) (o : Oper) : Prop :=
  ∀ v w1, v n = X → I w1 → J i w1 → (∀ k, List.elem k (depsOf o) = true → freeU used n i k = true → T k w1 (v k)) → (List.elem p (depsOf o) = true → List.elem q (depsOf o) = true → freeU used n i p = true → freeU used n i q = true → D (v p) (v q)) →
    Kept (Gives P o (fillL l 0 v a) w1 (fun u w2 => R i v w1 w2 ∧ I w2 ∧ T i w2 u ∧ (i = p → ∀ y, T q w1 y → D u y) ∧ (i = q → ∀ x, T p w1 x → D x u)))

def InvUW (X : Value) (l : List Oper) (I : World → Prop) (J : Nat → World → Prop) (T : Nat → World → Value → Prop) (used : Nat → Nat) (p q : Nat) (D : Value → Value → Prop) (Fin : (Nat → Value) → World → Prop) (n : Nat) (L : Nat → Bool) (v : Nat → Value) (w : World) : Prop :=
  Closed l L ∧ (L n = false → (I w ∧ v n = X ∧ ∀ k, L k = false → J k w) ∧ (∀ i, i < n → L i = true → (used i < n → L (used i) = false) → T i w (v i)) ∧ ((used p < n → L (used p) = false) → (used q < n → L (used q) = false) → L p = true → L q = true → D (v p) (v q))) ∧ (L n = true → Fin v w)

theorem lawU_SW (hB : lawsB l = true) (hTB : tailB l = true) {n : Nat} (hT : StableU l R T used p q D n) (hJ : ∀ i j v w1 w2, j ≠ i → R i v w1 w2 → J j w1 → J j w2) (hn : l.length = n + 1) (hpq : p ≠ q) (hp : p < n) (hq : q < n) {i : Nat} {o : Oper} (hin : i < n) (ho : l[i]? = some o)
    (h : LawUW P l a R I J T used n p q D X i o) : LawS P l a (InvUW X l I J T used p q D Fin n) i o := by
  intro L v w1 hLi ⟨hc, h0, h1⟩ hdeps
  have hLn : L n = false := by
    cases hb : L n
    · rfl
    · exfalso
      have hlt : n < l.length := by omega
      have ho2 : l[n]? = some l[n] := by simp [hlt]
      have := closed_all hB hTB hc hn ho2 (hc n _ ho2 hb) i hin
      rw [this] at hLi; cases hLi
  obtain ⟨⟨hI, hX, hJ1⟩, hall, hD⟩ := h0 hLn
  refine ⟨gives_mono (h v w1 hX hI (hJ1 i hLi) (fun k hk hf => hall k (by have := depsOf_lt hB ho hk; omega) (hdeps k hk) (used_free hLi hf)) (fun hp' hq' fp fq => hD (used_free hLi fp) (used_free hLi fq) (hdeps p hp') (hdeps q hq'))).out ?_⟩
  intro u w2 ⟨hR, hI2, hTi, hup, huq⟩
  have back : ∀ j, (used j < n → updB L i (used j) = false) → used j ≠ i ∧ (used j < n → L (used j) = false) := by
    intro j hj
    have h2 : used j ≠ i := fun e => by
      have := hj (by omega)
      rw [e, updB_same] at this; cases this
    exact ⟨h2, fun hlt => by have := hj hlt; rwa [updB_ne L h2] at this⟩
  refine ⟨closed_upd hc ho hdeps, fun _ => ⟨⟨hI2, by rw [upd_ne v u (by omega)]; exact hX, fun m hm => ?_⟩, fun j hj hL hu => ?_, fun hup' huq' hLp hLq => ?_⟩, fun hL => ?_⟩
  · have hmi : m ≠ i := fun e => by rw [e, updB_same] at hm; cases hm
    rw [updB_ne L hmi] at hm
    exact hJ i m v w1 w2 hmi hR (hJ1 m hm)
  · by_cases hji : j = i
    · subst hji; rw [upd_same]; exact hTi
    · obtain ⟨h2, h3⟩ := back j hu
      rw [upd_ne v u hji]; rw [updB_ne L hji] at hL
      refine hT i j v w1 w2 hj (Ne.symm hji) h2 (fun o' ho' => ?_) hR (hall j hj hL h3)
      rw [ho] at ho'
      injection ho' with ho'
      subst ho'
      exact ⟨fun hp' fp hjq => hD (used_free hLi fp) (hjq ▸ h3) (hdeps p hp') (hjq ▸ hL), fun hq' fq hjp => hD (hjp ▸ h3) (used_free hLi fq) (hjp ▸ hL) (hdeps q hq')⟩
  · obtain ⟨p2, p3⟩ := back p hup'
    obtain ⟨q2, q3⟩ := back q huq'
    by_cases hpi : p = i
    · subst hpi
      rw [upd_same, upd_ne v u (Ne.symm hpq)]
      rw [updB_ne L (Ne.symm hpq)] at hLq
      exact hup rfl _ (hall q hq hLq q3)
    · rw [updB_ne L hpi] at hLp
      by_cases hqi : q = i
      · subst hqi
        rw [upd_same, upd_ne v u hpi]
        exact huq rfl _ (hall p hp hLp p3)
      · rw [updB_ne L hqi] at hLq
        rw [upd_ne v u hpi, upd_ne v u hqi]
        exact hD p3 q3 hLp hLq
  · rw [updB_ne L (by omega), hLn] at hL; cases hL

theorem put_size (a : Act) (d : Option Tmp) (u : Value) : (a.put d u).tmps.size = a.tmps.size := by cases d <;> simp [Act.put]
theorem fillL_last : ∀ (l : List Oper) (k : Nat) (v : Nat → Value) (a : Act) (n : Nat) (o : Oper) (d : Tmp), l.length = n + 1 → l[n]? = some o → o.dst = some d → d < a.tmps.size → (fillL l k v a).tmps.getD d undef = v (k + n)
  | [], _, _, _, _, _, _, h, _, _, _ => by simp at h
  | o' :: l, k, v, a, 0, o, d, h, ho, hd, hs => by
    have hl : l = [] := List.eq_nil_of_length_eq_zero (by simpa using h)
    subst hl
    simp at ho
    subst ho
    simp [fillL, hd, Act.put, hs]
  | o' :: l, k, v, a, n + 1, o, d, h, ho, hd, hs => by
    rw [fillL, fillL_last l (k + 1) v _ n o d (by simpa using h) (by simpa using ho) hd (by rw [put_size]; exact hs), show k + 1 + n = k + (n + 1) by omega]

theorem wp_region_S2 {id : Nat} {w : World} (Inv : (Nat → Bool) → (Nat → Value) → World → Prop) (hm : P.follows .mixedOrders = true) (hB : lawsB l = true)
    (hI : ∀ L v, fillL l 0 v a = a → (∀ i, i < l.length → L i = false) → Inv L v w.drew) (hs : LawsS P l a Inv 0 l)
    (hq : ∀ L v w1, Inv L v w1 → (∀ i, i < l.length → L i = true) → Kept (Q .normal (fillL l 0 v a) w1)) : (Code.region id l.toArray true).wp P Q a w := by
  refine wp_region_any hm ?_
  obtain ⟨v, hv⟩ := fillL_start l 0 a
  have := laws_anyS (P := P) (Q := Q) (Inv := Inv) hB (fun i o ho => (lawsS_at hs i o ho).1) (fun i o ho => by have := (lawsS_at hs i o ho).2; rwa [Nat.zero_add] at this) (fun L v w1 h1 h2 => (hq L v w1 h1 h2).out) l.length (Array.replicate l.length false) v w.drew (List.range l.length) (by simp) (by simp) (fun i hi => by
    rw [List.mem_range]
    rcases Nat.lt_or_ge i l.length with h | h
    · exact h
    · simp [Nat.not_lt.2 h] at hi) (hI _ v hv (fun i hi => by simp [hi]))
  rw [hv] at this
  simpa using this

/-- What is asked of the last operation. -/
def LawVW (P : Program) (l : List Oper) (a : Act) (I : World → Prop) (T : Nat → World → Value → Prop) (used : Nat → Nat) (Fin : (Nat → Value) → World → Prop) (n : Nat) (o : Oper) : Prop :=
  ∀ v w1, I w1 → (∀ i, i < n → n ≤ used i → T i w1 (v i)) → Kept (Gives P o (fillL l 0 v a) w1 (fun u w2 => Fin (upd v n u) w2))

theorem lawV_SW (hB : lawsB l = true) (hTB : tailB l = true) {n : Nat} (hn : l.length = n + 1) {o : Oper} (ho : l[n]? = some o) (h : LawVW P l a I T used Fin n o) : LawS P l a (InvUW X l I J T used p q D Fin n) n o := by
  intro L v w1 hLi ⟨hc, h0, h1⟩ hdeps
  obtain ⟨⟨hI, _⟩, hall, hD⟩ := h0 hLi
  have hL := closed_all hB hTB hc hn ho hdeps
  refine ⟨gives_mono (h v w1 hI (fun i hi hu => hall i hi (hL i hi) (fun h => by omega))).out ?_⟩
  intro u w2 hF
  refine ⟨closed_upd hc ho hdeps, fun hL' => ?_, fun _ => hF⟩
  rw [updB_same] at hL'; cases hL'

/-- The laws of all operations. -/
def LawsUW (P : Program) (l : List Oper) (a : Act) (R : Nat → (Nat → Value) → World → World → Prop) (I : World → Prop) (J : Nat → World → Prop) (T : Nat → World → Value → Prop) (used : Nat → Nat) (n p q : Nat) (D : Value → Value → Prop) (Fin : (Nat → Value) → World → Prop) (X : Value) : Nat → List Oper → Prop
  | _, [] => False
  | k, [o] => o.guard = none ∧ LawVW P l a I T used Fin k o
  | k, o :: rest => (o.guard = none ∧ LawUW P l a R I J T used n p q D X k o) ∧ LawsUW P l a R I J T used n p q D Fin X (k + 1) rest
theorem lawsU_consW {n k : Nat} {o o' : Oper} {rest : List Oper} (hg : o.guard = none) (h : LawUW P l a R I J T used n p q D X k o) (hs : LawsUW P l a R I J T used n p q D Fin X (k + 1) (o' :: rest)) : LawsUW P l a R I J T used n p q D Fin X k (o :: o' :: rest) := ⟨⟨hg, h⟩, hs⟩
theorem lawsU_lastW {n k : Nat} {o : Oper} (hg : o.guard = none) (h : LawVW P l a I T used Fin k o) : LawsUW P l a R I J T used n p q D Fin X k [o] := ⟨hg, h⟩

theorem lawsU_SW (hB : lawsB l = true) (hTB : tailB l = true) {n : Nat} (hT : StableU l R T used p q D n) (hJ : ∀ i j v w1 w2, j ≠ i → R i v w1 w2 → J j w1 → J j w2) (hn : l.length = n + 1) (hpq : p ≠ q) (hp : p < n) (hq : q < n) :
    ∀ (rest : List Oper) (k : Nat), k + rest.length = n + 1 → (∀ i o, rest[i]? = some o → l[k + i]? = some o) → LawsUW P l a R I J T used n p q D Fin X k rest → LawsS P l a (InvUW X l I J T used p q D Fin n) k rest
  | [], _, _, _, h => h.elim
  | [o], k, hk, hat, h => by
    simp at hk
    subst hk
    exact ⟨⟨h.1, lawV_SW hB hTB hn (by have := hat 0 o rfl; simpa using this) h.2⟩, trivial⟩
  | o :: o' :: rest, k, hk, hat, h => by
    simp at hk
    exact ⟨⟨h.1.1, lawU_SW hB hTB hT hJ hn hpq hp hq (by omega) (by have := hat 0 o rfl; simpa using this) h.1.2⟩,
      lawsU_SW hB hTB hT hJ hn hpq hp hq (o' :: rest) (k + 1) (by simp; omega) (fun i x hi => by have := hat (i + 1) x (by simpa using hi); rwa [show k + 1 + i = k + (i + 1) by omega]) h.2⟩

theorem wp_region_useW {id : Nat} {w : World} (R : Nat → (Nat → Value) → World → World → Prop) (I : World → Prop) (J : Nat → World → Prop) (T : Nat → World → Value → Prop) (used : Nat → Nat) (p q : Nat) (D : Value → Value → Prop) (Fin : (Nat → Value) → World → Prop) (n : Nat) (X : Value) (d : Tmp) (hX : a.tmps.getD d undef = X) (hd : d < a.tmps.size) (hlast : (l[n]?).map (·.dst) = some (some d))
    (hm : P.follows .mixedOrders = true) (hB : (lawsB l && tailB l && decide (l.length = n + 1) && decide (p ≠ q) && decide (p < n) && decide (q < n)) = true)
    (hT : StableU l R T used p q D n) (hJ : ∀ i j v w1 w2, j ≠ i → R i v w1 w2 → J j w1 → J j w2) (hI : I w.drew) (hJ0 : ∀ k, J k w.drew) (hs : LawsUW P l a R I J T used n p q D Fin X 0 l)
    (hq : ∀ v w1, Fin v w1 → Kept (Q .normal (fillL l 0 v a) w1)) : (Code.region id l.toArray true).wp P Q a w := by
  simp only [Bool.and_eq_true, decide_eq_true_eq] at hB
  obtain ⟨⟨⟨⟨⟨h1, h2⟩, h3⟩, h4⟩, h5⟩, h6⟩ := hB
  refine wp_region_S2 (InvUW X l I J T used p q D Fin n) hm h1 ?_ (lawsU_SW h1 h2 hT hJ h3 h4 h5 h6 l 0 (by omega) (fun i o h => by rwa [Nat.zero_add]) hs) (fun L v w1 hInv hL => hq v w1 (hInv.2.2 (hL n (by omega))))
  intro L v hv hL
  have hvX : v n = X := by
    obtain ⟨o, ho, hod⟩ : ∃ o, l[n]? = some o ∧ o.dst = some d := by
      cases hn : l[n]? with
      | none => rw [hn] at hlast; cases hlast
      | some o => rw [hn] at hlast; exact ⟨o, rfl, by injection hlast⟩
    have := fillL_last l 0 v a n o d h3 ho hod hd
    rw [hv, hX, Nat.zero_add] at this
    exact this.symm
  refine ⟨fun i o ho hLi => ?_, fun _ => ⟨⟨hI, hvX, fun k _ => hJ0 k⟩, fun i hi hLi _ => ?_, fun _ _ hLp => ?_⟩, fun hLn => ?_⟩
  · have hi : i < l.length := (List.getElem?_eq_some_iff.1 ho).1
    rw [hL i hi] at hLi; cases hLi
  · rw [hL i (by omega)] at hLi; cases hLi
  · rw [hL p (by omega)] at hLp; cases hLp
  · rw [hL n (by omega)] at hLn; cases hLn
end
end Go.Proofs.Ytnmfppjjhbkfmaa
