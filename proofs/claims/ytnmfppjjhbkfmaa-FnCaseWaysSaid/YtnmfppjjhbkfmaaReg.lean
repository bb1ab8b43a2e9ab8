/- A region that draws its order, whatever its operations do to memory: each operation has a law of its own, which holds in every world to come; so all of them hold at the end, in whatever order. -/
import Derived.Test.YtnmfppjjhbkfmaaOwn
import Derived.Orders
namespace Go.Proofs.Ytnmfppjjhbkfmaa
open Go.RowKit

/-- The frame with the values v i in the slots of the operations. -/
def fillL : List Oper → Nat → (Nat → Value) → Act → Act
  | [], _, _, a => a
  | o :: l, k, v, a => fillL l (k + 1) v (a.put o.dst (v k))

/-- A statement in a box. -/
structure Kept (p : Prop) : Prop where
  out : p

def givesUpon (P : Program) (K : Value → World → Prop) : Result Next → Prop
  | .ok (.value u) w' => K u w'
  | .ok .skip w' => K undef w'
  | .ok (.enter f args) w' => Calls P f args w' fun e w'' => ∃ v, e = .returned v ∧ K v w''
  | _ => False

/-- An operation gives a value and a world. -/
def Gives (P : Program) (o : Oper) (a : Act) (w : World) (K : Value → World → Prop) : Prop := givesUpon P K ((execOp a.eval o).run P w)

theorem wp_of_gives {P : Program} {o : Oper} {a : Act} {w : World} {K : Value → World → Prop} {K' : Act → World → Prop} {Q : Exit → Act → World → Prop} (h : Gives P o a w K) (hk : ∀ u w', K u w' → K' (a.put o.dst u) w') : o.wp P a w K' Q := by
  unfold Gives at h
  unfold Oper.wp
  generalize (execOp a.eval o).run P w = r at *
  cases r with
  | ok n w' =>
    cases n <;> simp only [givesUpon] at h <;> simp only [Oper.upon]
    case value u => exact hk _ _ h
    case skip => exact hk _ _ h
    case enter f args => exact h.mono fun e w'' ⟨v, he, hv⟩ => by subst he; exact hk _ _ hv
  | halt x w' => simp only [givesUpon] at h

/-- Edges point back; no slot is written twice. -/
def backB : Nat → List Oper → Bool
  | _, [] => true
  | k, o :: l => o.after.all (fun e => !Region.binds .any e || decide (e.on < k)) && backB (k + 1) l
def onceB : List Oper → Bool
  | [] => true
  | o :: l => (match o.dst with | none => true | some d => l.all fun o' => o'.dst != some d) && onceB l
def lawsB (l : List Oper) : Bool := backB 0 l && onceB l

theorem back_spec : ∀ {l : List Oper} {k : Nat}, backB k l = true → ∀ i o, l[i]? = some o → ∀ e ∈ o.after, Region.binds .any e = true → e.on < k + i
  | [], _, _, i, o, h, _, _, _ => by simp at h
  | o' :: l, k, hb, i, o, h, e, he, hbi => by
    simp only [backB, Bool.and_eq_true] at hb
    cases i with
    | zero =>
      simp at h; subst h
      have := Array.all_eq_true_iff_forall_mem.1 hb.1 e he
      rw [hbi] at this
      simpa using this
    | succ i =>
      have := back_spec hb.2 i o (by simpa using h) e he hbi
      omega

theorem fillL_congr : ∀ (l : List Oper) (k : Nat) (v v' : Nat → Value) (a : Act), (∀ i, k ≤ i → v i = v' i) → fillL l k v a = fillL l k v' a
  | [], _, _, _, _, _ => rfl
  | o :: l, k, v, v', a, h => by
    simp only [fillL]
    rw [h k (Nat.le_refl _)]
    exact fillL_congr l (k + 1) v v' _ (fun i hi => h i (by omega))
theorem put_put (a : Act) (d : Option Tmp) (u v : Value) : (a.put d u).put d v = a.put d v := by
  cases d <;> simp [Act.put]
theorem fillL_put_far : ∀ (l : List Oper) (k : Nat) (v : Nat → Value) (a : Act) (d : Option Tmp) (u : Value), (∀ e, d = some e → ∀ o ∈ l, o.dst ≠ some e) → (fillL l k v a).put d u = fillL l k v (a.put d u)
  | [], _, _, _, _, _, _ => rfl
  | o :: l, k, v, a, d, u, h => by
    simp only [fillL]
    rw [fillL_put_far l (k + 1) v _ d u (fun e he o' ho' => h e he o' (List.mem_cons_of_mem _ ho'))]
    rw [Act.put_comm a (v k) u (x := o.dst) (y := d) (fun e he hd => h e hd o (List.mem_cons_self ..) he)]
def upd (v : Nat → Value) (i : Nat) (u : Value) : Nat → Value := fun j => if j = i then u else v j
theorem upd_same (v : Nat → Value) (i : Nat) (u : Value) : upd v i u i = u := by simp [upd]
theorem upd_ne (v : Nat → Value) {i j : Nat} (u : Value) (h : j ≠ i) : upd v i u j = v j := by simp [upd, h]
theorem fillL_put : ∀ (l : List Oper) (k : Nat) (v : Nat → Value) (a : Act) (i : Nat) (o : Oper) (u : Value), onceB l = true → l[i]? = some o → (fillL l k v a).put o.dst u = fillL l k (upd v (k + i) u) a
  | [], _, _, _, i, _, _, _, h => by simp at h
  | o' :: l, k, v, a, i, o, u, hb, h => by
    simp only [onceB, Bool.and_eq_true] at hb
    cases i with
    | zero =>
      simp at h; subst h
      simp only [fillL]
      rw [fillL_put_far l (k + 1) v _ o'.dst u (fun e he o2 ho2 hd => by
        have h1 := hb.1
        rw [he] at h1
        have := List.all_eq_true.1 h1 o2 ho2
        simp [hd] at this), put_put]
      simp only [Nat.add_zero, upd_same]
      exact fillL_congr l (k + 1) _ _ _ (fun j hj => (upd_ne v u (by omega)).symm)
    | succ i =>
      simp only [fillL]
      rw [fillL_put l (k + 1) v _ i o u hb.2 (by simpa using h), upd_ne v u (by omega), show k + 1 + i = k + (i + 1) by omega]
theorem fillL_start : ∀ (l : List Oper) (k : Nat) (a : Act), ∃ v, fillL l k v a = a
  | [], _, _ => ⟨fun _ => undef, rfl⟩
  | o :: l, k, a => by
    obtain ⟨v, hv⟩ := fillL_start l (k + 1) a
    have hp : ∃ u, a.put o.dst u = a := by
      cases o.dst with
      | none => exact ⟨undef, rfl⟩
      | some d => exact ⟨a.tmps.getD d undef, by
          obtain ⟨t, df⟩ := a
          simp only [Act.put, Act.mk.injEq, and_true]
          apply Array.ext
          · simp
          · intro i h1 h2
            rw [Array.getElem_setIfInBounds h2]
            split
            · rename_i h; subst h; simp [h2]
            · rfl⟩
    obtain ⟨u, hu⟩ := hp
    refine ⟨upd v k u, ?_⟩
    simp only [fillL, upd_same, hu]
    rw [fillL_congr l (k + 1) (upd v k u) v a (fun j hj => upd_ne v u (by omega))]
    exact hv

section
variable {P : Program} {l : List Oper} {Q : Exit → Act → World → Prop} {a : Act} {R : World → World → Prop} {I : Nat → World → Prop} {T : Nat → World → Value → Prop}

/-- What is asked of one operation. -/
def LawAt (P : Program) (l : List Oper) (a : Act) (R : World → World → Prop) (I : Nat → World → Prop) (T : Nat → World → Value → Prop) (i : Nat) (o : Oper) : Prop :=
  ∀ f v w1, I (f + 1) w1 → (∀ e ∈ o.after, Region.binds .any e = true → T e.on w1 (v e.on)) →
    if Region.wanted o (yielded l.toArray (fillL l 0 v a).tmps) then Gives P o (fillL l 0 v a) w1 (fun u w2 => R w1 w2 ∧ I f w2 ∧ T i w2 u) else I f w1 ∧ T i w1 undef

theorem laws_any (hB : lawsB l = true) (hT : ∀ i w1 w2 v, R w1 w2 → T i w1 v → T i w2 v) (hs : ∀ i o, l[i]? = some o → LawAt P l a R I T i o)
    (hq : ∀ f v w1, I f w1 → (∀ i, i < l.length → T i w1 (v i)) → Q .normal (fillL l 0 v a) w1) :
    ∀ (fuel : Nat) (listed : Array Bool) (v : Nat → Value) (w1 : World) (U : List Nat), listed.size = l.length → U.length ≤ fuel → (∀ i, listed.getD i true = false → i ∈ U) → I fuel w1 →
      (∀ i, i < l.length → listed.getD i true = true → T i w1 (v i)) → wpAny P .any l.toArray Q fuel listed (fillL l 0 v a) w1 := by
  simp only [lawsB, Bool.and_eq_true] at hB
  have back := back_spec hB.1
  intro fuel
  induction fuel with
  | zero =>
    intro listed v w1 U hsz hU hun hI hall
    have hU0 : U = [] := List.eq_nil_of_length_eq_zero (by omega)
    subst hU0
    have hno : ∀ i, listed.getD i true = true := fun i => by
      cases h : listed.getD i true
      · exact absurd (hun i h) (by simp)
      · rfl
    refine ⟨?_, hq _ _ _ hI (fun i hi => hall i hi (hno i))⟩
    rw [List.eq_nil_iff_forall_not_mem]
    intro i hi
    have := (mem_ready.1 hi).1
    rw [hno i] at this
    cases this
  | succ fuel ih =>
    intro listed v w1 U hsz hU hun hI hall
    have hd : ∀ i, i < l.length → listed.getD i false = listed.getD i true := fun i hi => by simp [hsz, hi]
    refine ⟨fun hr => ?_, fun i hi => ?_⟩
    · have hno : ∀ i, i < l.length → listed.getD i true = true := fun i => by
        induction i using Nat.strongRecOn with
        | ind i ih2 =>
          intro hi
          cases h : listed.getD i true
          · exfalso
            have hm : i ∈ Region.ready .any l.toArray listed := by
              refine mem_ready.2 ⟨h, l[i], by simp [hi], fun e he hbi => ?_⟩
              have he1 := back i l[i] (by simp [hi]) e he hbi
              have hlt : e.on < i := by omega
              rw [hd e.on (by omega)]
              exact ih2 e.on hlt (by omega)
            rw [hr] at hm
            cases hm
          · rfl
      exact hq _ _ _ hI (fun i hi => hall i hi (hno i hi))
    · obtain ⟨hun1, o, ho, hdeps⟩ := mem_ready.1 hi
      have hol : l[i]? = some o := by simpa using ho
      have hil : i < l.length := (List.getElem?_eq_some_iff.1 hol).1
      have hlaw := hs i o hol fuel v w1 hI (fun e he hb => by
        have h1 := hdeps e he hb
        have h2 := back i o hol e he hb
        rw [hd e.on (by omega)] at h1
        exact hall e.on (by omega) h1)
      have next : ∀ u w2, (∀ j, j ≠ i → j < l.length → listed.getD j true = true → T j w2 (v j)) → I fuel w2 → T i w2 u → wpAny P .any l.toArray Q fuel (listed.setIfInBounds i true) ((fillL l 0 v a).put o.dst u) w2 := by
        intro u w2 hst hI2 hTi
        rw [fillL_put l 0 v a i o u hB.2 hol, Nat.zero_add]
        refine ih (listed.setIfInBounds i true) (upd v i u) w2 (U.erase i) (by simp [hsz]) ?_ ?_ hI2 ?_
        · rw [List.length_erase_of_mem (hun i hun1)]; omega
        · intro j hj
          by_cases hji : j = i
          · subst hji
            have : (listed.setIfInBounds j true).getD j true = true := by simp [hsz, hil]
            rw [this] at hj; cases hj
          · rw [getD_set_ne true (Ne.symm hji)] at hj
            exact (List.mem_erase_of_ne hji).2 (hun j hj)
        · intro j hj hjl
          by_cases hji : j = i
          · subst hji; rw [upd_same]; exact hTi
          · rw [getD_set_ne true (Ne.symm hji)] at hjl
            rw [upd_ne v u hji]
            exact hst j hji hj hjl
      unfold wpOp
      rw [ho]
      show if Region.wanted o (yielded l.toArray (fillL l 0 v a).tmps) = true then _ else _
      split
      · rename_i hw
        rw [if_pos hw] at hlaw
        exact .inl (wp_of_gives hlaw fun u w2 ⟨hR, hI2, hTi⟩ => next u w2 (fun j _ hj hjl => hT j w1 w2 _ hR (hall j hj hjl)) hI2 hTi)
      · rename_i hw
        rw [if_neg hw] at hlaw
        exact next undef w1 (fun j _ hj hjl => hall j hj hjl) hlaw.1 hlaw.2

/-- Every operation keeps its law: so does the region, in whatever order. -/
theorem wp_region_laws {id : Nat} {w : World} (R : World → World → Prop) (I : Nat → World → Prop) (T : Nat → World → Value → Prop) (hm : P.follows .mixedOrders = true) (hB : lawsB l = true)
    (hT : ∀ i w1 w2 v, R w1 w2 → T i w1 v → T i w2 v) (hI : I l.length w.drew) (hs : ∀ i o, l[i]? = some o → LawAt P l a R I T i o)
    (hq : ∀ f v w1, I f w1 → (∀ i, i < l.length → T i w1 (v i)) → Q .normal (fillL l 0 v a) w1) : (Code.region id l.toArray true).wp P Q a w := by
  refine wp_region_any hm ?_
  obtain ⟨v, hv⟩ := fillL_start l 0 a
  have := laws_any (P := P) (Q := Q) hB hT hs hq l.length (Array.replicate l.length false) v w.drew (List.range l.length) (by simp) (by simp) (fun i hi => by
    rw [List.mem_range]
    rcases Nat.lt_or_ge i l.length with h | h
    · exact h
    · simp [Nat.not_lt.2 h] at hi) hI (fun i hi h => by simp [hi] at h)
  rw [hv] at this
  simpa using this

/-- The operations for which an operation waits. -/
def depsOf (o : Oper) : List Nat := (o.after.toList.filter (Region.binds .any)).map (·.on)

theorem gives_law {i : Nat} {o : Oper} (hg : o.guard = none) (h : ∀ f v w1, I (f + 1) w1 → (∀ k, List.elem k (depsOf o) = true → T k w1 (v k)) → Gives P o (fillL l 0 v a) w1 (fun u w2 => R w1 w2 ∧ I f w2 ∧ T i w2 u)) : LawAt P l a R I T i o := by
  intro f v w1 hI hd
  have hw : Region.wanted o (yielded l.toArray (fillL l 0 v a).tmps) = true := by simp [Region.wanted, hg]
  rw [if_pos hw]
  refine h f v w1 hI (fun k hk => ?_)
  have hk' : k ∈ depsOf o := by simpa using hk
  simp only [depsOf, List.mem_map, List.mem_filter] at hk'
  obtain ⟨e, ⟨he, hb⟩, rfl⟩ := hk'
  exact hd e (by simpa using he) hb

/-- The laws of all operations. -/
def LawsFrom (P : Program) (l : List Oper) (a : Act) (R : World → World → Prop) (I : Nat → World → Prop) (T : Nat → World → Value → Prop) : Nat → List Oper → Prop
  | _, [] => True
  | k, o :: rest => LawAt P l a R I T k o ∧ LawsFrom P l a R I T (k + 1) rest
theorem lawsFrom_nil {k : Nat} : LawsFrom P l a R I T k [] := trivial
theorem lawsFrom_cons {k : Nat} {o : Oper} {rest : List Oper} (hg : o.guard = none) (h : ∀ f v w1, I (f + 1) w1 → (∀ k, List.elem k (depsOf o) = true → T k w1 (v k)) → Kept (Gives P o (fillL l 0 v a) w1 (fun u w2 => R w1 w2 ∧ I f w2 ∧ T k w2 u)))
    (hs : LawsFrom P l a R I T (k + 1) rest) : LawsFrom P l a R I T k (o :: rest) := ⟨gives_law hg (fun f v w1 hI hd => (h f v w1 hI hd).out), hs⟩
theorem lawsFrom_at : ∀ {rest : List Oper} {k : Nat}, LawsFrom P l a R I T k rest → ∀ i o, rest[i]? = some o → LawAt P l a R I T (k + i) o
  | [], _, _, i, o, h => by simp at h
  | o' :: rest, k, h, 0, o, ho => by simp at ho; subst ho; exact h.1
  | o' :: rest, k, h, i + 1, o, ho => by
    have := lawsFrom_at h.2 i o (by simpa using ho)
    rwa [show k + 1 + i = k + (i + 1) by omega] at this

theorem wp_region_lawful {id : Nat} {w : World} (R : World → World → Prop) (I : Nat → World → Prop) (T : Nat → World → Value → Prop) (hm : P.follows .mixedOrders = true) (hB : lawsB l = true)
    (hT : ∀ i w1 w2 v, R w1 w2 → T i w1 v → T i w2 v) (hI : I l.length w.drew) (hs : LawsFrom P l a R I T 0 l)
    (hq : ∀ f v w1, I f w1 → (∀ i, i < l.length → T i w1 (v i)) → Kept (Q .normal (fillL l 0 v a) w1)) : (Code.region id l.toArray true).wp P Q a w :=
  wp_region_laws R I T hm hB hT hI (fun i o ho => by have := lawsFrom_at hs i o ho; rwa [Nat.zero_add] at this) (fun f v w1 hI hT => (hq f v w1 hI hT).out)
end
end Go.Proofs.Ytnmfppjjhbkfmaa
