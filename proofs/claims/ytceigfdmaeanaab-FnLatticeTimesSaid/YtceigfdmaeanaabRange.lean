/- A loop over a function that keeps state of its own in cells: a contract for the function, a law for the loop. -/
import Derived.RangeFuncNested
import Derived.RangeFuncBound
import Derived.RangeFuncCalls
import Derived.RangeFuncLeaves
import Derived.Test.YtceigfdmaeanaabOwn
namespace Go.Proofs.Ytceigfdmaeanaab
open Go.RowKit

/-- What lay from block m on lies as it lay. -/
structure StaysFrom (m : Nat) (A B : World) : Prop where
  size : A.heap.size ≤ B.heap.size
  same : ∀ k, m ≤ k → k < A.heap.size → B.heap[k]? = A.heap[k]?
theorem StaysFrom.refl (m : Nat) (A : World) : StaysFrom m A A := ⟨Nat.le_refl _, fun _ _ _ => rfl⟩
theorem StaysFrom.trans {m : Nat} {A B C : World} (h : StaysFrom m A B) (k : StaysFrom m B C) : StaysFrom m A C :=
  ⟨Nat.le_trans h.size k.size, fun i hi hl => (k.same i hi (Nat.lt_of_lt_of_le hl h.size)).trans (h.same i hi hl)⟩
theorem StaysFrom.mono {m m' : Nat} {A B : World} (h : StaysFrom m A B) (hm : m ≤ m') : StaysFrom m' A B := ⟨h.size, fun k hk hl => h.same k (Nat.le_trans hm hk) hl⟩
theorem StaysFrom.of_grown {m : Nat} {A B : World} {row : Option Nat} (hg : A.grownBy B row) (hr : ∀ r, row = some r → r < m) : StaysFrom m A B :=
  ⟨hg.size, fun k hk hl => hg.block k hl (fun e => by have := hr k e.symm; omega)⟩

/-- A word on worlds that no step on blocks from m on turns. -/
def StandsFrom {β : Type} (m : Nat) (J : β → World → Prop) : Prop := ∀ s A B row, J s A → A.grownBy B row → (∀ r, row = some r → m ≤ r) → J s B

/-- THE FUNCTION's CONTRACT: N rounds, the j-th at 'enc j'; between the rounds it turns its own blocks alone. -/
def GivesAll (P : Program) (g : Nat) (lb : Array Value) (enc : Nat → Array Value) (N : Nat) (w : World) : Prop :=
  ∀ (n l : Nat) (J : Nat → World → Prop) (W : World), Below w.heap.size w W → StandsFrom W.heap.size J →
    (∀ j X, j < N → J j X → YieldAt Fence.wide (n - 1) P l (enc j) X fun e X' => e = .returned (.bool true) ∧ J (j + 1) X' ∧ StaysFrom W.heap.size X X') →
    J 0 W → CallsIn Fence.wide n P g (#[.func (.yield l) #[] #[]] ++ lb) W fun e W' => (∃ v, e = .returned v) ∧ J N W'

/-- How a round's body ends. -/
def roundOut (m : Nat) (I : Nat → World → Prop) (j : Nat) (X : World) : Exit → Act → World → Prop
  | .normal, _, X' => StaysFrom m X X' ∧ I (j + 1) X'
  | _, _, _ => False

theorem grownBy_put (W : World) (l : Nat) (o : Obj) : W.grownBy (W.putObj l o) (some l) :=
  ⟨rfl, rfl, rfl, by simp, fun k _ hk => World.putObj_heap_other (fun e => hk (by rw [e]))⟩
theorem stays_put {m : Nat} (W : World) (l : Nat) (o : Obj) (h : l < m) : StaysFrom m W (W.putObj l o) := .of_grown (grownBy_put W l o) (fun r e => by injection e; omega)

/-- THE LAW OF THE LOOP, whose body is never left but at its end. -/
theorem wpIn_range_own {P : Program} {n : Nat} {g : Operand} {ps : Array Tmp} {assign body : Code} {Q : Exit → Act → World → Prop} {a : Act} {w : World} {gf : Nat} {lb : Array Value}
    (hg : a.eval g = .func (.func gf) #[] lb) (eg : ∀ args w, (callFunc gf args).run P w = .ok (.enter gf args) w)
    {enc : Nat → Array Value} {N : Nat} (hseq : GivesAll P gf lb enc N w) (hps : ∀ j, (enc j).size = ps.size)
    (I : Nat → World → Prop) (hI : StandsFrom w.heap.size I) (h0 : I 0 w)
    (Ax : Nat → Act → World → Prop) (hAx : ∀ j a' X l o o', Ax j a' X → X.heap[l]? = some o → o.isCells = false → Ax j a' (X.putObj l o'))
    (hassign : ∀ (l j : Nat) (X : World) (K : Act → World → Prop), w.heap.size ≤ X.heap.size → I j X → (∀ a' X', StaysFrom w.heap.size X X' → I j X' → Ax j a' X' → K a' X') →
      assign.wpIn (Fence.wide.inRound l) (n - 1 - 1) P (Exit.then K (fun _ _ _ => False)) { tmps := (ps.zip (enc j)).foldl (fun t (p, v) => t.setIfInBounds p v) a.tmps, defers := [] } X)
    (hbody : ∀ (l j : Nat) (a' : Act) (X : World), j < N → I j X → Ax j a' X → body.wpIn (Fence.wide.inRound l) (n - 1 - 1) P (roundOut w.heap.size I j X) a' X)
    (hdone : ∀ (D : Nat) (W : World), w.heap.size ≤ D → I N W → W.heap[D]? = some (.deferred (some [])) → Q .normal { a with defers := { target := .collected D, args := #[] } :: a.defers } W) :
    (Code.rangeFunc g ps assign body).wpIn Fence.wide n P Q a w := by
  refine wpIn_rangeFunc (fun fn _ => ?_)
  have hrun := run_enterLoop_outer (P := P) (w := w) fn a.tmps ps assign body
  have hnew := World.alloc_heap_new (w.alloc (.deferred (some []))) (.loop { state := .ready, pending := none, fn, tmps := a.tmps, params := ps, assign, body, defers := w.heap.size })
  have hold : ((w.alloc (.deferred (some []))).alloc (.loop { state := .ready, pending := none, fn, tmps := a.tmps, params := ps, assign, body, defers := w.heap.size })).heap[w.heap.size]? = some (.deferred (some [])) :=
    (Below.heap_alloc _ _ _ (by simp)).trans (World.alloc_heap_new w _)
  have hbel : Below w.heap.size w ((w.alloc (.deferred (some []))).alloc (.loop { state := .ready, pending := none, fn, tmps := a.tmps, params := ps, assign, body, defers := w.heap.size })) :=
    ((Below.refl _ w).alloc (Nat.le_refl _) _).alloc (by simp) _
  have hgr : w.grownBy ((w.alloc (.deferred (some []))).alloc (.loop { state := .ready, pending := none, fn, tmps := a.tmps, params := ps, assign, body, defers := w.heap.size })) none := grownBy_of_below hbel none
  have hsz : ((w.alloc (.deferred (some []))).alloc (.loop { state := .ready, pending := none, fn, tmps := a.tmps, params := ps, assign, body, defers := w.heap.size })).heap.size = w.heap.size + 2 := by simp
  rw [World.size_alloc] at hnew
  obtain ⟨rec, hrec⟩ : ∃ rec : Loop, ({ state := .ready, pending := none, fn, tmps := a.tmps, params := ps, assign, body, defers := w.heap.size } : Loop) = rec := ⟨_, rfl⟩
  rw [hrec] at hrun hnew hold hbel hgr hsz
  have e1 : rec.state = .ready := by rw [← hrec]
  have e2 : rec.pending = none := by rw [← hrec]
  have e3 : rec.fn = fn := by rw [← hrec]
  have e4 : rec.tmps = a.tmps := by rw [← hrec]
  have e5 : rec.params = ps := by rw [← hrec]
  have e6 : rec.assign = assign := by rw [← hrec]
  have e7 : rec.body = body := by rw [← hrec]
  clear hrec
  obtain ⟨W1, hW1⟩ : ∃ W1, (w.alloc (.deferred (some []))).alloc (.loop rec) = W1 := ⟨_, rfl⟩
  rw [hW1] at hrun hnew hold hbel hgr hsz
  clear hW1
  refine ⟨_, _, W1, { target := .fn (.func gf) lb, args := #[.func (.yield (w.heap.size + 1)) #[] #[]] }, W1, gf, #[.func (.yield (w.heap.size + 1)) #[] #[]] ++ lb, W1, hrun, ?_, fun _ _ => trivial, ?_, fun h => (by cases h), ?_⟩
  · simp only [resolve, hg]
    simp [go_sem]
  · simp [invoke, go_sem, eg]
  refine (hseq (n - 1) (w.heap.size + 1) (fun j W => I j W ∧ W.heap[w.heap.size + 1]? = some (.loop rec) ∧ W.heap[w.heap.size]? = some (.deferred (some []))) W1 hbel ?_ ?_ ⟨hI _ _ _ _ h0 hgr (fun r e => by cases e), hnew, hold⟩).mono ?_
  · rintro s A B row ⟨hi, hl, hk⟩ hg' hr
    have hA := (Array.getElem?_eq_some_iff.1 hl).1
    exact ⟨hI s A B row hi hg' (fun r e => by have := hr r e; omega), (hg'.block _ hA (fun e => by have := hr _ e.symm; omega)).trans hl, (hg'.block _ (by omega) (fun e => by have := hr _ e.symm; omega)).trans hk⟩
  · rintro j X hj ⟨hi, hl, hk⟩
    have hX := (Array.getElem?_eq_some_iff.1 hl).1
    have hy := run_yield (P := P) (args := enc j) hl (by rw [e5]; exact hps j)
    rw [e3, e4, e5, e6, e7] at hy
    refine ⟨fn, _, assign, body, hy, roundIn_of_wpIn trivial (hassign _ j X _ (by omega) hi (fun a' X' st hi' hax => ?_))⟩
    have hl' := (st.same _ (by omega) hX).trans hl
    have hk' := (st.same _ (by omega) (by omega)).trans hk
    have hX' := (Array.getElem?_eq_some_iff.1 hl').1
    refine ⟨_, run_beginRound hl' e1, wpIn_mono (hbody _ j a' _ hj (hI _ _ _ _ hi' (grownBy_put X' _ _) (fun r e => by injection e; omega)) (hAx _ _ _ _ _ _ hax hl' rfl)) ?_⟩
    intro ex a3 X3 hp
    cases ex with
    | normal =>
      obtain ⟨st3, hi3⟩ := hp
      have hs3 := st3.size
      rw [World.putObj_size] at hs3
      have hl3 := (st3.same _ (by omega) (by rw [World.putObj_size]; exact hX')).trans (World.putObj_heap_same hX')
      have hk3 := (st3.same _ (by omega) (by rw [World.putObj_size]; omega)).trans ((World.putObj_heap_other (by omega)).trans hk')
      have hX3 := (Array.getElem?_eq_some_iff.1 hl3).1
      refine ⟨_, _, run_endRound none hl3, rfl, ⟨hI _ _ _ _ hi3 (grownBy_put X3 _ _) (fun r e => by injection e; omega), ?_, (World.putObj_heap_other (by omega)).trans hk3⟩, ?_⟩
      · rw [World.putObj_heap_same hX3]
        congr 1
        congr 1
        cases rec
        simp at e1 e2
        subst e1
        subst e2
        rfl
      · refine ((st.mono (by omega)).trans (stays_put X' _ _ (by omega))).trans ((st3.mono (by omega)).trans (stays_put X3 _ _ (by omega)))
    | ret => exact hp.elim
    | exit id => exact hp.elim
    | goto t => exact hp.elim
    | panic ch => exact hp.elim
    | outgrown => exact hp.elim
  · rintro e W2 ⟨⟨v, rfl⟩, hi, hl, hk⟩
    have h := run_endLoop (P := P) hl (by rw [e1]; intro h; cases h)
    rw [e2] at h
    exact ⟨none, _, h, hdone _ _ (Nat.le_refl _) (hI _ _ _ _ hi (grownBy_put W2 _ _) (fun r e => by injection e; omega)) ((World.putObj_heap_other (by omega)).trans hk)⟩
end Go.Proofs.Ytceigfdmaeanaab
