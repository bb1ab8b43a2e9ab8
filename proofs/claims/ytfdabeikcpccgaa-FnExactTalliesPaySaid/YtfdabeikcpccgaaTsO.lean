/- Rows of tallies that a call makes; toTallyS and eqTallyS. -/
import Derived.Test.YtfdabeikcpccgaaTs
namespace Go.Proofs.Ytfdabeikcpccgaa
open Go.RowKit

def Tl.cells (t : Tl) : List Value := [.int .i64 t.d, .int .i64 t.c, .string t.s, .string t.f]
def tcells : List Tl → List Value
  | [] => []
  | t :: ts => t.cells ++ tcells ts
def tzero : Tl := ⟨0, 0, ⟨#[]⟩, ⟨#[]⟩⟩

theorem tcells_len : ∀ ts : List Tl, (tcells ts).length = ts.length * 4
  | [] => rfl
  | t :: ts => by rw [tcells, List.length_append, tcells_len ts]; simp [Tl.cells]; omega
theorem tcells_app : ∀ a b : List Tl, tcells (a ++ b) = tcells a ++ tcells b
  | [], b => rfl
  | t :: a, b => by rw [List.cons_append, tcells, tcells, tcells_app a b, List.append_assoc]
theorem tcells_get : ∀ (ts : List Tl) (j i : Nat) (t : Tl), ts[j]? = some t → i < 4 → (tcells ts)[j * 4 + i]? = t.cells[i]?
  | [], j, i, t, h, _ => by simp at h
  | u :: ts, 0, i, t, h, hi => by
    simp at h
    subst h
    rw [tcells, List.getElem?_append_left (by simp [Tl.cells]; omega)]
    simp
  | u :: ts, j + 1, i, t, h, hi => by
    rw [tcells, List.getElem?_append_right (by simp [Tl.cells]; omega)]
    have := tcells_get ts j i t (by simpa using h) hi
    rw [← this]
    congr 1
    simp [Tl.cells]
    omega
theorem tcells_set : ∀ (ts : List Tl) (j : Nat) (t : Tl), j < ts.length → ((((tcells ts).set (j * 4) (.int .i64 t.d)).set (j * 4 + 1) (.int .i64 t.c)).set (j * 4 + 2) (.string t.s)).set (j * 4 + 3) (.string t.f) = tcells (ts.set j t)
  | [], j, t, h => by simp at h
  | u :: ts, 0, t, _ => by simp [tcells, Tl.cells]
  | u :: ts, j + 1, t, h => by
    have := tcells_set ts j t (by simpa using h)
    simp only [tcells, List.set_cons_succ] at this ⊢
    rw [← this]
    have e : ∀ (l : List Value) (i : Nat) (v : Value), (u.cells ++ l).set ((j + 1) * 4 + i) v = u.cells ++ l.set (j * 4 + i) v := by
      intro l i v
      rw [List.set_append_right _ _ (by simp [Tl.cells]; omega)]
      congr 2
      simp [Tl.cells]
      omega
    have e0 := e (tcells ts) 0 (.int .i64 t.d)
    simp only [Nat.add_zero] at e0
    rw [e0, e, e, e]

/-- The slice owns its row of tallies, in a block from base on. -/
def TSl (w : World) (base : Nat) (A : Option Addr) (c : Nat) (ts : List Tl) : Prop :=
  w.ownsRow base 28 4 (.slice A ts.length c) ts.length (tcells ts)
section
variable {w w' : World} {base B : Nat} {A : Option Addr} {c : Nat} {ts : List Tl}
theorem TSl.form (h : TSl w base A c ts) : (A = none ∧ c = 0 ∧ ts = []) ∨ ∃ g, A = some ⟨g, 0, none⟩ ∧ base ≤ g ∧ g < w.heap.size ∧ ts.length ≤ c ∧ c ≤ maxLen := by
  rcases h.2 with ⟨hv, hn⟩ | ⟨g, cap, cur, hv, hb, hg, hnc, hcm, _⟩
  · injection hv with h1 h2 h3
    exact .inl ⟨h1, h3, List.eq_nil_of_length_eq_zero hn⟩
  · injection hv with h1 h2 h3
    subst h3
    exact .inr ⟨g, h1, hb, (Array.getElem?_eq_some_iff.1 hg).1, hnc, hcm⟩
theorem TSl.rd (h : TSl w base A c ts) : TRd w A ts := fun hn => by
  rcases h.form with ⟨_, _, rfl⟩ | ⟨g, rfl, _, hg, _⟩
  · exact (hn rfl).elim
  · refine ⟨g, 0, rfl, hg, fun j t ht => ?_⟩
    have hj := (List.getElem?_eq_some_iff.1 ht).1
    have e : ∀ i, i < 4 → w.cell? ⟨g, 0 + j * 4 + i, none⟩ = t.cells[i]? := fun i hi => by
      rw [Nat.zero_add, World.ownsRow.cellAt h _ (by omega), tcells_get ts j i t ht hi]
    exact ⟨e 0 (by omega), e 1 (by omega), e 2 (by omega), e 3 (by omega)⟩
theorem TSl.grown (h : TSl w base A c ts) {row : Option Nat} (hg : w.grownBy w' row) (hne : blk A = none ∨ blk A ≠ row) : TSl w' base A c ts :=
  World.ownsRow.kept h hg (by rw [ownBlock_blk]; exact hne)
theorem TSl.below (h : TSl w base A c ts) (hb : Below w.heap.size w w') : TSl w' base A c ts :=
  World.ownsRow.kept h (row := none) (grownBy_of_below hb none) (by rw [ownBlock_blk]; rcases hA : blk A with _ | k <;> simp)
theorem TSl.at0 {g : Nat} (h : TSl w base (some ⟨g, 0, none⟩) c ts) {k : Nat} (hk : k < ts.length) : ∃ u, ts[k]? = some u ∧ TAt w g (k * 4) u := by
  have hn : ts ≠ [] := by rintro rfl; simp at hk
  obtain ⟨b, off, hA, _, hc⟩ := h.rd hn
  injection hA with hA
  injection hA with h1 h2
  subst h1 h2
  have := hc k _ (List.getElem?_eq_getElem hk)
  rw [Nat.zero_add] at this
  exact ⟨_, List.getElem?_eq_getElem hk, this⟩
theorem TSl.free {g : Nat} (h : TSl w base (some ⟨g, 0, none⟩) c ts) (j : Nat) : w.frozen? ⟨g, j, none⟩ = false := World.ownsRow.frozenAt h j
theorem TSl.set_ {g : Nat} (h : TSl w base (some ⟨g, 0, none⟩) c ts) (k : Nat) (t : Tl) (hk : k < ts.length) :
    TSl ((((w.setCell ⟨g, k * 4, none⟩ (.int .i64 t.d)).setCell ⟨g, k * 4 + 1, none⟩ (.int .i64 t.c)).setCell ⟨g, k * 4 + 2, none⟩ (.string t.s)).setCell ⟨g, k * 4 + 3, none⟩ (.string t.f)) base (some ⟨g, 0, none⟩) c (ts.set k t) := by
  have := (World.ownsRow.stored (World.ownsRow.stored (World.ownsRow.stored (World.ownsRow.stored h (k * 4) (.int .i64 t.d)).1 (k * 4 + 1) (.int .i64 t.c)).1 (k * 4 + 2) (.string t.s)).1 (k * 4 + 3) (.string t.f)).1
  unfold TSl
  rw [List.length_set, ← tcells_set ts k t hk]
  exact this
end

theorem tally_info : (Try.prog.info? 28).map (fun i => (i.zero, i.size, i.bytes)) = some (some (.agg #[.int .i64 0, .int .i64 0, .string ⟨#[]⟩, .string ⟨#[]⟩]), 4, 48) := by kernel_rfl

theorem made_tallies (n : Nat) : (madeCells (Value.agg #[.int .i64 0, .int .i64 0, .string ⟨#[]⟩, .string ⟨#[]⟩]).cells (n * 4)).toList = tcells (List.replicate n tzero) := by
  apply List.ext_getElem?
  intro i
  rcases Nat.lt_or_ge i (n * 4) with hi | hi
  · have e : i = (i / 4) * 4 + i % 4 := by omega
    have hj : (List.replicate n tzero)[i / 4]? = some tzero := by
      rw [List.getElem?_replicate, if_pos (by omega)]
    rw [show (tcells (List.replicate n tzero))[i]? = tzero.cells[i % 4]? by rw [e, tcells_get _ _ _ _ hj (by omega)]; congr 1; omega]
    have h4 : i % 4 < 4 := by omega
    simp only [madeCells, Value.cells, Array.toList_map, List.getElem?_map, Array.toList_range, List.getElem?_range hi, Option.map_some]
    generalize hm : i % 4 = m at h4
    rcases (show m = 0 ∨ m = 1 ∨ m = 2 ∨ m = 3 by omega) with rfl | rfl | rfl | rfl <;> rfl
  · rw [List.getElem?_eq_none (by simp [size_madeCells]; omega), List.getElem?_eq_none (by rw [tcells_len]; simp; omega)]

/-- make([]impl.Tally, n) -/
theorem wp_mkT {ops : Array Oper} {rest : List Oper} {o : Oper} {a : Act} {Q : Exit → Act → World → Prop} (l x : Operand) (hgd : o.guard = none)
    (ho : o.op = Op.makeSlice 35 l x) (w : World) (base n : Nat) (hl : a.eval l = .int .i64 (n : Int)) (hx : a.eval x = .int .i64 (n : Int)) (hn : n ≤ 1048576) (hbase : base ≤ w.heap.size)
    (h : ∀ w', TSl w' base (some ⟨w.heap.size, 0, none⟩) n (List.replicate n tzero) → w.grownBy w' none → wpList Try.prog ops Q rest (a.put o.dst (.slice (some ⟨w.heap.size, 0, none⟩) n n)) w') :
    wpList Try.prog ops Q (o :: rest) a w := by
  obtain ⟨i, hi, hz0, hz1, hz2⟩ := info_parts tally_info
  refine wpList_make_full w hgd l x 35 ho base 28 i (.agg #[.int .i64 0, .int .i64 0, .string ⟨#[]⟩, .string ⟨#[]⟩]) 4 Try.underlying35 hi hz0 hz1 .i64 .i64 n n n hl hx rfl rfl (by rw [hz2]; omega) (by simp only [maxLen]; omega) hbase
    (fun w' h1 h2 => h w' ?_ h2)
  unfold TSl
  rw [made_tallies] at h1
  simpa using h1
end Go.Proofs.Ytfdabeikcpccgaa
