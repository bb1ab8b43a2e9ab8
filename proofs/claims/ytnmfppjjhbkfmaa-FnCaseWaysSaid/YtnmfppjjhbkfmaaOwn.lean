/- A slice of integers that the call itself has made: its words, and the law of an append of one number. -/
import Derived.Test.YtnmfppjjhbkfmaaSl
import Derived.Maps.AppendAt
import Derived.Laws.AppendOwnNone
import Derived.Laws.CopyOwn
namespace Go.Proofs.Ytnmfppjjhbkfmaa
open Go.RowKit

theorem int_info : (Try.prog.info? 3).map (fun i => (i.zero, i.size, i.bytes)) = some (some (.int .i64 0), 1, 8) := by kernel_rfl

/-- The slice .slice A zs.length c owns its row, in a block from base on, and reads as zs. -/
def Sl (w : World) (base : Nat) (A : Option Addr) (c : Nat) (zs : List Int) : Prop :=
  w.ownsRow base 3 1 (.slice A zs.length c) zs.length (zs.map (Value.int .i64))

/-- The block of an address. -/
def blk (A : Option Addr) : Option Nat := A.map (·.block)
theorem ownBlock_blk (A : Option Addr) (n c : Nat) : (Value.slice A n c).ownBlock = blk A := by cases A <;> rfl

section
variable {w w' : World} {base B : Nat} {A : Option Addr} {c : Nat} {zs : List Int}
theorem Sl.nil_ (w : World) (base : Nat) : Sl w base none 0 [] := World.ownsRow_nil _ _ _ _
theorem Sl.form (h : Sl w base A c zs) : (A = none ∧ c = 0 ∧ zs = []) ∨ ∃ g, A = some ⟨g, 0, none⟩ ∧ base ≤ g ∧ g < w.heap.size ∧ zs.length ≤ c ∧ c ≤ maxLen := by
  rcases h.2 with ⟨hv, hn⟩ | ⟨g, cap, cur, hv, hb, hg, hnc, hcm, _⟩
  · injection hv with h1 h2 h3
    exact .inl ⟨h1, h3, List.eq_nil_of_length_eq_zero hn⟩
  · injection hv with h1 h2 h3
    subst h3
    exact .inr ⟨g, h1, hb, (Array.getElem?_eq_some_iff.1 hg).1, hnc, hcm⟩
theorem Sl.lt (h : Sl w base A c zs) : ∀ k, blk A = some k → base ≤ k ∧ k < w.heap.size := by
  intro k hk
  exact World.ownsRow.lt h k (by rw [ownBlock_blk]; exact hk)
theorem Sl.addr (h : Sl w base A c zs) (hn : zs ≠ []) : ∃ g, A = some ⟨g, 0, none⟩ ∧ base ≤ g ∧ g < w.heap.size := by
  rcases h.form with ⟨_, _, h0⟩ | ⟨g, h1, h2, h3, _⟩
  · exact absurd h0 hn
  · exact ⟨g, h1, h2, h3⟩
theorem Sl.cell {g : Nat} (h : Sl w base (some ⟨g, 0, none⟩) c zs) {j : Nat} (hj : j < zs.length) : w.cell? ⟨g, j, none⟩ = some (.int .i64 (nth zs j)) := by
  rw [World.ownsRow.cellAt h j (by omega), List.getElem?_map, nth_lt hj]; rfl
theorem Sl.free {g : Nat} (h : Sl w base (some ⟨g, 0, none⟩) c zs) (j : Nat) : w.frozen? ⟨g, j, none⟩ = false := World.ownsRow.frozenAt h j
theorem Sl.rd (h : Sl w base A c zs) : Rd .i64 w A zs := fun hn => by
  obtain ⟨g, rfl, _, _⟩ := h.addr hn
  exact ⟨g, 0, rfl, fun j hj => by rw [Nat.zero_add]; exact h.cell hj⟩
theorem Sl.grown (h : Sl w base A c zs) {row : Option Nat} (hg : w.grownBy w' row) (hne : blk A = none ∨ blk A ≠ row) : Sl w' base A c zs :=
  World.ownsRow.kept h hg (by rw [ownBlock_blk]; exact hne)
theorem Sl.below (h : Sl w base A c zs) (hb : Below w.heap.size w w') : Sl w' base A c zs :=
  h.grown (row := none) ⟨hb.os, hb.tape, hb.output, hb.size, fun k hk _ => hb.block k hk⟩ (by cases hv : blk A <;> simp)
theorem Sl.alloc (h : Sl w base A c zs) (o : Obj) : Sl (w.alloc o) base A c zs := World.ownsRow.alloc h o
theorem Sl.drew (h : Sl w base A c zs) : Sl w.drew base A c zs := h
theorem Sl.drewN (h : Sl w base A c zs) (n : Nat) : Sl (w.drewN n) base A c zs := h
theorem Sl.down (h : Sl w base A c zs) (hB : B ≤ base) : Sl w B A c zs := by
  refine ⟨h.1, ?_⟩
  rcases h.2 with h' | ⟨g, cap, cur, hv, hb, r⟩
  · exact .inl h'
  · exact .inr ⟨g, cap, cur, hv, Nat.le_trans hB hb, r⟩
theorem Sl.le (h : Sl w base A c zs) : zs.length ≤ c := by
  rcases h.form with ⟨_, _, rfl⟩ | ⟨g, h1, h2, h3, h4, h5⟩
  · simp
  · exact h4
theorem Sl.cap (h : Sl w base A c zs) : c ≤ maxLen := by
  rcases h.form with ⟨_, rfl, rfl⟩ | ⟨g, h1, h2, h3, h4, h5⟩
  · simp [maxLen]
  · exact h5
theorem Sl.came (h : Sl w base A c zs) (hw : ∀ z ∈ zs, (Lit.int .i64 z).wf = true) : Came .i64 w A c zs := ⟨h.le, h.cap, h.rd, hw⟩
theorem Sl.set_ {g : Nat} (h : Sl w base (some ⟨g, 0, none⟩) c zs) (j : Nat) (z : Int) : Sl (w.setCell ⟨g, j, none⟩ (.int .i64 z)) base (some ⟨g, 0, none⟩) c (zs.set j z) := by
  have := (World.ownsRow.stored h j (.int .i64 z)).1
  unfold Sl
  rw [List.length_set, List.map_set]
  exact this
theorem Sl.lit (w : World) (base : Nat) (hb : base ≤ w.heap.size) (zs : List Int) (cs : Array Value) (hcs : cs = (zs.map (Value.int .i64)).toArray) (hl : zs.length ≤ 4194304) :
    Sl (w.alloc (.cells cs 3)) base (some ⟨w.heap.size, 0, none⟩) zs.length zs := by
  subst hcs
  have := World.ownsRow_lit (base := base) (e := 3) (size := 1) w (zs.map (Value.int .i64)).toArray zs.length hb (by simp only [maxLen]; omega) (by simp)
  simpa [Sl] using this
end

theorem Sl.apart {w w1 : World} {B : Nat} {A A1 : Option Addr} {c c1 : Nat} {zs ys : List Int} (h : Sl w B A c zs) (h1 : Sl w1 w.heap.size A1 c1 ys) : blk A = none ∨ blk A ≠ blk A1 := by
  rcases hA : blk A with _ | k
  · exact .inl rfl
  · refine .inr fun e => ?_
    have := h.lt k hA
    have := h1.lt k e.symm
    omega

theorem Sl.apart_r {w w1 : World} {B : Nat} {A A1 : Option Addr} {c c1 : Nat} {zs ys : List Int} (h : Sl w B A c zs) (h1 : Sl w1 w.heap.size A1 c1 ys) : blk A1 = none ∨ blk A1 ≠ blk A := by
  rcases hA : blk A1 with _ | k
  · exact .inl rfl
  · refine .inr fun e => ?_
    have := h.lt k e.symm
    have := h1.lt k hA
    omega

theorem grownBy_set (w : World) (g j : Nat) (u : Value) : w.grownBy (w.setCell ⟨g, j, none⟩ u) (some g) :=
  ⟨rfl, rfl, rfl, by simp [World.setCell], fun k _ hne => Below.heap_setCell w _ u k (fun e => hne (by rw [e]))⟩
theorem grownBy_trans {a b c : World} {row : Option Nat} (h : a.grownBy b row) (k : b.grownBy c row) : a.grownBy c row :=
  ⟨k.os.trans h.os, k.tape.trans h.tape, k.output.trans h.output, Nat.le_trans h.size k.size, fun i hi hne => (k.block i (Nat.lt_of_lt_of_le hi h.size) hne).trans (h.block i hi hne)⟩
theorem grownBy_of_below {a b : World} (h : Below a.heap.size a b) (row : Option Nat) : a.grownBy b row := ⟨h.os, h.tape, h.output, h.size, fun i hi _ => h.block i hi⟩
theorem _root_.Go.RowKit.Below.drewN {B : Nat} {a w : World} (h : Below B a w) (n : Nat) : Below B a (w.drewN n) := ⟨h.os, h.tape, h.output, h.size, h.block⟩
theorem grownBy_drewN {a b : World} {row : Option Nat} (h : a.grownBy b row) (n : Nat) : a.grownBy (b.drewN n) row := ⟨h.os, h.tape, h.output, h.size, h.block⟩
theorem below_of_grown {w w' : World} {row : Option Nat} {B : Nat} (hg : w.grownBy w' row) (hB : B ≤ w.heap.size) (hr : ∀ k, row = some k → B ≤ k) : Below B w w' := (Below.refl B w).grown hg hB hr

/-- append(out, x) of one integer onto a slice of the call's own: the number lies in a new block of one cell already. -/
theorem wp_ap1 {ops : Array Oper} {rest : List Oper} {o : Oper} {a : Act} {Q : Exit → Act → World → Prop} (s x : Operand) (hgd : o.guard = none)
    (ho : o.op = .call { callee := .builtin .append, args := #[s, x], argTypes := #[24, 24] }) (w : World) (base : Nat) (A : Option Addr) (c : Nat) (zs : List Int) (z : Int)
    (hs : a.eval s = .slice A zs.length c) (hx : a.eval x = .slice (some ⟨w.heap.size, 0, none⟩) 1 1) (hown : Sl w base A c zs) (hlen : zs.length ≤ 4194304) (hbase : base ≤ w.heap.size)
    (h : ∀ A' c' w', Sl w' base A' c' (zs ++ [z]) → w.grownBy w' (blk A) → (blk A' = blk A ∨ ∃ g, blk A' = some g ∧ w.heap.size ≤ g) → wpList Try.prog ops Q rest (a.put o.dst (.slice A' (zs ++ [z]).length c')) w') :
    wpList Try.prog ops Q (o :: rest) a (w.alloc (.cells #[.int .i64 z] 3)) := by
  obtain ⟨i, hi, hz0, hz1, hz2⟩ := info_parts int_info
  refine wpList_append_own_at (w.alloc (.cells #[.int .i64 z] 3)) hgd s x 24 ho base 3 i (.int .i64 0) 1 8 Try.underlying24 hi hz0 hz1 hz2 rfl (by decide) _ zs.length (zs.map (Value.int .i64)) hs (World.ownsRow.alloc hown _)
    ⟨w.heap.size, 0, none⟩ 1 1 [.int .i64 z] hx rfl ?_ ?_ (by simp only [maxLen]; omega) (by omega) (by simp; omega) ?_
  · intro j u hj
    match j, hj with
    | 0, hj => simp at hj; subst hj; simp [Addr.add]
  · intro u hu; simp at hu; subst hu; rfl
  · intro v' w' hown' hg _ hat
    rw [ownBlock_blk] at hg hat
    have hf : ∃ A' c', v' = .slice A' (zs ++ [z]).length c' := by
      rcases hown'.2 with ⟨_, h0⟩ | ⟨g, cap, cur, hv, _⟩
      · omega
      · exact ⟨some ⟨g, 0, none⟩, cap, by rw [hv]; simp⟩
    obtain ⟨A', c', rfl⟩ := hf
    rw [ownBlock_blk] at hat
    refine h A' c' w' ?_ ?_ ?_
    · unfold Sl
      simpa using hown'
    · exact ⟨hg.os, hg.tape, hg.output, Nat.le_trans (by simp) hg.size, fun k hk hne => (hg.block k (by simp; omega) hne).trans (Below.heap_alloc w _ k hk)⟩
    · rcases hat with h1 | h1
      · exact .inl h1
      · exact .inr ⟨_, h1, by simp⟩

/-- make([]int, 0, n) -/
theorem wp_mk0 {ops : Array Oper} {rest : List Oper} {o : Oper} {a : Act} {Q : Exit → Act → World → Prop} (l x : Operand) (hgd : o.guard = none)
    (ho : o.op = Op.makeSlice 24 l x) (w : World) (base n : Nat) (hl : a.eval l = .int .i64 0) (hx : a.eval x = .int .i64 (n : Int)) (hn : n ≤ 4194304) (hbase : base ≤ w.heap.size)
    (h : ∀ A' w', Sl w' base A' n [] → w.grownBy w' none → wpList Try.prog ops Q rest (a.put o.dst (.slice A' 0 n)) w') :
    wpList Try.prog ops Q (o :: rest) a w := by
  obtain ⟨i, hi, hz0, hz1, hz2⟩ := info_parts int_info
  exact wpList_make_own w hgd l x 24 ho base 3 i (.int .i64 0) 1 Try.underlying24 hi hz0 hz1 .i64 .i64 n n hl hx rfl (by rw [hz2]; omega) (by simp only [maxLen]; omega) hbase
    (fun w' h1 h2 => h _ w' h1 h2)

/-- make([]int, n) -/
theorem wp_mkN {ops : Array Oper} {rest : List Oper} {o : Oper} {a : Act} {Q : Exit → Act → World → Prop} (l x : Operand) (hgd : o.guard = none)
    (ho : o.op = Op.makeSlice 24 l x) (w : World) (base n : Nat) (hl : a.eval l = .int .i64 (n : Int)) (hx : a.eval x = .int .i64 (n : Int)) (hn : n ≤ 4194304) (hbase : base ≤ w.heap.size)
    (h : ∀ w', Sl w' base (some ⟨w.heap.size, 0, none⟩) n (List.replicate n 0) → w.grownBy w' none → wpList Try.prog ops Q rest (a.put o.dst (.slice (some ⟨w.heap.size, 0, none⟩) n n)) w') :
    wpList Try.prog ops Q (o :: rest) a w := by
  obtain ⟨i, hi, hz0, hz1, hz2⟩ := info_parts int_info
  refine wpList_make_full w hgd l x 24 ho base 3 i (.int .i64 0) 1 Try.underlying24 hi hz0 hz1 .i64 .i64 n n n hl hx rfl rfl (by rw [hz2]; omega) (by simp only [maxLen]; omega) hbase
    (fun w' h1 h2 => h w' ?_ h2)
  unfold Sl
  have e : (madeCells (Value.int .i64 0).cells (n * 1)).toList = (List.replicate n (0 : Int)).map (Value.int .i64) := by
    simp only [madeCells, Value.cells, Nat.mul_one, List.map_replicate]
    rw [List.eq_replicate_iff]
    refine ⟨by simp, fun b hb => ?_⟩
    simp [Nat.mod_one] at hb
    exact hb.2.symm
  rw [e] at h1
  simpa using h1

/-- append(out, src...) onto a slice of the call's own, from a slice that reads as ys. -/
theorem wp_apS {ops : Array Oper} {rest : List Oper} {o : Oper} {a : Act} {Q : Exit → Act → World → Prop} (s x : Operand) (hgd : o.guard = none)
    (ho : o.op = .call { callee := .builtin .append, args := #[s, x], argTypes := #[24, 24] }) (w : World) (base : Nat) (A B : Option Addr) (c d : Nat) (zs ys : List Int)
    (hs : a.eval s = .slice A zs.length c) (hx : a.eval x = .slice B ys.length d) (hown : Sl w base A c zs) (hr : Rd .i64 w B ys) (hB : B = none → d = 0) (hlen : zs.length + ys.length ≤ 4194304) (hbase : base ≤ w.heap.size)
    (h : ∀ A' c' w', Sl w' base A' c' (zs ++ ys) → w.grownBy w' (blk A) → (blk A' = blk A ∨ ∃ g, blk A' = some g ∧ w.heap.size ≤ g) → wpList Try.prog ops Q rest (a.put o.dst (.slice A' (zs ++ ys).length c')) w') :
    wpList Try.prog ops Q (o :: rest) a w := by
  obtain ⟨i, hi, hz0, hz1, hz2⟩ := info_parts int_info
  match B, hx, hr, hB with
  | none, hx, hr, hB =>
    have h0 : ys = [] := by
      rcases List.eq_nil_or_concat ys with h0 | ⟨l, x, h0⟩
      · exact h0
      · obtain ⟨b, off, hA, _⟩ := hr (by rw [h0]; simp)
        cases hA
    subst h0
    obtain rfl := hB rfl
    refine wpList_append_own_none hgd s x 24 ho base 3 i 1 Try.underlying24 hi _ zs.length (zs.map (Value.int .i64)) hs hown hx ?_
    have := h A c w (by simpa using hown) (World.grownBy.refl _ _) (.inl rfl)
    simpa using this
  | some ad, hx, hr, _ =>
    refine wpList_append_own_at w hgd s x 24 ho base 3 i (.int .i64 0) 1 8 Try.underlying24 hi hz0 hz1 hz2 rfl (by decide) _ zs.length (zs.map (Value.int .i64)) hs hown
      ad ys.length d (ys.map (Value.int .i64)) hx (by simp) ?_ ?_ (by simp only [maxLen]; omega) (by omega) hbase ?_
    · intro j u hj
      rw [List.getElem?_map] at hj
      have hjl : j < ys.length := by
        rcases Nat.lt_or_ge j ys.length with h1 | h1
        · exact h1
        · rw [List.getElem?_eq_none h1] at hj; simp at hj
      rw [nth_lt hjl] at hj
      simp at hj
      subst hj
      obtain ⟨b, off, hA, hc⟩ := hr (by intro h0; subst h0; simp at hjl)
      injection hA with hA
      subst hA
      have := hc j hjl
      have ha : (⟨b, off, none⟩ : Addr).add j = ⟨b, off + j, none⟩ := by
        unfold Addr.add; split <;> simp_all
      rw [ha]; exact this
    · intro u hu
      simp at hu
      obtain ⟨z, _, rfl⟩ := hu
      rfl
    · intro v' w' hown' hg hn hat
      rw [ownBlock_blk] at hg hat
      have hf : ∃ A' c', v' = .slice A' (zs ++ ys).length c' := by
        rcases hown'.2 with ⟨hv, h0⟩ | ⟨g, cap, cur, hv, _⟩
        · exact ⟨none, 0, by rw [hv]; simp; omega⟩
        · exact ⟨some ⟨g, 0, none⟩, cap, by rw [hv]; simp⟩
      obtain ⟨A', c', rfl⟩ := hf
      rw [ownBlock_blk] at hat
      refine h A' c' w' ?_ hg ?_
      · unfold Sl
        simpa using hown'
      · rcases hat with h1 | h1
        · exact .inl h1
        · exact .inr ⟨_, h1, Nat.le_refl _⟩

/-- copy(out, src) over all of a slice of the call's own. -/
theorem wp_copyS {ops : Array Oper} {rest : List Oper} {o : Oper} {a : Act} {Q : Exit → Act → World → Prop} (d x : Operand) (hgd : o.guard = none)
    (ho : o.op = .call { callee := .builtin .copy, args := #[d, x], argTypes := #[24, 24] }) (w : World) (base g n c e : Nat) (B : Option Addr) (zs ys : List Int)
    (hd : a.eval d = .slice (some ⟨g, 0, none⟩) n c) (hx : a.eval x = .slice B ys.length e) (hlz : zs.length = n) (hown : Sl w base (some ⟨g, 0, none⟩) c zs) (hr : Rd .i64 w B ys) (hlen : ys.length = zs.length)
    (h : ∀ w', Sl w' base (some ⟨g, 0, none⟩) c ys → Below base w w' → wpList Try.prog ops Q rest (a.put o.dst (goInt ys.length)) w') :
    wpList Try.prog ops Q (o :: rest) a w := by
  subst hlz
  have hsz : (Try.prog.info? 3).map (·.size) = some 1 := by
    obtain ⟨i, hi, _, hz1, _⟩ := info_parts int_info
    rw [hi]; simp [hz1]
  rcases hown.2 with ⟨hv, _⟩ | ⟨g', cap, cur, hv, hb, hg, hnc, hcm, hcs, htk⟩
  · cases hv
  · injection hv with h1 h2 h3
    injection h1 with h1
    injection h1 with h1
    subst h1 h3
    have hcl : cur.toList.length = c := by simp [hcs]
    refine wpList_copy_splice hgd d x 24 24 ho 3 Try.underlying24 hsz (some ⟨g, 0, none⟩) B zs.length c ys.length e hd hx g 0 cur.toList 3 (by simpa using hg) (ys.map (Value.int .i64))
      (by simp [hlen]) ?_ (by simp only [List.length_map]; omega) ?_ base w (Below.refl _ _) hb ?_
    · intro hpos
      refine ⟨rfl, ?_⟩
      obtain ⟨b, off, rfl, hc⟩ := hr (by intro h0; subst h0; simp at hpos)
      refine ⟨_, rfl, fun j v hj => ?_⟩
      rw [List.getElem?_map] at hj
      have hjl : j < ys.length := by
        rcases Nat.lt_or_ge j ys.length with h1 | h1
        · exact h1
        · rw [List.getElem?_eq_none h1] at hj; simp at hj
      rw [nth_lt hjl] at hj
      simp at hj
      subst hj
      have ha : (⟨b, off, none⟩ : Addr).add j = ⟨b, off + j, none⟩ := by
        unfold Addr.add; split <;> simp_all
      rw [ha]; exact hc j hjl
    · intro u hu
      simp at hu
      obtain ⟨z, _, rfl⟩ := hu
      rfl
    · intro w' hw' hbel
      have hw := hw'.out
      rw [List.length_map]
      refine h w' ⟨by simp, .inr ⟨g, c, _, rfl, hb, hw, by omega, hcm, ?_, ?_⟩⟩ hbel
      · simp [splice]; omega
      · simp [splice]

/-- k, k + 1, .., n of them. -/
def marks (k : Int) (n : Nat) : List Int := (List.range n).map fun i : Nat => k + (i : Int)
theorem marks_len (k : Int) (n : Nat) : (marks k n).length = n := by simp [marks]
theorem marks_nth (k : Int) (n i : Nat) (h : i < n) : nth (marks k n) i = k + i := by simp [nth, marks, h]
/-- The list with its first j numbers marked. -/
def markedTo (k : Int) (zs : List Int) (j : Nat) : List Int := marks k j ++ zs.drop j
theorem markedTo_zero (k : Int) (zs : List Int) : markedTo k zs 0 = zs := by simp [markedTo, marks]
theorem markedTo_len (k : Int) (zs : List Int) (j : Nat) (h : j ≤ zs.length) : (markedTo k zs j).length = zs.length := by simp [markedTo, marks]; omega
theorem markedTo_succ (k : Int) (zs : List Int) (j : Nat) (h : j < zs.length) : (markedTo k zs j).set j (k + j) = markedTo k zs (j + 1) := by
  unfold markedTo
  have e : marks k (j + 1) = marks k j ++ [k + (j : Int)] := by simp [marks, List.range_succ]
  rw [e, List.set_append_right _ _ (by rw [marks_len]; exact Nat.le_refl _), marks_len, Nat.sub_self, List.drop_eq_getElem_cons h, List.set_cons_zero]
  simp
theorem markedTo_all (k : Int) (zs : List Int) : markedTo k zs zs.length = marks k zs.length := by simp [markedTo]



theorem bstep {w w1 w2 : World} (b1 : Below w.heap.size w w1) (b2 : Below w1.heap.size w1 w2) : Below w.heap.size w w2 := b1.trans (b2.mono b1.size)
theorem Came.ml {k : IntKind} {w : World} {A : Option Addr} {c : Nat} {zs : List Int} (h : Came k w A c zs) : zs.length ≤ 9223372036854775807 := by
  have h1 := h.1
  have h2 := h.2.1
  unfold maxLen at h2
  omega

/-- A new slice of the call's own is returned; old memory is as it was. -/
def NewSl (w : World) (zs : List Int) (e : Ending) (w' : World) : Prop :=
  ∃ A c, e = .returned (.slice A zs.length c) ∧ Sl w' w.heap.size A c zs ∧ Below w.heap.size w w'
/-- A slice of the call's own and a bool are returned; old memory is as it was. -/
def SlPost (w : World) (zs : List Int) (ok : Bool) (e : Ending) (w' : World) : Prop :=
  ∃ A c, e = .returned (.tuple #[.slice A zs.length c, .bool ok]) ∧ Sl w' w.heap.size A c zs ∧ Below w.heap.size w w'
theorem Sl.nz {w : World} {base c : Nat} {A : Option Addr} {zs : List Int} (h : Sl w base A c zs) : A = none → c = 0 := by
  intro hA
  rcases h.form with ⟨_, h1, _⟩ | ⟨g, h1, _⟩
  · exact h1
  · rw [hA] at h1; cases h1

end Go.Proofs.Ytnmfppjjhbkfmaa
