/- The reference's TalliesValid and the program's debtsOf. -/
import Derived.Test.YtfdabeikcpccgaaTsF
namespace Go.Proofs.Ytfdabeikcpccgaa
open Go.RowKit

/-- A tally that counts. -/
def tOk (t : Tl) : Bool := twoB t.d t.c && notB t.s && (t.s.toList == t.f.toList) && !t.s.toList.isEmpty
def tsB (ts : List Tl) : Bool := ts.all tOk && decide (ts.length ≤ 12)

theorem tsB_no {ts : List Tl} {k : Nat} {t : Tl} (h : ts[k]? = some t) (ht : tOk t = false) : tsB ts = false := by
  have : ts.all tOk = false := by
    rw [List.all_eq_false]
    exact ⟨t, List.mem_of_getElem? h, by simp [ht]⟩
  simp [tsB, this]
theorem tsB_all {ts : List Tl} (h : ∀ j t, j < ts.length → ts[j]? = some t → tOk t = true) : tsB ts = decide (ts.length ≤ 12) := by
  have : ts.all tOk = true := by
    rw [List.all_eq_true]
    intro t ht
    obtain ⟨j, hj⟩ := List.getElem?_of_mem ht
    exact h j t (List.getElem?_eq_some_iff.1 hj).1 hj
  simp [tsB, this]

set_option maxRecDepth 100000 in
theorem spec_TalliesValid (A : Option Addr) (c : Nat) (ts : List Tl) (w : World) (hA : TRd w A ts) (hn : ts.length ≤ 1048576) (hz : ∀ t ∈ ts, t.s.size ≤ 1048576 ∧ t.f.size ≤ 1048576) :
    Calls Try.prog 25 #[.slice A ts.length c] w fun e w' => e = .returned (.bool (tsB ts)) ∧ Below w.heap.size w w' := by
  have HZ := Lib.hid hz
  clear hz
  go_enter Try.func25, Try.ntmps25
  go_wp2
  go_loopw [3] (fun i wr => ∃ (k : Nat), k ≤ ts.length ∧ i = .int .i64 k ∧ Hid (∀ j t, j < k → ts[j]? = some t → tOk t = true) ∧ Below w.heap.size w wr) (fun i _ => ts.length - (intOf i).toNat)
  case atStart => exact ⟨0, Nat.zero_le _, rfl, Lib.hid (fun j t hj => by omega), Below.refl _ _⟩
  case round =>
    obtain ⟨k, hk, rfl, HK, hb⟩ := hrel
    by_cases hlt : k < ts.length
    · obtain ⟨b, off, t, rfl, hbl, ht, hc⟩ := hA.at hlt
      obtain ⟨c0, c1, c2, c3⟩ := hc.below hb hbl
      have hsz := HZ.out t (List.mem_of_getElem? ht)
      have HT := Lib.hid ht
      clear ht hA
      have hbr : b < wr.heap.size := Nat.lt_of_lt_of_le hbl hb.size
      go_wp2_with fail
      refine (spec_TallyMatches _ _ _ _ _ hsz.1).mono ?_
      rintro e w1 ⟨rfl, b1⟩
      have d2 := (b1.cell (p := ⟨b, _, none⟩) hbr).trans c2
      have hb1 := bstep hb b1
      clear c0 c1 c2 c3 hb b1 hc
      cases hm : twoB t.d t.c && notB t.s && (t.s.toList == t.f.toList)
      · have HF := Lib.hid (tsB_no HT.out (by simp [tOk, hm]))
        go_wp2_with fail
        go_ret
        exact ⟨ret_bool HF.out.symm, hb1⟩
      · cases h0 : t.s.toList.isEmpty
        · have HK2 : Hid (∀ j t, j < k + 1 → ts[j]? = some t → tOk t = true) := Lib.hid (fun j t' hj ht' => by
            rcases Nat.lt_or_ge j k with h1 | h1
            · exact HK.out j t' h1 ht'
            · obtain rfl : j = k := by omega
              have := HT.out.symm.trans ht'
              injection this with this
              subst this
              simp [tOk, hm, h0])
          go_wp2_with fail
          go_roundw
          case rel => exact ⟨k + 1, by omega, by go_num, HK2, hb1⟩
          case measure => simp [intOf]; omega
        · have HF := Lib.hid (tsB_no HT.out (by simp [tOk, h0]))
          go_wp2_with fail
          go_ret
          exact ⟨ret_bool HF.out.symm, hb1⟩
    · go_wp2_with fail
      go_ret
      exact ⟨ret_bool (by rw [tsB_all (fun j t hj => HK.out j t (by omega))]; simp; omega), hb⟩

/-! ### Rows of debts -/

structure Db where
  d : Int
  c : Int
  n : Int
def Db.cells (t : Db) : List Value := [.int .i64 t.d, .int .i64 t.c, .int .i64 t.n]
def dcells : List Db → List Value
  | [] => []
  | t :: ts => t.cells ++ dcells ts
theorem dcells_len : ∀ ts : List Db, (dcells ts).length = ts.length * 3
  | [] => rfl
  | t :: ts => by rw [dcells, List.length_append, dcells_len ts]; simp [Db.cells]; omega
theorem dcells_app : ∀ a b : List Db, dcells (a ++ b) = dcells a ++ dcells b
  | [], b => rfl
  | t :: a, b => by rw [List.cons_append, dcells, dcells, dcells_app a b, List.append_assoc]
theorem dcells_get : ∀ (ts : List Db) (j i : Nat) (t : Db), ts[j]? = some t → i < 3 → (dcells ts)[j * 3 + i]? = t.cells[i]?
  | [], j, i, t, h, _ => by simp at h
  | u :: ts, 0, i, t, h, hi => by
    simp at h
    subst h
    rw [dcells, List.getElem?_append_left (by simp [Db.cells]; omega)]
    simp
  | u :: ts, j + 1, i, t, h, hi => by
    rw [dcells, List.getElem?_append_right (by simp [Db.cells]; omega)]
    have := dcells_get ts j i t (by simpa using h) hi
    rw [← this]
    congr 1
    simp [Db.cells]
    omega

def DSl (w : World) (base : Nat) (A : Option Addr) (c : Nat) (ds : List Db) : Prop :=
  w.ownsRow base 69 3 (.slice A ds.length c) ds.length (dcells ds)
theorem DSl.at {w : World} {base c : Nat} {A : Option Addr} {ds : List Db} (h : DSl w base A c ds) {k : Nat} (hk : k < ds.length) : ∃ g t, A = some ⟨g, 0, none⟩ ∧ g < w.heap.size ∧ ds[k]? = some t ∧ w.cell? ⟨g, k * 3, none⟩ = some (.int .i64 t.d) ∧ w.cell? ⟨g, k * 3 + 1, none⟩ = some (.int .i64 t.c) ∧ w.cell? ⟨g, k * 3 + 2, none⟩ = some (.int .i64 t.n) := by
  rcases h.2 with ⟨hv, hn⟩ | ⟨g, cap, cur, hv, hb, hg, hnc, hcm, _⟩
  · omega
  · injection hv with h1 h2 h3
    subst h1 h3
    have e : ∀ i, i < 3 → w.cell? ⟨g, k * 3 + i, none⟩ = ds[k].cells[i]? := fun i hi => by
      rw [World.ownsRow.cellAt h _ (by omega), dcells_get ds k i _ (List.getElem?_eq_getElem hk) hi]
    exact ⟨g, ds[k], rfl, (Array.getElem?_eq_some_iff.1 hg).1, List.getElem?_eq_getElem hk, e 0 (by omega), e 1 (by omega), e 2 (by omega)⟩
theorem DSl.below {w w' : World} {base c : Nat} {A : Option Addr} {ds : List Db} (h : DSl w base A c ds) (hb : Below w.heap.size w w') : DSl w' base A c ds :=
  World.ownsRow.kept h (row := none) (grownBy_of_below hb none) (by rw [ownBlock_blk]; rcases hA : blk A with _ | k <;> simp)

theorem debt_info : (Try.prog.info? 69).map (fun i => (i.zero, i.size, i.bytes)) = some (some (.agg #[.int .i64 0, .int .i64 0, .int .i64 0]), 3, 24) := by kernel_rfl

/-- append(out, x) of one debt. -/
theorem wp_apD {ops : Array Oper} {rest : List Oper} {o : Oper} {a : Act} {Q : Exit → Act → World → Prop} (s x : Operand) (hgd : o.guard = none)
    (ho : o.op = .call { callee := .builtin .append, args := #[s, x], argTypes := #[64, 64] }) (w : World) (base : Nat) (A : Option Addr) (c : Nat) (zs : List Db) (z : Db)
    (hs : a.eval s = .slice A zs.length c) (hx : a.eval x = .slice (some ⟨w.heap.size, 0, none⟩) 1 1) (hown : DSl w base A c zs) (hlen : zs.length ≤ 4194304) (hbase : base ≤ w.heap.size)
    (h : ∀ A' c' w', DSl w' base A' c' (zs ++ [z]) → w.grownBy w' (blk A) → (∀ k, blk A = some k → base ≤ k) → wpList Try.prog ops Q rest (a.put o.dst (.slice A' (zs ++ [z]).length c')) w') :
    wpList Try.prog ops Q (o :: rest) a (w.alloc (.cells #[.int .i64 z.d, .int .i64 z.c, .int .i64 z.n] 69)) := by
  obtain ⟨i, hi, hz0, hz1, hz2⟩ := info_parts debt_info
  refine wpList_append_own_at (w.alloc (.cells #[.int .i64 z.d, .int .i64 z.c, .int .i64 z.n] 69)) hgd s x 64 ho base 69 i (.agg #[.int .i64 0, .int .i64 0, .int .i64 0]) 3 24 Try.underlying64 hi hz0 hz1 hz2 rfl (by decide) _ zs.length (dcells zs) hs (World.ownsRow.alloc hown _)
    ⟨w.heap.size, 0, none⟩ 1 1 [.int .i64 z.d, .int .i64 z.c, .int .i64 z.n] hx rfl ?_ ?_ (by simp only [maxLen]; omega) (by omega) (by simp; omega) ?_
  · intro j u hj
    match j, hj with
    | 0, hj => simp at hj; subst hj; simp [Addr.add]
    | 1, hj => simp at hj; subst hj; simp [Addr.add]
    | 2, hj => simp at hj; subst hj; simp [Addr.add]
  · intro u hu
    simp at hu
    rcases hu with rfl | rfl | rfl <;> rfl
  · intro v' w' hown' hg _ hat
    rw [ownBlock_blk] at hg hat
    have hf : ∃ A' c', v' = .slice A' (zs ++ [z]).length c' := by
      rcases hown'.2 with ⟨_, h0⟩ | ⟨g, cap, cur, hv, _⟩
      · omega
      · exact ⟨some ⟨g, 0, none⟩, cap, by rw [hv]; simp⟩
    obtain ⟨A', c', rfl⟩ := hf
    refine h A' c' w' ?_ ?_ ?_
    · unfold DSl
      rw [dcells_app]
      simpa [dcells, Db.cells] using hown'
    · exact ⟨hg.os, hg.tape, hg.output, Nat.le_trans (by simp) hg.size, fun k hk hne => (hg.block k (by simp; omega) hne).trans (Below.heap_alloc w _ k hk)⟩
    · intro k hk
      rcases hown.2 with ⟨hv, hn⟩ | ⟨g, cap, cur, hv, hb, _⟩
      · injection hv with h1
        subst h1
        cases hk
      · injection hv with h1
        subst h1
        simp [blk] at hk
        omega

/-- make([]debt, 0, n) -/
theorem wp_mkD0 {ops : Array Oper} {rest : List Oper} {o : Oper} {a : Act} {Q : Exit → Act → World → Prop} (l x : Operand) (hgd : o.guard = none)
    (ho : o.op = Op.makeSlice 64 l x) (w : World) (base n : Nat) (hl : a.eval l = .int .i64 0) (hx : a.eval x = .int .i64 (n : Int)) (hn : n ≤ 4194304) (hbase : base ≤ w.heap.size)
    (h : ∀ A' w', DSl w' base A' n [] → w.grownBy w' none → wpList Try.prog ops Q rest (a.put o.dst (.slice A' 0 n)) w') :
    wpList Try.prog ops Q (o :: rest) a w := by
  obtain ⟨i, hi, hz0, hz1, hz2⟩ := info_parts debt_info
  exact wpList_make_own w hgd l x 64 ho base 69 i (.agg #[.int .i64 0, .int .i64 0, .int .i64 0]) 3 Try.underlying64 hi hz0 hz1 .i64 .i64 n n hl hx rfl (by rw [hz2]; omega) (by simp only [maxLen]; omega) hbase
    (fun w' h1 h2 => h _ w' h1 h2)
end Go.Proofs.Ytfdabeikcpccgaa
