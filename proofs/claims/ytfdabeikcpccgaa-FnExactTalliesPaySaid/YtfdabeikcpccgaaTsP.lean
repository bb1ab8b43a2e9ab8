/- Appends of tallies; TalliesPay. -/
import Derived.Test.YtfdabeikcpccgaaTsD
import Derived.Test.YtfdabeikcpccgaaApRun
import Derived.Test.YtfdabeikcpccgaaRegF
import Derived.Test.YtfdabeikcpccgaaExactTalliesValid
import Derived.Deep.Light
namespace Go.Proofs.Ytfdabeikcpccgaa
open Go.RowKit

theorem tcells_one : ∀ (ts : List Tl), ∀ v ∈ tcells ts, v.oneCell' = true
  | [], v, h => by simp [tcells] at h
  | t :: ts, v, h => by
    rw [tcells, List.mem_append] at h
    rcases h with h | h
    · simp [Tl.cells] at h
      rcases h with rfl | rfl | rfl | rfl <;> rfl
    · exact tcells_one ts v h
theorem tcells_at {w : World} {b off : Nat} {ys : List Tl} (hy : ∀ j t, ys[j]? = some t → TAt w b (off + j * 4) t) (j : Nat) (u : Value) (hj : (tcells ys)[j]? = some u) : w.cell? ((⟨b, off, none⟩ : Addr).add j) = some u := by
  have hjl : j < ys.length * 4 := by
    have := (List.getElem?_eq_some_iff.1 hj).1
    rwa [tcells_len] at this
  have ha : (⟨b, off, none⟩ : Addr).add j = ⟨b, off + j, none⟩ := by
    unfold Addr.add; split <;> simp_all
  rw [ha]
  have hq : j / 4 < ys.length := by omega
  have hr : j % 4 < 4 := by omega
  have e : j = j / 4 * 4 + j % 4 := by omega
  obtain ⟨h0, h1, h2, h3⟩ := hy (j / 4) _ (List.getElem?_eq_getElem hq)
  rw [e, tcells_get ys (j / 4) (j % 4) _ (List.getElem?_eq_getElem hq) hr] at hj
  rw [e]
  generalize j / 4 = q at *
  generalize j % 4 = r at *
  rcases (show r = 0 ∨ r = 1 ∨ r = 2 ∨ r = 3 by omega) with rfl | rfl | rfl | rfl <;> simp [Tl.cells] at hj <;> subst hj
  · simpa [Nat.add_assoc] using h0
  · simpa [Nat.add_assoc] using h1
  · simpa [Nat.add_assoc] using h2
  · simpa [Nat.add_assoc] using h3

theorem apT_run (ty : TypeId) (w : World) (base : Nat) (A : Option Addr) (c : Nat) (zs : List Tl) (b off d : Nat) (ys : List Tl) (hown : TSl w base A c zs) (hy : ∀ j t, ys[j]? = some t → TAt w b (off + j * 4) t)
    (hlen : zs.length + ys.length ≤ 4194304) (hbase : base ≤ w.heap.size) :
    ∃ A' c' w', (Builtin.append_ #[35, 35] ty #[.slice A zs.length c, .slice (some ⟨b, off, none⟩) ys.length d]).run Try.prog w = .ok (.slice A' (zs.length + ys.length) c') w' ∧ TSl w' base A' c' (zs ++ ys) ∧ w.grownBy w' (blk A) := by
  obtain ⟨i, hi, hz0, hz1, hz2⟩ := info_parts tally_info
  obtain ⟨v', w', hr, h2, h3, h4, h5⟩ := run_append_own_at (P := Try.prog) w base 35 ty 28 i (.agg #[.int .i64 0, .int .i64 0, .string ⟨#[]⟩, .string ⟨#[]⟩]) 4 48 Try.underlying35 hi hz0 hz1 hz2 rfl (by decide) _ zs.length (tcells zs) hown
    ⟨b, off, none⟩ ys.length d (tcells ys) (tcells_len ys) (tcells_at hy) (tcells_one ys) (by simp only [maxLen]; omega) (by omega) hbase
  rw [ownBlock_blk] at h3
  have hf : ∃ A' c', v' = .slice A' (zs.length + ys.length) c' := by
    rcases h2.2 with ⟨hv, h0⟩ | ⟨g, cap, cur, hv, _⟩
    · exact ⟨none, 0, by rw [hv]; simp; omega⟩
    · exact ⟨some ⟨g, 0, none⟩, cap, hv⟩
  obtain ⟨A', c', rfl⟩ := hf
  refine ⟨A', c', w', hr, ?_, h3⟩
  unfold TSl
  rw [tcells_app, List.length_append]
  exact h2

/-- append onto an empty row. -/
theorem apT_empty (ty : TypeId) (w : World) (base x : Nat) (b off d : Nat) (ys : List Tl) (hown : TSl w base (some ⟨x, 0, none⟩) 0 []) (hy : ∀ j t, ys[j]? = some t → TAt w b (off + j * 4) t)
    (hlen : ys.length ≤ 4194304) (hbase : base ≤ w.heap.size) :
    ∃ A' c' w', (Builtin.append_ #[35, 35] ty #[.slice (some ⟨x, 0, none⟩) 0 0, .slice (some ⟨b, off, none⟩) ys.length d]).run Try.prog w = .ok (.slice A' ys.length c') w' ∧ TSl w' base A' c' ys ∧ Below w.heap.size w w' := by
  obtain ⟨A', c', w', hr, h1, h2⟩ := apT_run ty w base (some ⟨x, 0, none⟩) 0 [] b off d ys hown hy (by simpa using hlen) hbase
  simp only [List.length_nil, Nat.zero_add, List.nil_append] at hr h1
  refine ⟨A', c', w', hr, h1, ?_⟩
  obtain ⟨i, hi, hz0, hz1, hz2⟩ := info_parts tally_info
  rcases Nat.eq_zero_or_pos ys.length with h0 | h0
  · have hy0 : ys = [] := List.eq_nil_of_length_eq_zero h0
    subst hy0
    rcases hown.2 with ⟨hv, _⟩ | ⟨g, cap, cur, hv, _, hg, hnc, hcm, hcs, htake⟩
    · cases hv
    injection hv with e1 e2 e3
    injection e1 with e1
    injection e1 with e1
    subst e1 e3
    have hr2 := run_append_room (P := Try.prog) w 35 ty 28 i Try.underlying35 hi x 0 0 cur hg ⟨b, off, none⟩ 0 d [] (by simp) (by intro j u h; simp at h) (by simp) (by omega) (by rw [hz1, hcs]; simp)
    simp only [List.length_nil] at hr
    rw [hr2] at hr
    injection hr with _ hw
    subst hw
    have e : (cur.toList.take (0 * i.size) ++ [] ++ cur.toList.drop (0 * i.size + ([] : List Value).length)).toArray = cur := by simp
    rw [e, setRow_self w x cur _ _ hg]
    exact Below.refl _ _
  · have hr2 := run_append_grow (P := Try.prog) w 35 ty 28 i (.agg #[.int .i64 0, .int .i64 0, .string ⟨#[]⟩, .string ⟨#[]⟩]) Try.underlying35 hi hz0 ⟨x, 0, none⟩ 0 0 [] (by simp) (by intro j v h; simp at h) ⟨b, off, none⟩ ys.length d (tcells ys) (by rw [tcells_len, hz1]) (tcells_at hy) (by omega) (by omega) (growslice_fits (by omega) (by rw [hz2]; omega))
    rw [hr2] at hr
    injection hr with _ hw
    subst hw
    exact ((Below.refl _ _).drew).alloc (Nat.le_refl _) _

/-- append(out, x) of one tally. -/
theorem wp_apT {ops : Array Oper} {rest : List Oper} {o : Oper} {a : Act} {Q : Exit → Act → World → Prop} (s x : Operand) (hgd : o.guard = none)
    (ho : o.op = .call { callee := .builtin .append, args := #[s, x], argTypes := #[35, 35] }) (w : World) (base : Nat) (A : Option Addr) (c : Nat) (zs : List Tl) (z : Tl)
    (hs : a.eval s = .slice A zs.length c) (hx : a.eval x = .slice (some ⟨w.heap.size, 0, none⟩) 1 1) (hown : TSl w base A c zs) (hlen : zs.length ≤ 4194304) (hbase : base ≤ w.heap.size)
    (h : ∀ A' c' w', TSl w' base A' c' (zs ++ [z]) → w.grownBy w' (blk A) → (∀ k, blk A = some k → base ≤ k) → wpList Try.prog ops Q rest (a.put o.dst (.slice A' (zs ++ [z]).length c')) w') :
    wpList Try.prog ops Q (o :: rest) a (w.alloc (.cells #[.int .i64 z.d, .int .i64 z.c, .string z.s, .string z.f] 28)) := by
  obtain ⟨i, hi, hz0, hz1, hz2⟩ := info_parts tally_info
  refine wpList_append_own_at (w.alloc (.cells #[.int .i64 z.d, .int .i64 z.c, .string z.s, .string z.f] 28)) hgd s x 35 ho base 28 i (.agg #[.int .i64 0, .int .i64 0, .string ⟨#[]⟩, .string ⟨#[]⟩]) 4 48 Try.underlying35 hi hz0 hz1 hz2 rfl (by decide) _ zs.length (tcells zs) hs (World.ownsRow.alloc hown _)
    ⟨w.heap.size, 0, none⟩ 1 1 [.int .i64 z.d, .int .i64 z.c, .string z.s, .string z.f] hx rfl ?_ ?_ (by simp only [maxLen]; omega) (by omega) (by simp; omega) ?_
  · intro j u hj
    match j, hj with
    | 0, hj => simp at hj; subst hj; simp [Addr.add]
    | 1, hj => simp at hj; subst hj; simp [Addr.add]
    | 2, hj => simp at hj; subst hj; simp [Addr.add]
    | 3, hj => simp at hj; subst hj; simp [Addr.add]
  · intro u hu
    simp at hu
    rcases hu with rfl | rfl | rfl | rfl <;> rfl
  · intro v' w' hown' hg _ hat
    rw [ownBlock_blk] at hg hat
    have hf : ∃ A' c', v' = .slice A' (zs ++ [z]).length c' := by
      rcases hown'.2 with ⟨_, h0⟩ | ⟨g, cap, cur, hv, _⟩
      · omega
      · exact ⟨some ⟨g, 0, none⟩, cap, by rw [hv]; simp⟩
    obtain ⟨A', c', rfl⟩ := hf
    refine h A' c' w' ?_ ?_ ?_
    · unfold TSl
      rw [tcells_app]
      simpa [tcells, Tl.cells] using hown'
    · exact ⟨hg.os, hg.tape, hg.output, Nat.le_trans (by simp) hg.size, fun k hk hne => (hg.block k (by simp; omega) hne).trans (Below.heap_alloc w _ k hk)⟩
    · intro k hk
      rcases hown.2 with ⟨hv, hn⟩ | ⟨g, cap, cur, hv, hb, _⟩
      · injection hv with h1
        subst h1
        cases hk
      · injection hv with h1
        subst h1
        simp [blk] at hk
        omega

theorem wp_apT2 {ops : Array Oper} {rest : List Oper} {o : Oper} {a : Act} {Q : Exit → Act → World → Prop} (s x : Operand) (hgd : o.guard = none)
    (ho : o.op = .call { callee := .builtin .append, args := #[s, x], argTypes := #[35, 35] }) (w : World) (p base : Nat) (A : Option Addr) (c : Nat) (zs : List Tl) (z : Tl) (hp : w.heap.size = p)
    (hs : a.eval s = .slice A zs.length c) (hx : a.eval x = .slice (some ⟨p, 0, none⟩) 1 1) (hown : TSl w base A c zs) (hlen : zs.length ≤ 4194304) (hbase : base ≤ w.heap.size)
    (h : ∀ A' c' w', TSl w' base A' c' (zs ++ [z]) → w.grownBy w' (blk A) → (∀ k, blk A = some k → base ≤ k) → wpList Try.prog ops Q rest (a.put o.dst (.slice A' (zs ++ [z]).length c')) w') :
    wpList Try.prog ops Q (o :: rest) a (w.alloc (.cells #[.int .i64 z.d, .int .i64 z.c, .string z.s, .string z.f] 28)) := by
  subst hp
  exact wp_apT s x hgd ho w base A c zs z hs hx hown hlen hbase h

/-- make([]Tally, 0, n) -/
theorem wp_mkT0 {ops : Array Oper} {rest : List Oper} {o : Oper} {a : Act} {Q : Exit → Act → World → Prop} (l x : Operand) (hgd : o.guard = none)
    (ho : o.op = Op.makeSlice 35 l x) (w : World) (base n : Nat) (hl : a.eval l = .int .i64 0) (hx : a.eval x = .int .i64 (n : Int)) (hn : n ≤ 4194304) (hbase : base ≤ w.heap.size)
    (h : ∀ A' w', TSl w' base A' n [] → w.grownBy w' none → wpList Try.prog ops Q rest (a.put o.dst (.slice A' 0 n)) w') :
    wpList Try.prog ops Q (o :: rest) a w := by
  obtain ⟨i, hi, hz0, hz1, hz2⟩ := info_parts tally_info
  exact wpList_make_own w hgd l x 35 ho base 28 i (.agg #[.int .i64 0, .int .i64 0, .string ⟨#[]⟩, .string ⟨#[]⟩]) 4 Try.underlying35 hi hz0 hz1 .i64 .i64 n n hl hx rfl (by rw [hz2]; omega) (by simp only [maxLen]; omega) hbase
    (fun w' h1 h2 => h _ w' h1 h2)

theorem TSl.nil_ (w : World) (base : Nat) : TSl w base none 0 [] := World.ownsRow_nil _ _ _ _
theorem TSl.le {w : World} {base c : Nat} {A : Option Addr} {ts : List Tl} (h : TSl w base A c ts) : ts.length ≤ c := by
  rcases h.form with ⟨_, _, rfl⟩ | ⟨_, _, _, _, h, _⟩
  · simp
  · exact h
theorem TSl.lt {w : World} {base c : Nat} {A : Option Addr} {ts : List Tl} (h : TSl w base A c ts) : ∀ k, blk A = some k → base ≤ k ∧ k < w.heap.size := by
  intro k hk
  rcases h.form with ⟨rfl, _, _⟩ | ⟨g, rfl, h1, h2, _⟩
  · cases hk
  · simp [blk] at hk
    omega
theorem TSl.down {w : World} {base B c : Nat} {A : Option Addr} {ts : List Tl} (h : TSl w base A c ts) (hB : B ≤ base) : TSl w B A c ts := by
  refine ⟨h.1, ?_⟩
  rcases h.2 with h0 | ⟨g, cap, cur, hv, hb, hr⟩
  · exact .inl h0
  · exact .inr ⟨g, cap, cur, hv, Nat.le_trans hB hb, hr⟩

def payB (ts : List Tl) (k : Int) : Bool := tsB ts && inB k 0 ((ts.length : Int) - 1)
def payL (ts : List Tl) (k : Int) : List Tl := if payB ts k then ts.eraseIdx k.toNat else []
/-- Tallies of the call's own and a bool are returned. -/
def TsPost (w : World) (us : List Tl) (ok : Bool) (e : Ending) (w' : World) : Prop :=
  ∃ A c, e = .returned (.tuple #[.slice A us.length c, .bool ok]) ∧ TSl w' w.heap.size A c us ∧ Below w.heap.size w w'
theorem pay_no {ts : List Tl} {k : Int} (h : payB ts k = false) : payL ts k = [] := by simp [payL, h]

theorem pay_step {ts : List Tl} {k j : Nat} {t : Tl} (h : ts[j]? = some t) : (ts.take (j + 1)).eraseIdx k = if j = k then (ts.take j).eraseIdx k else (ts.take j).eraseIdx k ++ [t] := by
  have hj := (List.getElem?_eq_some_iff.1 h).1
  have e : ts.take (j + 1) = ts.take j ++ [t] := by
    rw [List.take_succ_eq_append_getElem hj]
    rw [List.getElem?_eq_getElem hj] at h
    injection h with h
    rw [h]
  have hl : (ts.take j).length = j := by rw [List.length_take]; omega
  rw [e]
  split
  · rename_i hjk
    subst hjk
    rw [List.eraseIdx_append_of_length_le (by omega), hl, Nat.sub_self, List.eraseIdx_of_length_le (l := ts.take j) (by omega)]
    simp
  · rcases Nat.lt_or_ge k j with h1 | h1
    · rw [List.eraseIdx_append_of_lt_length (by omega)]
    · rw [List.eraseIdx_append_of_length_le (by omega), hl, List.eraseIdx_of_length_le (l := ts.take j) (by omega), List.eraseIdx_of_length_le (by simp; omega)]

set_option maxRecDepth 100000 in
set_option maxHeartbeats 1000000 in
theorem impl_TalliesPay (A : Option Addr) (c : Nat) (ts : List Tl) (k : Int) (w : World) (hA : TRd w A ts) (hn : ts.length ≤ 1048576) (hz : ∀ t ∈ ts, t.s.size ≤ 1048576 ∧ t.f.size ≤ 1048576) :
    Calls Try.prog 38 #[.slice A ts.length c, .int .i64 k] w (TsPost w (payL ts k) (payB ts k)) := by
  cases hb : tsB ts
  · have HF : payB ts k = false := by simp [payB, hb]
    rw [pay_no HF, HF]
    go_enter Try.func38, Try.ntmps38
    go_wp2_with fail
    refine (impl_TalliesValid A c ts w hA hn hz).mono ?_
    rintro e w1 ⟨rfl, b1⟩
    rw [hb]
    clear hz
    go_wp2_with fail
    go_ret2
    exact ⟨none, 0, rfl, TSl.nil_ _ _, b1⟩
  by_cases h0 : k < 0
  · have HF : payB ts k = false := by simp [payB, inB]; omega
    rw [pay_no HF, HF]
    clear HF
    go_enter Try.func38, Try.ntmps38
    go_wp2_with fail
    refine (impl_TalliesValid A c ts w hA hn hz).mono ?_
    rintro e w1 ⟨rfl, b1⟩
    rw [hb]
    clear hz
    go_wp2_with fail
    go_ret2
    exact ⟨none, 0, rfl, TSl.nil_ _ _, b1⟩
  by_cases h1 : (ts.length : Int) ≤ k
  · have HF : payB ts k = false := by simp [payB, inB]; omega
    rw [pay_no HF, HF]
    clear HF
    go_enter Try.func38, Try.ntmps38
    go_wp2_with fail
    refine (impl_TalliesValid A c ts w hA hn hz).mono ?_
    rintro e w1 ⟨rfl, b1⟩
    rw [hb]
    clear hz
    go_wp2_with fail
    go_ret2
    exact ⟨none, 0, rfl, TSl.nil_ _ _, b1⟩
  obtain ⟨m, rfl⟩ : ∃ m : Nat, k = (m : Int) := ⟨k.toNat, by omega⟩
  have hm : m < ts.length := by omega
  have HF : payB ts (m : Int) = true := by simp [payB, hb, inB]; omega
  rw [show payL ts (m : Int) = ts.eraseIdx m by simp [payL, HF], HF]
  have h12 : ts.length ≤ 12 := by
    simp only [tsB, Bool.and_eq_true, decide_eq_true_eq] at hb
    exact hb.2
  have HLE : Hid ((ts.eraseIdx m).length = ts.length - 1) := Lib.hid (by rw [List.length_eraseIdx]; simp [hm])
  clear h0 h1 HF
  go_enter Try.func38, Try.ntmps38
  go_wp2_with fail
  refine (impl_TalliesValid A c ts w hA hn hz).mono ?_
  rintro e w1 ⟨rfl, b1⟩
  rw [hb]
  clear hz hb
  have hA1 := hA.below b1
  have hz1 := b1.size
  go_wp2_with (at_make; refine wp_mkT0 _ _ rfl rfl _ w.heap.size ts.length rfl rfl (by omega) (by omega) ?_; intro A0 w0 hs0 hg0)
  have hb0 := b1.grown hg0 b1.size (fun k hk => by cases hk)
  have HB1 := Lib.hid b1
  have HR := Lib.hid hA
  clear hg0 hA hA1 b1
  go_loopw [6, 27] (fun q i wr => ∃ (j : Nat) (A1 : Option Addr) (c1 : Nat) (us : List Tl), j ≤ ts.length ∧ i = .int .i64 j ∧ q = .slice A1 us.length c1 ∧ Hid (us = (ts.take j).eraseIdx m) ∧ us.length ≤ 12 ∧ TSl wr w.heap.size A1 c1 us ∧ Below w.heap.size w wr) (fun _ i _ => ts.length - (intOf i).toNat)
  case atStart => exact ⟨0, _, _, [], Nat.zero_le _, rfl, rfl, Lib.hid (by simp), by simp, hs0, hb0⟩
  case round =>
    obtain ⟨j, A1, c1, us, hj, rfl, rfl, HU, hu12, hs, hb⟩ := hrel
    by_cases hlt : j < ts.length
    · obtain ⟨b, off, t, rfl, hbl, ht, hc⟩ := (HR.out.below hb).at hlt
      obtain ⟨c0, c1', c2, c3⟩ := hc
      have HST := Lib.hid (pay_step (k := m) ht)
      have hbs := hb.size
      have hba := Lib.hid (hb.alloc hb.size (.cells #[.int .i64 t.d, .int .i64 t.c, .string t.s, .string t.f] 28))
      have hsa := Lib.hid (hs.below ((Below.refl _ _).alloc (Nat.le_refl _) (.cells #[.int .i64 t.d, .int .i64 t.c, .string t.s, .string t.f] 28)))
      clear ht
      by_cases hjm : j = m
      · subst hjm
        have hE : us = (ts.take (j + 1)).eraseIdx j := by rw [HST.out, if_pos rfl]; exact HU.out
        have HE := Lib.hid hE
        clear hE hs hb
        go_wp2_with fail
        go_roundw
        case rel => exact ⟨j + 1, _, _, us, by omega, by go_num, rfl, HE, hu12, hsa.out, hba.out⟩
        case measure => simp [intOf]; omega
      · have hne : ((j : Int) != (m : Int)) = true := by simp; omega
        have hE : us ++ [t] = (ts.take (j + 1)).eraseIdx m := by rw [HST.out, if_neg hjm, HU.out]
        have HE := Lib.hid hE
        have hl1 : (us ++ [t]).length ≤ 12 := by
          rw [hE]
          have : ((ts.take (j + 1)).eraseIdx m).length ≤ (ts.take (j + 1)).length := List.length_eraseIdx_le _ _
          rw [List.length_take] at this
          omega
        have HL := Lib.hid hl1
        clear hE hl1 hs hb hjm
        have hbz := hba.out.size
        go_wp2_with (at_builtin; refine wp_apT2 _ _ rfl rfl (wr.alloc (.cells #[.int .i64 t.d, .int .i64 t.c, .string t.s, .string t.f] 28)) (wr.heap.size + 1) w.heap.size A1 c1 us t (by simp) rfl rfl hsa.out (by omega) (by omega) ?_; intro A3 c9 w3 hs3 hg3 hr3)
        have hb3 := Lib.hid (hba.out.grown hg3 hbz hr3)
        have hs4 := Lib.hid hs3
        clear hs3 hg3 hr3 c0 c1' c2 c3
        go_wp2_with fail
        go_roundw
        case rel => exact ⟨j + 1, A3, _, us ++ [t], by omega, by go_num, by simp, HE, HL.out, hs4.out, hb3.out⟩
        case measure => simp [intOf]; omega
    · go_wp2_with fail
      go_ret2
      obtain rfl : j = ts.length := by omega
      have hU := HU.out
      rw [List.take_length] at hU
      subst hU
      exact ⟨_, _, rfl, hs, hb⟩
end Go.Proofs.Ytfdabeikcpccgaa
