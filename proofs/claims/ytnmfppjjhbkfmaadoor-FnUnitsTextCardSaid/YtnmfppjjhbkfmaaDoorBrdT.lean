/- Boards: the program's BoardText. -/
import Derived.Test.YtnmfppjjhbkfmaaDoorBrdL
import Derived.Test.YtnmfppjjhbkfmaaDoorJoin
namespace Go.Proofs.YtnmfppjjhbkfmaaDoor
open Go.RowKit

theorem str_info : (Tryd.prog.info? 9).map (fun i => (i.zero, i.size, i.bytes)) = some (some (.string ⟨#[]⟩), 1, 16) := by kernel_rfl
theorem info_parts2 {T : TypeId} {z : Value} {s b : Nat} (h : (Tryd.prog.info? T).map (fun i => (i.zero, i.size, i.bytes)) = some (some z, s, b)) : ∃ i, Tryd.prog.info? T = some i ∧ i.zero = some z ∧ i.size = s ∧ i.bytes = b := by
  cases hi : Tryd.prog.info? T with
  | none => rw [hi] at h; simp at h
  | some i =>
    rw [hi] at h
    simp at h
    exact ⟨i, rfl, h.1, h.2.1, h.2.2⟩

/-- A slice of strings of the call's own. -/
def Ss (w : World) (base : Nat) (A : Option Addr) (c : Nat) (xs : List ByteArray) : Prop :=
  w.ownsRow base 9 1 (.slice A xs.length c) xs.length (xs.map Value.string)
section
variable {w w' : World} {base B : Nat} {A : Option Addr} {c : Nat} {xs : List ByteArray}
theorem Ss.form (h : Ss w base A c xs) : (A = none ∧ c = 0 ∧ xs = []) ∨ ∃ g, A = some ⟨g, 0, none⟩ ∧ base ≤ g ∧ g < w.heap.size ∧ xs.length ≤ c ∧ c ≤ maxLen := by
  rcases h.2 with ⟨hv, hn⟩ | ⟨g, cap, cur, hv, hb, hg, hnc, hcm, _⟩
  · injection hv with h1 h2 h3
    exact .inl ⟨h1, h3, List.eq_nil_of_length_eq_zero hn⟩
  · injection hv with h1 h2 h3
    subst h3
    exact .inr ⟨g, h1, hb, (Array.getElem?_eq_some_iff.1 hg).1, hnc, hcm⟩
theorem Ss.lt (h : Ss w base A c xs) : ∀ k, blk A = some k → base ≤ k ∧ k < w.heap.size := by
  intro k hk
  exact World.ownsRow.lt h k (by rw [ownBlock_blk]; exact hk)
theorem Ss.cell {g : Nat} (h : Ss w base (some ⟨g, 0, none⟩) c xs) {j : Nat} (hj : j < xs.length) : w.cell? ⟨g, j, none⟩ = (xs[j]?).map .string := by
  rw [World.ownsRow.cellAt h j (by omega), List.getElem?_map]
theorem Ss.grown (h : Ss w base A c xs) {row : Option Nat} (hg : w.grownBy w' row) (hne : blk A = none ∨ blk A ≠ row) : Ss w' base A c xs :=
  World.ownsRow.kept h hg (by rw [ownBlock_blk]; exact hne)
theorem Ss.below (h : Ss w base A c xs) (hb : Below w.heap.size w w') : Ss w' base A c xs :=
  h.grown (row := none) ⟨hb.os, hb.tape, hb.output, hb.size, fun k hk _ => hb.block k hk⟩ (by cases hv : blk A <;> simp)
end

/-- append(out, s) of one string onto a slice of the call's own. -/
theorem wp_ap1s {ops : Array Oper} {rest : List Oper} {o : Oper} {a : Act} {Q : Exit → Act → World → Prop} (s x : Operand) (hgd : o.guard = none)
    (ho : o.op = .call { callee := .builtin .append, args := #[s, x], argTypes := #[34, 34] }) (w : World) (base : Nat) (A : Option Addr) (c : Nat) (xs : List ByteArray) (z : ByteArray)
    (hs : a.eval s = .slice A xs.length c) (hx : a.eval x = .slice (some ⟨w.heap.size, 0, none⟩) 1 1) (hown : Ss w base A c xs) (hlen : xs.length ≤ 4194304) (hbase : base ≤ w.heap.size)
    (h : ∀ A' c' w', Ss w' base A' c' (xs ++ [z]) → w.grownBy w' (blk A) → wpList Tryd.prog ops Q rest (a.put o.dst (.slice A' (xs ++ [z]).length c')) w') :
    wpList Tryd.prog ops Q (o :: rest) a (w.alloc (.cells #[.string z] 9)) := by
  obtain ⟨i, hi, hz0, hz1, hz2⟩ := info_parts2 str_info
  refine wpList_append_own_at (w.alloc (.cells #[.string z] 9)) hgd s x 34 ho base 9 i (.string ⟨#[]⟩) 1 16 Tryd.underlying34 hi hz0 hz1 hz2 rfl (by decide) _ xs.length (xs.map .string) hs (World.ownsRow.alloc hown _)
    ⟨w.heap.size, 0, none⟩ 1 1 [.string z] hx rfl ?_ ?_ (by simp only [maxLen]; omega) (by omega) (by simp; omega) ?_
  · intro j u hj
    match j, hj with
    | 0, hj => simp at hj; subst hj; simp [Addr.add]
  · intro u hu; simp at hu; subst hu; rfl
  · intro v' w' hown' hg _ hat
    rw [ownBlock_blk] at hg
    have hf : ∃ A' c', v' = .slice A' (xs ++ [z]).length c' := by
      rcases hown'.2 with ⟨_, h0⟩ | ⟨g, cap, cur, hv, _⟩
      · omega
      · exact ⟨some ⟨g, 0, none⟩, cap, by rw [hv]; simp⟩
    obtain ⟨A', c', rfl⟩ := hf
    refine h A' c' w' ?_ ?_
    · unfold Ss
      simpa using hown'
    · exact ⟨hg.os, hg.tape, hg.output, Nat.le_trans (by simp) hg.size, fun k hk hne => (hg.block k (by simp; omega) hne).trans (Below.heap_alloc w _ k hk)⟩

/-- make([]string, 0, n) -/
theorem wp_mk0s {ops : Array Oper} {rest : List Oper} {o : Oper} {a : Act} {Q : Exit → Act → World → Prop} (l x : Operand) (hgd : o.guard = none)
    (ho : o.op = Op.makeSlice 34 l x) (w : World) (base n : Nat) (hl : a.eval l = .int .i64 0) (hx : a.eval x = .int .i64 (n : Int)) (hn : n ≤ 4194304) (hbase : base ≤ w.heap.size)
    (h : ∀ A' w', Ss w' base A' n [] → w.grownBy w' none → wpList Tryd.prog ops Q rest (a.put o.dst (.slice A' 0 n)) w') :
    wpList Tryd.prog ops Q (o :: rest) a w := by
  obtain ⟨i, hi, hz0, hz1, hz2⟩ := info_parts2 str_info
  exact wpList_make_own w hgd l x 34 ho base 9 i (.string ⟨#[]⟩) 1 Tryd.underlying34 hi hz0 hz1 .i64 .i64 n n hl hx rfl (by rw [hz2]; omega) (by simp only [maxLen]; omega) hbase
    (fun w' h1 h2 => h _ w' h1 h2)

theorem Bt.of10 (w : World) (y0 y1 y2 y3 y4 y5 y6 y7 y8 y9 : Int) : Bt (w.alloc (.cells #[.int .i64 y0, .int .i64 y1, .int .i64 y2, .int .i64 y3, .int .i64 y4, .int .i64 y5, .int .i64 y6, .int .i64 y7, .int .i64 y8, .int .i64 y9] 41)) w.heap.size w.heap.size [y0, y1, y2, y3, y4, y5, y6, y7, y8, y9] :=
  World.ownsRow_lit (base := w.heap.size) (e := 41) (size := 1) w #[.int .i64 y0, .int .i64 y1, .int .i64 y2, .int .i64 y3, .int .i64 y4, .int .i64 y5, .int .i64 y6, .int .i64 y7, .int .i64 y8, .int .i64 y9] 10 (Nat.le_refl _) (by simp [maxLen]) (by simp)

theorem Bt.ofZ (w : World) (zs : List Int) (h10 : zs.length = 10) : Bt (w.alloc (.cells #[.int .i64 (nth zs 0), .int .i64 (nth zs 1), .int .i64 (nth zs 2), .int .i64 (nth zs 3), .int .i64 (nth zs 4), .int .i64 (nth zs 5), .int .i64 (nth zs 6), .int .i64 (nth zs 7), .int .i64 (nth zs 8), .int .i64 (nth zs 9)] 41)) w.heap.size w.heap.size zs := by
  have h := Bt.of10 w (nth zs 0) (nth zs 1) (nth zs 2) (nth zs 3) (nth zs 4) (nth zs 5) (nth zs 6) (nth zs 7) (nth zs 8) (nth zs 9)
  have e := list10 h10
  exact Eq.mpr (congrArg (Bt _ _ _) e) h

/-- The words of the first j places, from the last on. -/
def wds (zs : List Int) : Nat → List ByteArray
  | 0 => []
  | j + 1 => wds zs j ++ [dtx (dec2 (nth zs (9 - j)).toNat)]
theorem wds_len (zs : List Int) : ∀ j, (wds zs j).length = j
  | 0 => rfl
  | j + 1 => by rw [wds, List.length_append, wds_len zs j]; rfl
theorem join_wds (zs : List Int) : Lib.join ((wds zs 10).map (·.data.toList)) [124] = btx zs 10 := by
  simp [wds, btx, Lib.join, List.intercalate, dtx]

theorem join_at (g c : Nat) (zs : List Int) (xs : List ByteArray) (base : Nat) (w : World) (hx : xs = wds zs 10) (h : Ss w base (some ⟨g, 0, none⟩) c xs) (hg : g < w.heap.size) (hc : xs.length ≤ c) :
    Calls Tryd.prog 15 #[.slice (some ⟨g, 0, none⟩) xs.length c, .string { data := #[124] }] w fun e w' => e = .returned (.string (dtx (btx zs 10))) ∧ Below w.heap.size w w' := by
  have hn : xs.length = 10 := by rw [hx, wds_len]
  have hj : Lib.join (xs.map (·.data.toList)) [124] = btx zs 10 := by rw [hx]; exact join_wds zs
  have := Tryd.strings_Join g 0 c xs { data := #[124] } w (fun j x hj => by
      have hjl : j < xs.length := (List.getElem?_eq_some_iff.1 hj).1
      rw [Nat.zero_add, h.cell hjl, hj]
      rfl) hg (by omega) hc (by
      show (Lib.join (xs.map (·.data.toList)) [124]).length ≤ _
      rw [hj]
      have := btx_len zs 10
      omega)
  refine this.mono ?_
  rintro e w' ⟨rfl, b⟩
  refine ⟨?_, b⟩
  show Ending.returned (.string ⟨(Lib.join (xs.map (·.data.toList)) [124]).toArray⟩) = _
  rw [hj]
  rfl

set_option maxRecDepth 100000 in
set_option maxHeartbeats 1000000 in
theorem impl_BoardText_no (A : Option Addr) (c : Nat) (zs : List Int) (w : World) (hr : Rd .i64 w A zs) (hl : zs.length ≤ 4194304) (hf : brdB zs = false) :
    Calls Tryd.prog 9 #[.slice A zs.length c] w fun e w' => e = .returned (.string (btxt zs)) ∧ Below w.heap.size w w' := by
  have HF : Hid (btxt zs = dtx []) := Lib.hid (by simp [btxt, hf])
  have HLP : Hid (∀ e w', LayPost w zs e w' → e = .returned (.tuple #[ten [], .bool false]) ∧ Below w.heap.size w w') := Lib.hid (fun e w' h => by
    unfold LayPost laidL at h; rw [hf] at h; exact h)
  clear hf
  go_enter Tryd.func9, Tryd.ntmps9
  go_wp2_with fail
  refine (layOut _ _ _ _ hr hl).mono ?_
  intro e w1 h
  obtain ⟨rfl, b1⟩ := HLP.out _ _ h
  clear h HLP
  have HB := Lib.hid b1
  clear b1
  rw [ten]
  go_wp2_with fail
  go_ret
  exact ⟨ret_str HF.out.symm, HB.out.alloc HB.out.size _⟩

set_option maxRecDepth 100000 in
set_option maxHeartbeats 400000 in
theorem impl_BoardText_yes (A : Option Addr) (c : Nat) (zs : List Int) (w : World) (hr : Rd .i64 w A zs) (hl : zs.length ≤ 4194304) (hf : brdB zs = true) :
    Calls Tryd.prog 9 #[.slice A zs.length c] w fun e w' => e = .returned (.string (btxt zs)) ∧ Below w.heap.size w w' := by
  have HF : Hid (btxt zs = dtx (btx zs 10)) := Lib.hid (by simp [btxt, hf])
  have HLP : Hid (∀ e w', LayPost w zs e w' → e = .returned (.tuple #[ten zs, .bool true]) ∧ Below w.heap.size w w') := Lib.hid (fun e w' h => by
    unfold LayPost laidL at h; rw [hf] at h; exact h)
  obtain ⟨h10, hall⟩ := brdB_t hf
  have HALL := Lib.hid hall
  have H10 := Lib.hid h10
  clear hf hall h10
  go_enter Tryd.func9, Tryd.ntmps9
  go_wp2_with fail
  refine (layOut _ _ _ _ hr hl).mono ?_
  intro e w1 h
  obtain ⟨rfl, b1⟩ := HLP.out _ _ h
  clear h HLP
  have HB := Lib.hid b1
  have HBN := Lib.hid (Bt.ofZ w1 zs H10.out)
  have hs1 := b1.size
  clear b1
  rw [ten]
  go_wp2_with (at_make; refine wp_mk0s _ _ rfl rfl _ (w1.heap.size + 1) 10 rfl rfl (by omega) (by simp) ?_; intro A2 w2 s2 g2; refine Hid.out ?_)
  have HB2 := Lib.hid (HBN.out.grown g2 (by simp))
  have HL2 := Lib.hid ((HB.out.alloc HB.out.size _).grown g2 (by simp; omega) (fun _ h => by cases h))
  have HS2 := Lib.hid s2
  have hz2 := g2.size
  simp at hz2
  clear HBN HB g2 s2 hr
  refine Lib.hid ?_
  go_wp2_with fail
  go_loopw [5, 6] (fun v i wr => ∃ (j : Nat) (A : Option Addr) (c : Nat) (xs : List ByteArray), j ≤ 10 ∧ i = .int .i64 (9 - (j : Int)) ∧ v = .slice A xs.length c ∧ Hid (xs = wds zs j) ∧ Ss wr (w1.heap.size + 1) A c xs ∧ Bt wr w1.heap.size w1.heap.size zs ∧ Below w.heap.size w wr ∧ w1.heap.size + 1 ≤ wr.heap.size) (fun _ i _ => (intOf i + 1).toNat)
  case atStart => exact ⟨0, _, _, [], Nat.zero_le _, rfl, rfl, Lib.hid rfl, HS2.out, HB2.out, HL2.out, hz2⟩
  case round =>
    obtain ⟨j, A3, c3, xs, hj, rfl, rfl, HX, s3, b3, q3, z3⟩ := hrel
    have HS := Lib.hid s3
    have HT := Lib.hid b3
    have HQ := Lib.hid q3
    have xl : xs.length ≤ 10 := by rw [HX.out, wds_len]; exact hj
    by_cases hlt : j < 10
    · obtain ⟨k, hk⟩ : ∃ k : Nat, (9 : Int) - (j : Int) = (k : Int) := ⟨9 - j, by omega⟩
      have hkn : 9 - j = k := by omega
      have hkl : k < 10 := by omega
      have ⟨d0, d1⟩ := HALL.out k hkl
      obtain ⟨m, hm⟩ : ∃ m : Nat, nth zs k = (m : Int) := ⟨(nth zs k).toNat, by omega⟩
      have hm20 : m ≤ 20 := by omega
      have hcell := b3.cell hkl
      rw [hm] at hcell
      have hblt := b3.lt.2
      have HW : Hid (wds zs (j + 1) = xs ++ [dtx (dec2 m)]) := Lib.hid (by rw [wds, hkn, hm, ← HX.out]; rfl)
      have w9 : IntKind.i64.wrap ((k : Int) - 1) = (k : Int) - 1 := IntWalk.i64_in _ (by omega)
      have HK := Lib.hid hk
      have z0 : 0 ≤ (k : Int) := by omega
      rw [hk]
      clear hk hkn d0 d1 hm s3 b3 q3
      go_wp2_with fail
      refine (itoa m _ hm20).mono ?_
      rintro e w4 ⟨rfl, rfl⟩
      go_wp2_with (at_builtin; refine wp_ap1s _ _ rfl rfl _ (w1.heap.size + 1) A3 c3 xs _ rfl rfl HS.out (by omega) z3 ?_; intro A5 c5 w5 s5 g5; refine Hid.out ?_)
      have HS5 := Lib.hid s5
      have HT5 := Lib.hid (HT.out.grown g5 (fun h => by have := (HS.out.lt _ h.symm).1; omega))
      have HQ5 := Lib.hid (HQ.out.grown g5 HQ.out.size (fun k hk => by have := (HS.out.lt _ hk).1; omega))
      have z5 := g5.size
      clear s5 g5 hcell
      refine Lib.hid ?_
      go_wp2_with fail
      go_roundw
      case rel => exact ⟨j + 1, A5, c5, xs ++ [dtx (dec2 m)], by omega, by have h9 := HK.out; simp only [Value.int.injEq, true_and]; omega, by first | rfl | simp, Lib.hid HW.out.symm, HS5.out, HT5.out, HQ5.out, by omega⟩
      case measure => have h9 := HK.out; simp [intOf] <;> omega
    · obtain rfl : j = 10 := by omega
      obtain ⟨g, rfl, hg0, hg1, hg2, hg3⟩ : ∃ g, A3 = some ⟨g, 0, none⟩ ∧ w1.heap.size + 1 ≤ g ∧ g < wr.heap.size ∧ xs.length ≤ c3 ∧ c3 ≤ maxLen := by
        rcases s3.form with ⟨_, _, h⟩ | h
        · rw [HX.out] at h
          have := congrArg List.length h
          rw [wds_len] at this
          simp at this
        · exact h
      have HJ := Lib.hid (join_at g c3 zs xs _ wr HX.out s3 hg1 hg2)
      clear s3 b3 q3
      go_wp2_with fail
      refine HJ.out.mono ?_
      rintro e w6 ⟨rfl, b6⟩
      go_wp2_with fail
      go_ret
      exact ⟨ret_str HF.out.symm, bstep HQ.out b6⟩
theorem impl_BoardText (A : Option Addr) (c : Nat) (zs : List Int) (w : World) (hr : Rd .i64 w A zs) (hl : zs.length ≤ 4194304) :
    Calls Tryd.prog 9 #[.slice A zs.length c] w fun e w' => e = .returned (.string (btxt zs)) ∧ Below w.heap.size w w' := by
  cases h : brdB zs
  · exact impl_BoardText_no A c zs w hr hl h
  · exact impl_BoardText_yes A c zs w hr hl h
end Go.Proofs.YtnmfppjjhbkfmaaDoor
