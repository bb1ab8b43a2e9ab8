/- Numerals: lists of one to six digits, and their texts. -/
import Derived.Test.YtnmfppjjhbkfmaaIn
import Derived.Test.YtnmfppjjhbkfmaaOwn
import Derived.Laws.IdiomStrings
namespace Go.Proofs.Ytnmfppjjhbkfmaa
open Go.RowKit

theorem byte_info : (Try.prog.info? 5).map (fun i => (i.zero, i.size, i.bytes)) = some (some (.int .u8 0), 1, 1) := by kernel_rfl

def bcells (l : List UInt8) : List Value := l.map fun b => Value.int .u8 (b.toNat : Int)
/-- The slice of bytes .slice A l.length c owns its row, in a block from base on, and reads as l. -/
def Slb (w : World) (base : Nat) (A : Option Addr) (c : Nat) (l : List UInt8) : Prop :=
  w.ownsRow base 5 1 (.slice A l.length c) l.length (bcells l)

theorem Slb.lt {w : World} {base c : Nat} {A : Option Addr} {l : List UInt8} (h : Slb w base A c l) : ∀ k, blk A = some k → base ≤ k ∧ k < w.heap.size := by
  intro k hk
  exact World.ownsRow.lt h k (by rw [ownBlock_blk]; exact hk)

/-- append(text, b) of one byte. -/
theorem wp_apb {ops : Array Oper} {rest : List Oper} {o : Oper} {a : Act} {Q : Exit → Act → World → Prop} (s x : Operand) (hgd : o.guard = none)
    (ho : o.op = .call { callee := .builtin .append, args := #[s, x], argTypes := #[22, 22] }) (w : World) (base : Nat) (A : Option Addr) (c : Nat) (l : List UInt8) (z : Int) (b : UInt8)
    (hs : a.eval s = .slice A l.length c) (hx : a.eval x = .slice (some ⟨w.heap.size, 0, none⟩) 1 1) (hz : z = (b.toNat : Int)) (hown : Slb w base A c l) (hlen : l.length ≤ 4194304) (hbase : base ≤ w.heap.size)
    (h : ∀ A' c' w', Slb w' base A' c' (l ++ [b]) → w.grownBy w' (blk A) → wpList Try.prog ops Q rest (a.put o.dst (.slice A' (l ++ [b]).length c')) w') :
    wpList Try.prog ops Q (o :: rest) a (w.alloc (.cells #[.int .u8 z] 5)) := by
  obtain ⟨i, hi, hz0, hz1, hz2⟩ := info_parts byte_info
  subst hz
  refine wpList_append_own_at (w.alloc (.cells #[.int .u8 (b.toNat : Int)] 5)) hgd s x 22 ho base 5 i (.int .u8 0) 1 1 Try.underlying22 hi hz0 hz1 hz2 rfl (by decide) _ l.length (bcells l) hs (World.ownsRow.alloc hown _)
    ⟨w.heap.size, 0, none⟩ 1 1 [.int .u8 (b.toNat : Int)] hx rfl ?_ ?_ (by simp only [maxLen]; omega) (by omega) (by simp; omega) ?_
  · intro j u hj
    match j, hj with
    | 0, hj => simp at hj; subst hj; simp [Addr.add]
  · intro u hu; simp at hu; subst hu; rfl
  · intro v' w' hown' hg _ _
    rw [ownBlock_blk] at hg
    have hf : ∃ A' c', v' = .slice A' (l ++ [b]).length c' := by
      rcases hown'.2 with ⟨_, h0⟩ | ⟨g, cap, cur, hv, _⟩
      · omega
      · exact ⟨some ⟨g, 0, none⟩, cap, by rw [hv]; simp⟩
    obtain ⟨A', c', rfl⟩ := hf
    refine h A' c' w' ?_ ?_
    · unfold Slb
      have e : bcells (l ++ [b]) = bcells l ++ [.int .u8 (b.toNat : Int)] := by simp [bcells]
      rw [e]
      simpa using hown'
    · exact ⟨hg.os, hg.tape, hg.output, Nat.le_trans (by simp) hg.size, fun k hk hne => (hg.block k (by simp; omega) hne).trans (Below.heap_alloc w _ k hk)⟩

/-- string(text) of a slice of the call's own with at least one byte. -/
theorem conv_b {w : World} {base c : Nat} {A : Option Addr} {l : List UInt8} (h : Slb w base A c l) (hn : 0 < l.length) :
    (convert 22 9 (.slice A l.length c)).run Try.prog w = .ok (.string ⟨l.toArray⟩) w := by
  have h' := h
  rcases h.2 with ⟨_, h0⟩ | ⟨g, cap, cur, hv, -⟩
  · omega
  · injection hv with h1 h2 h3
    subst h1 h3
    exact run_convert_bytes_back (P := Try.prog) w 22 9 5 ⟨g, 0, none⟩ c l Try.underlying22 Try.underlying5 Try.underlying9
      (fun j hj => World.ownsRow.cells h' (g := g) rfl j _ (by simp [bcells, hj]))

/-- The list is a numeral. -/
def numB (zs : List Int) : Bool := decide (1 ≤ zs.length ∧ zs.length ≤ 6 ∧ ∀ z ∈ zs, 0 ≤ z ∧ z ≤ 9)
theorem numB_t {zs : List Int} (h : numB zs = true) : 1 ≤ zs.length ∧ zs.length ≤ 6 ∧ ∀ z ∈ zs, 0 ≤ z ∧ z ≤ 9 := by simpa [numB] using h
theorem numB_of {zs : List Int} (h : 1 ≤ zs.length) (h1 : zs.length ≤ 6) (h2 : ∀ z ∈ zs, 0 ≤ z ∧ z ≤ 9) : numB zs = true := by simp [numB]; exact ⟨h, h1, h2⟩
theorem numB_of_nth {zs : List Int} (h : 1 ≤ zs.length) (h1 : zs.length ≤ 6) (h2 : ∀ i, i < zs.length → 0 ≤ nth zs i ∧ nth zs i ≤ 9) : numB zs = true :=
  numB_of h h1 (fun z hz => by obtain ⟨i, hi, rfl⟩ := List.getElem_of_mem hz; rw [nth_get hi]; exact h2 i hi)
theorem numB_digit {zs : List Int} (h : numB zs = true) (i : Nat) : 0 ≤ nth zs i ∧ nth zs i ≤ 9 := by
  by_cases hi : i < zs.length
  · exact (numB_t h).2.2 _ (nth_mem hi)
  · simp [nth, List.getElem?_eq_none (Nat.le_of_not_lt hi)]
theorem numB_short {zs : List Int} (h : zs.length < 1 ∨ 6 < zs.length) : numB zs = false := by
  cases e : numB zs
  · rfl
  · have := numB_t e; omega
theorem numB_bad {zs : List Int} {i : Nat} (_ : i < zs.length) (h : inB (nth zs i) 0 9 = false) : numB zs = false := by
  cases e : numB zs
  · rfl
  · have := numB_digit e i; have := inB_f h; omega

/-- The first j digits, as bytes. -/
def digsTo (zs : List Int) (j : Nat) : List UInt8 := (zs.take j).map fun z => UInt8.ofNat (48 + z.toNat)
def digs (zs : List Int) : List UInt8 := digsTo zs zs.length
theorem digsTo_len (zs : List Int) (j : Nat) (h : j ≤ zs.length) : (digsTo zs j).length = j := by simp [digsTo]; omega
theorem digsTo_succ (zs : List Int) (j : Nat) (h : j < zs.length) : digsTo zs (j + 1) = digsTo zs j ++ [UInt8.ofNat (48 + (nth zs j).toNat)] := by
  unfold digsTo
  rw [take_nth h]; simp

def DigPost (w : World) (zs : List Int) (e : Ending) (w' : World) : Prop :=
  ∃ s, e = .returned (.tuple #[.string s, .bool (numB zs)]) ∧ (numB zs = true → s = ⟨(digs zs).toArray⟩) ∧ Below w.heap.size w w'

theorem wp_mkb {ops : Array Oper} {rest : List Oper} {o : Oper} {a : Act} {Q : Exit → Act → World → Prop} (l x : Operand) (hgd : o.guard = none)
    (ho : o.op = Op.makeSlice 22 l x) (w : World) (base n : Nat) (hl : a.eval l = .int .i64 0) (hx : a.eval x = .int .i64 (n : Int)) (hn : n ≤ 4194304) (hbase : base ≤ w.heap.size)
    (h : ∀ A' w', Slb w' base A' n [] → w.grownBy w' none → wpList Try.prog ops Q rest (a.put o.dst (.slice A' 0 n)) w') :
    wpList Try.prog ops Q (o :: rest) a w := by
  obtain ⟨i, hi, hz0, hz1, hz2⟩ := info_parts byte_info
  exact wpList_make_own w hgd l x 22 ho base 5 i (.int .u8 0) 1 Try.underlying22 hi hz0 hz1 .i64 .i64 n n hl hx rfl (by rw [hz2]; omega) (by simp only [maxLen]; omega) hbase
    (fun w' h1 h2 => h _ w' h1 h2)

theorem DigPost.bad {w w' : World} {zs : List Int} (h : numB zs = false) (s : ByteArray) (hb : Below w.heap.size w w') : DigPost w zs (.returned (.tuple #[.string s, .bool false])) w' :=
  ⟨s, by rw [h], fun e => (by rw [h] at e; cases e), hb⟩
theorem digit_byte (z : Int) (h0 : 0 ≤ z) (h1 : z ≤ 9) : 48 + z = ((UInt8.ofNat (48 + z.toNat)).toNat : Int) := by
  rw [UInt8.toNat_ofNat_of_lt' (by simp [UInt8.size]; omega)]; omega

set_option maxRecDepth 100000 in
theorem digitsOf (A : Option Addr) (c : Nat) (zs : List Int) (w : World) (hr : Rd .i64 w A zs) (hl : zs.length ≤ 4194304) :
    Calls Try.prog 10 #[.slice A zs.length c] w (DigPost w zs) := by
  by_cases h0 : zs.length < 1
  · go_enter Try.func10, Try.ntmps10
    go_wp2
    go_ret2
    exact DigPost.bad (numB_short (.inl h0)) _ (Below.refl _ _)
  by_cases h1 : 6 < zs.length
  · go_enter Try.func10, Try.ntmps10
    go_wp2
    go_ret2
    exact DigPost.bad (numB_short (.inr h1)) _ (Below.refl _ _)
  go_enter Try.func10, Try.ntmps10
  go_wp2_with (at_make; refine wp_mkb _ _ rfl rfl _ w.heap.size 6 rfl rfl (by omega) (by omega) ?_; intro A0 w0 hs0 hg0)
  go_loopw [4, 18] (fun v i wr => ∃ (j : Nat) (B : Option Addr) (d : Nat), j ≤ zs.length ∧ i = .int .i64 j ∧ v = .slice B (digsTo zs j).length d ∧ Slb wr w.heap.size B d (digsTo zs j) ∧ (∀ k, k < j → 0 ≤ nth zs k ∧ nth zs k ≤ 9) ∧ Below w.heap.size w wr) (fun _ i _ => zs.length - (intOf i).toNat)
  case atStart => exact ⟨0, A0, 6, Nat.zero_le _, rfl, rfl, hs0, fun k hk => absurd hk (by omega), (Below.refl _ _).grown hg0 (Nat.le_refl _) (fun _ hk => by cases hk)⟩
  case round =>
    obtain ⟨j, B, d, hj, rfl, rfl, hs, hall, hb⟩ := hrel
    have HA := Lib.hid hall
    clear hall
    have hbs := hb.size
    by_cases hlt : j < zs.length
    · obtain ⟨b, off, rfl, hbl, hc⟩ := (hr.below hb).at hlt
      cases hd : inB (nth zs j) 0 9
      · go_wp2_with (go_at_call 21; refine (isDigit _ _).mono ?_; rintro e w' ⟨rfl, rfl⟩)
        go_ret2
        exact DigPost.bad (numB_bad hlt hd) _ hb
      · have ⟨d0, d1⟩ := inB_t hd
        have hlen : (digsTo zs j).length ≤ 6 := by rw [digsTo_len zs j hj]; omega
        have hby := Lib.hid (digit_byte _ d0 d1)
        go_wp2_with (first
          | (go_at_call 21; refine (isDigit _ _).mono ?_; rintro e w' ⟨rfl, rfl⟩)
          | (at_builtin; refine wp_apb _ _ rfl rfl wr w.heap.size B d (digsTo zs j) _ (UInt8.ofNat (48 + (nth zs j).toNat)) rfl rfl hby.out hs (by omega) (by omega) ?_; intro A1 c1 w1 hs1 hg1))
        go_roundw
        case rel => exact ⟨j + 1, A1, c1, by omega, by go_num, by simp [digsTo_succ zs j hlt], by rw [digsTo_succ zs j hlt]; exact hs1, fun k hk => (by
          rcases Nat.lt_or_ge k j with h | h
          · exact HA.out k h
          · obtain rfl : k = j := by omega
            exact ⟨d0, d1⟩), hb.grown hg1 (by omega) (fun k hk => (hs.lt k hk).1)⟩
        case measure => simp [intOf]; omega
    · obtain rfl : j = zs.length := by omega
      have hcv := conv_b hs (by rw [digsTo_len zs _ hj]; omega)
      go_wp2
      go_ret2
      have hn : numB zs = true := numB_of_nth (by omega) (by omega) HA.out
      exact ⟨_, by rw [hn]; rfl, fun _ => rfl, hb⟩


theorem spec_NumeralValid (A : Option Addr) (c : Nat) (zs : List Int) (w : World) (hr : Rd .i64 w A zs) (hl : zs.length ≤ 4194304) :
    Calls Try.prog 15 #[.slice A zs.length c] w fun e w' => e = .returned (.bool (numB zs)) ∧ w = w' := by
  go_enter Try.func15, Try.ntmps15
  go_wp2
  go_loop [3] (fun i => ∃ j : Nat, j ≤ zs.length ∧ i = .int .i64 j ∧ (∀ k, k < j → 0 ≤ nth zs k ∧ nth zs k ≤ 9)) (fun i => zs.length - (intOf i).toNat)
  case atStart => exact ⟨0, Nat.zero_le _, rfl, fun k hk => absurd hk (by omega)⟩
  case round =>
    obtain ⟨j, hj, rfl, hall⟩ := hrel
    have HA := Lib.hid hall
    clear hall
    by_cases hlt : j < zs.length
    · obtain ⟨b, off, rfl, hbl, hc⟩ := hr.at hlt
      cases hd : inB (nth zs j) 0 9
      · go_wp2_with (go_at_call 24; refine (l3Digit _ _).mono ?_; rintro e w' ⟨rfl, rfl⟩)
        go_ret
        exact ⟨ret_bool (numB_bad hlt hd).symm, rfl⟩
      · have ⟨d0, d1⟩ := inB_t hd
        go_wp2_with (go_at_call 24; refine (l3Digit _ _).mono ?_; rintro e w' ⟨rfl, rfl⟩)
        go_round
        case rel => exact ⟨j + 1, by omega, by go_num, fun k hk => (by
          rcases Nat.lt_or_ge k j with h | h
          · exact HA.out k h
          · obtain rfl : k = j := by omega
            exact ⟨d0, d1⟩)⟩
        case measure => simp [intOf]; omega
    · obtain rfl : j = zs.length := by omega
      go_wp2_with (go_at_call 25; refine (l6In _ _ _ _).mono ?_; rintro e w' ⟨rfl, rfl⟩)
      go_ret
      refine ⟨ret_bool ?_, rfl⟩
      cases hi : inB (zs.length : Int) 1 6
      · rw [numB_short (by have := inB_f hi; omega)]
      · have := inB_t hi
        rw [numB_of_nth (by omega) (by omega) HA.out]
end Go.Proofs.Ytnmfppjjhbkfmaa
