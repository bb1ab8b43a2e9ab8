/- The rods of a frame: a slice of pairs of numbers behind a pointer. -/
import Derived.Test.YtfdbhaojdccomaaDoorFr
import Derived.RegionTactic
import Derived.BigRegion
namespace Go.Proofs.YtfdbhaojdccomaaDoor
open Go.RowKit

/-- The cells of the rods. -/
def inter : List Int → List Int → List Value
  | h :: hs, l :: ls => .int .i64 h :: .int .i64 l :: inter hs ls
  | _, _ => []
theorem inter_len : ∀ {hs ls : List Int}, hs.length = ls.length → (inter hs ls).length = hs.length * 2
  | [], [], _ => rfl
  | h :: hs, l :: ls, he => by simp only [inter, List.length_cons] at *; rw [inter_len (by omega)]; omega
theorem nth_cons_succ (h : Int) (hs : List Int) (j : Nat) : nth (h :: hs) (j + 1) = nth hs j := by simp [nth]
theorem inter_hi : ∀ {hs ls : List Int} {j : Nat}, hs.length = ls.length → j < hs.length → (inter hs ls)[j * 2]? = some (.int .i64 (nth hs j))
  | h :: hs, l :: ls, 0, _, _ => rfl
  | h :: hs, l :: ls, j + 1, he, hj => by
    rw [nth_cons_succ, show (j + 1) * 2 = j * 2 + 1 + 1 by omega]
    simp only [inter, List.getElem?_cons_succ]
    exact inter_hi (by simpa using he) (by simpa using hj)
theorem inter_lo : ∀ {hs ls : List Int} {j : Nat}, hs.length = ls.length → j < hs.length → (inter hs ls)[j * 2 + 1]? = some (.int .i64 (nth ls j))
  | h :: hs, l :: ls, 0, _, _ => rfl
  | h :: hs, l :: ls, j + 1, he, hj => by
    rw [nth_cons_succ, show (j + 1) * 2 + 1 = j * 2 + 1 + 1 + 1 by omega]
    simp only [inter, List.getElem?_cons_succ]
    exact inter_lo (by simpa using he) (by simpa using hj)
theorem inter_set : ∀ {hs ls : List Int} (j : Nat) (x y : Int), hs.length = ls.length → ((inter hs ls).set (j * 2) (.int .i64 x)).set (j * 2 + 1) (.int .i64 y) = inter (hs.set j x) (ls.set j y)
  | [], [], j, x, y, _ => by simp [inter]
  | h :: hs, l :: ls, 0, x, y, _ => by simp [inter]
  | h :: hs, l :: ls, j + 1, x, y, he => by
    rw [show (j + 1) * 2 = j * 2 + 1 + 1 by omega]
    simp only [inter, List.set_cons_succ]
    rw [inter_set j x y (by simpa using he)]
theorem inter_rep : ∀ n : Nat, inter (List.replicate n 0) (List.replicate n 0) = List.replicate (n * 2) (.int .i64 0)
  | 0 => rfl
  | n + 1 => by
    rw [List.replicate_succ]
    simp only [inter]
    rw [inter_rep n, show (n + 1) * 2 = n * 2 + 1 + 1 by omega, List.replicate_succ, List.replicate_succ]

/-- The rods at block p: a slice of the pairs at block g. -/
structure Rods (w : World) (base p g : Nat) (hs ls : List Int) : Prop where
  len : hs.length = ls.length
  box : w.heap[p]? = some (.cells #[.slice (some ⟨g, 0, none⟩) hs.length hs.length] 49 (0, 0))
  row : w.heap[g]? = some (.cells (inter hs ls).toArray 51 (0, 0))
  pb : base ≤ p
  gb : base ≤ g
  ne : p ≠ g

section
variable {w w' : World} {base p g : Nat} {hs ls : List Int}
theorem Rods.plt (h : Rods w base p g hs ls) : p < w.heap.size := (Array.getElem?_eq_some_iff.1 h.box).1
theorem Rods.glt (h : Rods w base p g hs ls) : g < w.heap.size := (Array.getElem?_eq_some_iff.1 h.row).1
theorem Rods.cbox (h : Rods w base p g hs ls) : w.cell? ⟨p, 0, none⟩ = some (.slice (some ⟨g, 0, none⟩) hs.length hs.length) := by simp [World.cell?, h.box]
theorem Rods.chi (h : Rods w base p g hs ls) {j : Nat} (hj : j < hs.length) : w.cell? ⟨g, j * 2, none⟩ = some (.int .i64 (nth hs j)) := by
  simp [World.cell?, h.row, inter_hi h.len hj]
theorem Rods.clo (h : Rods w base p g hs ls) {j : Nat} (hj : j < hs.length) : w.cell? ⟨g, j * 2 + 1, none⟩ = some (.int .i64 (nth ls j)) := by
  simp [World.cell?, h.row, inter_lo h.len hj]
theorem Rods.free (h : Rods w base p g hs ls) (j : Nat) : w.frozen? ⟨g, j, none⟩ = false := by simp [World.frozen?, h.row]
theorem Rods.keep (h : Rods w base p g hs ls) (hp : w'.heap[p]? = w.heap[p]?) (hg : w'.heap[g]? = w.heap[g]?) : Rods w' base p g hs ls :=
  ⟨h.len, by rw [hp]; exact h.box, by rw [hg]; exact h.row, h.pb, h.gb, h.ne⟩
theorem Rods.below (h : Rods w base p g hs ls) (hb : Below w.heap.size w w') : Rods w' base p g hs ls := h.keep (hb.block p h.plt) (hb.block g h.glt)
theorem Rods.drew (h : Rods w base p g hs ls) : Rods w.drew base p g hs ls := h.keep rfl rfl
theorem Rods.drewN (h : Rods w base p g hs ls) (n : Nat) : Rods (w.drewN n) base p g hs ls := h.keep rfl rfl
theorem Rods.set_ (h : Rods w base p g hs ls) (j : Nat) (x y : Int) : Rods ((w.setCell ⟨g, j * 2, none⟩ (.int .i64 x)).setCell ⟨g, j * 2 + 1, none⟩ (.int .i64 y)) base p g (hs.set j x) (ls.set j y) := by
  have e1 := heap_setCell_same w g (j * 2) _ _ (.int .i64 x) h.row
  have e2 := heap_setCell_same _ g (j * 2 + 1) _ _ (.int .i64 y) e1
  refine ⟨by simp [h.len], ?_, ?_, h.pb, h.gb, h.ne⟩
  · rw [Below.heap_setCell _ _ _ p h.ne, Below.heap_setCell _ _ _ p h.ne, List.length_set]; exact h.box
  · rw [e2, ← inter_set j x y h.len]; simp
end

theorem rod_info : (Tryd.prog.info? 51).map (fun i => (i.zero, i.size, i.bytes)) = some (some (.agg #[.int .i64 0, .int .i64 0]), 2, 16) := by kernel_rfl

/-- make(beadRods, n) -/
theorem wp_mkR {ops : Array Oper} {rest : List Oper} {o : Oper} {a : Act} {Q : Exit → Act → World → Prop} (l x : Operand) (hgd : o.guard = none)
    (ho : o.op = Op.makeSlice 49 l x) (w : World) (n : Nat) (hl : a.eval l = .int .i64 (n : Int)) (hx : a.eval x = .int .i64 (n : Int)) (hn : n ≤ 4194304)
    (h : ∀ w', w'.heap[w.heap.size]? = some (.cells (inter (List.replicate n 0) (List.replicate n 0)).toArray 51 (0, 0)) → w.grownBy w' none → wpList Tryd.prog ops Q rest (a.put o.dst (.slice (some ⟨w.heap.size, 0, none⟩) n n)) w') :
    wpList Tryd.prog ops Q (o :: rest) a w := by
  obtain ⟨i, hi, hz0, hz1, hz2⟩ := info_parts rod_info
  refine wpList_make_full w hgd l x 49 ho w.heap.size 51 i (.agg #[.int .i64 0, .int .i64 0]) 2 Tryd.underlying49 hi hz0 hz1 .i64 .i64 n n n hl hx rfl rfl (by rw [hz2]; omega) (by simp only [maxLen]; omega) (Nat.le_refl _)
    (fun w' h1 h2 => h w' ?_ h2)
  have e : (madeCells (Value.agg #[.int .i64 0, .int .i64 0]).cells (n * 2)).toList = inter (List.replicate n 0) (List.replicate n 0) := by
    rw [inter_rep, List.eq_replicate_iff]
    refine ⟨by simp [madeCells, Value.cells], fun b hb => ?_⟩
    simp [madeCells, Value.cells] at hb
    obtain ⟨j, hj, hb⟩ := hb
    rcases (show j % 2 = 0 ∨ j % 2 = 1 by omega) with h0 | h0 <;> (rw [h0] at hb; simp at hb; exact hb.symm)
  rw [e] at h1
  rcases h1.2 with ⟨hv, _⟩ | ⟨g', cap, cur, hv, hb, hg, hnc, hcm, hcs, htk⟩
  · cases hv
  · injection hv with v1 v2 v3
    injection v1 with v1
    injection v1 with v1
    subst v1 v3
    rw [hg, ← htk, List.take_of_length_le (by simp [hcs])]

/-- The valid frame's numbers. -/
structure FrOk (hs ls : List Int) : Prop where
  n1 : 1 ≤ hs.length
  n6 : hs.length ≤ 6
  len : hs.length = ls.length
  hi : ∀ k, k < hs.length → 0 ≤ nth hs k ∧ nth hs k ≤ 1
  lo : ∀ k, k < hs.length → 0 ≤ nth ls k ∧ nth ls k ≤ 4
theorem frB_ok {hs ls : List Int} (h : frB hs ls = true) : FrOk hs ls := by
  obtain ⟨h1, h2, h3, h4⟩ := frB_t h
  exact ⟨h1, h2, h3.symm, fun k hk => inB_t (h4 k hk).1, fun k hk => inB_t (h4 k hk).2⟩

/-- The rods of a valid frame are returned. -/
def RodsPost (w : World) (hs ls : List Int) (e : Ending) (w' : World) : Prop :=
  ∃ p g, e = .returned (.tuple #[.pointer (some ⟨p, 0, none⟩), .bool true]) ∧ Rods w' w.heap.size p g hs ls ∧ Below w.heap.size w w'

set_option maxRecDepth 100000 in
theorem rodsOf_yes (A B : Option Addr) (c d : Nat) (hs ls : List Int) (w : World) (hr : FrRd w A B hs ls) (ok : FrOk hs ls) :
    Calls Tryd.prog 21 #[.agg #[.slice A hs.length c, .slice B ls.length d]] w (RodsPost w hs ls) := by
  have n1 := ok.n1
  have n6 := ok.n6
  have d1 : ((hs.length : Int) != (ls.length : Int)) = false := by simp [ok.len]
  have l1 : hs.length ≤ ls.length := by have := ok.len; omega
  have l2 : ls.length ≤ hs.length := by have := ok.len; omega
  go_enter Tryd.func21, Tryd.ntmps21
  go_wp2_with (at_make; refine wp_mkR _ _ rfl rfl _ hs.length rfl rfl (by omega) ?_; intro w0 hs0 hg0)
  have hsz : w0.heap.size ≠ w.heap.size + 1 := by have := (Array.getElem?_eq_some_iff.1 hs0).1; simp at this; omega
  have hfb : (w.alloc (.cells #[.slice A hs.length c, .slice B ls.length d] 27)).heap[w.heap.size]? = some (.cells #[.slice A hs.length c, .slice B ls.length d] 27 (0, 0)) := heap_alloc_new _ _
  have b0 : Below w.heap.size w w0 := ((Below.refl _ _).alloc (Nat.le_refl _) _).grown hg0 (by simp) (fun _ hk => by cases hk)
  have hf0 := hg0.block w.heap.size (by simp) (by simp)
  rw [hfb] at hf0
  have hzz := b0.size
  have R0 : Rods (w0.alloc (.cells #[.slice (some ⟨w.heap.size + 1, 0, none⟩) hs.length hs.length] 49)) w.heap.size w0.heap.size (w.heap.size + 1) (copTo hs 0) (copTo ls 0) := by
    rw [copTo_zero, copTo_zero, ← ok.len]
    refine ⟨rfl, by rw [List.length_replicate]; exact heap_alloc_new _ _, ?_, hzz, by omega, hsz⟩
    rw [Below.heap_alloc _ _ _ (by have := (Array.getElem?_eq_some_iff.1 hs0).1; simpa using this)]
    simpa using hs0
  have F0 : (w0.alloc (.cells #[.slice (some ⟨w.heap.size + 1, 0, none⟩) hs.length hs.length] 49)).heap[w.heap.size]? = some (.cells #[.slice A hs.length c, .slice B ls.length d] 27 (0, 0)) := by
    rw [Below.heap_alloc _ _ _ (by have := (Array.getElem?_eq_some_iff.1 hf0).1; exact this)]; exact hf0
  have B0 := b0.alloc hzz (.cells #[.slice (some ⟨w.heap.size + 1, 0, none⟩) hs.length hs.length] 49)
  have HR0 := Lib.hid R0
  have HF0 := Lib.hid F0
  have HB0 := Lib.hid B0
  have HSZ := Lib.hid hsz
  clear R0 F0 B0 hs0 hg0 hfb hf0 b0 hsz
  generalize w0.heap.size = p at *
  go_loopw [31] (fun i wr => ∃ k : Nat, k ≤ hs.length ∧ i = .int .i64 k ∧ Rods wr w.heap.size p (w.heap.size + 1) (copTo hs k) (copTo ls k) ∧ Hid (wr.heap[w.heap.size]? = some (.cells #[.slice A hs.length c, .slice B ls.length d] 27 (0, 0))) ∧ Below w.heap.size w wr) (fun i _ => hs.length - (intOf i).toNat)
  case atStart => exact ⟨0, Nat.zero_le _, rfl, HR0.out, HF0, HB0.out⟩
  case round =>
    obtain ⟨k, hk, rfl, R, HF, bw⟩ := hrel
    have hlh := copTo_len hs k hk
    have hcb := R.cbox
    rw [hlh] at hcb
    have plt := R.plt
    have glt := R.glt
    have pb := R.pb
    have f0 : wr.cell? ⟨w.heap.size, 0, none⟩ = some (.slice A hs.length c) := by simp [World.cell?, HF.out]
    have f1 : wr.cell? ⟨w.heap.size, 1, none⟩ = some (.slice B ls.length d) := by simp [World.cell?, HF.out]
    have flt : w.heap.size < wr.heap.size := by omega
    by_cases hlt : k < hs.length
    · obtain ⟨b, off, rfl, hbl, hc⟩ := hr.hi.at hlt
      obtain ⟨b', off', rfl, hbl', hc'⟩ := hr.lo.at (i := k) (by omega)
      have hky : k < ls.length := by omega
      have hd := bw.cell (p := ⟨b, off + k, none⟩) hbl
      have hd' := bw.cell (p := ⟨b', off' + k, none⟩) hbl'
      rw [hc] at hd
      rw [hc'] at hd'
      have bl : b < wr.heap.size := by omega
      have bl' : b' < wr.heap.size := by omega
      have bn : ¬ b = w.heap.size + 1 := by omega
      have bn' : ¬ b' = w.heap.size + 1 := by omega
      have ch := R.chi (j := k) (by omega)
      have cl := R.clo (j := k) (by omega)
      have fh := R.free (k * 2)
      have fl := R.free (k * 2 + 1)
      have ⟨x0, x1⟩ := ok.hi k hlt
      have ⟨y0, y1⟩ := ok.lo k hlt
      have HS := Lib.hid (R.set_ k (nth hs k) (nth ls k))
      clear hlh hc hc' hbl hbl'
      go_wp2
      go_region
      go_wp2
      go_roundw
      case rel =>
        refine ⟨k + 1, by omega, by go_num, ?_, Lib.hid ?_, ?_⟩
        · rw [← copTo_succ hs k hlt, ← copTo_succ ls k hky]
          exact HS.out.drew
        · show ((wr.setCell ⟨w.heap.size + 1, k * 2, none⟩ (.int .i64 (nth hs k))).setCell ⟨w.heap.size + 1, k * 2 + 1, none⟩ (.int .i64 (nth ls k))).heap[w.heap.size]? = _
          rw [Below.heap_setCell _ _ _ _ (by simp), Below.heap_setCell _ _ _ _ (by simp)]
          exact HF.out
        · exact ((bw.setCell (by simp) _).setCell (by simp) _).drew
      case measure => simp [intOf]; omega
    · obtain rfl : k = hs.length := by omega
      have hle := ok.len
      rw [copTo_all, hle, copTo_all] at R
      have HR := Lib.hid R
      clear R hcb hlh hle
      go_wp2
      go_ret2
      exact ⟨p, w.heap.size + 1, rfl, HR.out, bw⟩
end Go.Proofs.YtfdbhaojdccomaaDoor
