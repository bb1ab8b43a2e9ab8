/- Frames by value: what the laws call on them, and the reference's FrameValid. -/
import Derived.Test.YtfdbhaojdccomaaDoorOwn
import Derived.Test.YtfdbhaojdccomaaDoorIn
import Derived.Test.YtfdbhaojdccomaaDoorLater
import Derived.Lib.SmallJoins
namespace Go.Proofs.YtfdbhaojdccomaaDoor
open Go.RowKit

theorem bcell {W w1 : World} (hb : Below W.heap.size W w1) : (∀ b o, b < W.heap.size → w1.cell? ⟨b, o, none⟩ = W.cell? ⟨b, o, none⟩) ∧ (∀ b o, b < W.heap.size → w1.frozen? ⟨b, o, none⟩ = W.frozen? ⟨b, o, none⟩) :=
  ⟨fun b o h => hb.cell (p := ⟨b, o, none⟩) h, fun b o h => hb.frozen (p := ⟨b, o, none⟩) h⟩

/-- The lists of a frame can be read. -/
structure FrRd (w : World) (A B : Option Addr) (hs ls : List Int) : Prop where
  hi : Rd .i64 w A hs
  lo : Rd .i64 w B ls
theorem FrRd.below {w w' : World} {A B : Option Addr} {hs ls : List Int} (h : FrRd w A B hs ls) (hb : Below w.heap.size w w') : FrRd w' A B hs ls := ⟨h.hi.below hb, h.lo.below hb⟩
theorem FrRd.alloc {w : World} {A B : Option Addr} {hs ls : List Int} (h : FrRd w A B hs ls) (o : Obj) : FrRd (w.alloc o) A B hs ls := ⟨h.hi.alloc o, h.lo.alloc o⟩

theorem szIntS (A : Option Addr) (c : Nat) (zs : List Int) (L : Int) (w : World) (hl : zs.length ≤ 9223372036854775807) (h0 : 0 ≤ L) (h1 : L ≤ 1048576) :
    Calls Tryd.prog 16 #[.slice A zs.length c, .int .i64 L] w fun e w' => e = .returned (.int .i64 (if (zs.length : Int) ≤ L then L - zs.length else -1)) ∧ w = w' := by
  by_cases h : (zs.length : Int) ≤ L
  · rw [if_pos h]
    go_enter Tryd.func16, Tryd.ntmps16
    go_wp2
    go_ret
    exact ⟨rfl, rfl⟩
  · rw [if_neg h]
    have h4 : L - zs.length < 0 := by omega
    go_enter Tryd.func16, Tryd.ntmps16
    go_wp2
    go_ret
    exact ⟨rfl, rfl⟩

theorem szFrame (A B : Option Addr) (c d : Nat) (hs ls : List Int) (L : Int) (w : World) (hh : hs.length ≤ 9223372036854775807) (hl : ls.length ≤ 9223372036854775807) (h0 : 0 ≤ L) (h1 : L ≤ 1048576) :
    Calls Tryd.prog 5 #[.agg #[.slice A hs.length c, .slice B ls.length d], .int .i64 L] w fun e w' => e = .returned (.int .i64 (if (hs.length : Int) + ls.length ≤ L then L - hs.length - ls.length else -1)) ∧ Below w.heap.size w w' := by
  have HBE := Lib.hid (fun o => (Below.refl w.heap.size w).alloc (Nat.le_refl _) o)
  by_cases h2 : (hs.length : Int) ≤ L
  · by_cases h3 : (hs.length : Int) + ls.length ≤ L
    · rw [if_pos h3]
      go_enter Tryd.func5, Tryd.ntmps5
      go_wp2_with fail
      refine (szIntS _ _ _ _ _ hh h0 h1).mono ?_
      rintro e w' ⟨rfl, rfl⟩
      rw [if_pos h2]
      go_wp2_with fail
      refine (szIntS _ _ _ _ _ hl (by omega) (by omega)).mono ?_
      rintro e w' ⟨rfl, rfl⟩
      rw [if_pos (by omega)]
      go_wp2_with fail
      go_ret
      exact ⟨rfl, HBE.out _⟩
    · rw [if_neg h3]
      go_enter Tryd.func5, Tryd.ntmps5
      go_wp2_with fail
      refine (szIntS _ _ _ _ _ hh h0 h1).mono ?_
      rintro e w' ⟨rfl, rfl⟩
      rw [if_pos h2]
      go_wp2_with fail
      refine (szIntS _ _ _ _ _ hl (by omega) (by omega)).mono ?_
      rintro e w' ⟨rfl, rfl⟩
      rw [if_neg (by omega)]
      go_wp2_with fail
      go_ret
      exact ⟨rfl, HBE.out _⟩
  · rw [if_neg (by omega)]
    go_enter Tryd.func5, Tryd.ntmps5
    go_wp2_with fail
    refine (szIntS _ _ _ _ _ hh h0 h1).mono ?_
    rintro e w' ⟨rfl, rfl⟩
    rw [if_neg (by omega)]
    go_wp2_with fail
    go_ret
    exact ⟨rfl, HBE.out _⟩

/-- A frame of the call's own. -/
structure FrSl (w : World) (base : Nat) (A B : Option Addr) (c d : Nat) (hs ls : List Int) : Prop where
  hi : Sl w base A c hs
  lo : Sl w base B d ls
  ne : ∀ k, blk A = some k → blk B ≠ some k
theorem FrSl.rd {w : World} {base : Nat} {A B : Option Addr} {c d : Nat} {hs ls : List Int} (h : FrSl w base A B c d hs ls) : FrRd w A B hs ls := ⟨h.hi.rd, h.lo.rd⟩
theorem FrSl.below {w w' : World} {base : Nat} {A B : Option Addr} {c d : Nat} {hs ls : List Int} (h : FrSl w base A B c d hs ls) (hb : Below w.heap.size w w') : FrSl w' base A B c d hs ls := ⟨h.hi.below hb, h.lo.below hb, h.ne⟩
theorem FrSl.down {w : World} {base b' : Nat} {A B : Option Addr} {c d : Nat} {hs ls : List Int} (h : FrSl w base A B c d hs ls) (hb : b' ≤ base) : FrSl w b' A B c d hs ls := ⟨h.hi.down hb, h.lo.down hb, h.ne⟩
theorem FrSl.far {w : World} {base : Nat} {A B : Option Addr} {c d : Nat} {hs ls : List Int} (h : FrSl w base A B c d hs ls) {g j : Nat} {u : Value} (hA : ∀ k, blk A = some k → k ≠ g) (hB : ∀ k, blk B = some k → k ≠ g) : FrSl (w.setCell ⟨g, j, none⟩ u) base A B c d hs ls := by
  have f : ∀ {X : Option Addr}, (∀ k, blk X = some k → k ≠ g) → blk X = none ∨ blk X ≠ some g := fun {X} hX => by
    rcases hx : blk X with _ | k
    · exact .inl rfl
    · exact .inr fun he => hX k hx (by injection he)
  exact ⟨h.hi.grown (grownBy_set w g j u) (f hA), h.lo.grown (grownBy_set w g j u) (f hB), h.ne⟩
theorem FrSl.nil_ (w : World) (base : Nat) : FrSl w base none none 0 0 [] [] := ⟨Sl.nil_ _ _, Sl.nil_ _ _, fun _ h => by cases h⟩

/-- A new frame is returned; old memory is as it was. -/
def NewFr (w : World) (hs ls : List Int) (e : Ending) (w' : World) : Prop :=
  ∃ A B c d, e = .returned (.agg #[.slice A hs.length c, .slice B ls.length d]) ∧ FrSl w' w.heap.size A B c d hs ls ∧ Below w.heap.size w w'
/-- A frame of the call's own and a bool are returned; old memory is as it was. -/
def FrPost (w : World) (hs ls : List Int) (ok : Bool) (e : Ending) (w' : World) : Prop :=
  ∃ A B c d, e = .returned (.tuple #[.agg #[.slice A hs.length c, .slice B ls.length d], .bool ok]) ∧ FrSl w' w.heap.size A B c d hs ls ∧ Below w.heap.size w w'

theorem two_new {w1 w2 : World} {base b1 : Nat} {A B : Option Addr} {c d : Nat} {hs ls : List Int} (h1 : Sl w1 b1 A c hs) (hb1 : base ≤ b1) (b2 : Below w1.heap.size w1 w2) (h2 : Sl w2 w1.heap.size B d ls) (hbb : base ≤ w1.heap.size) : FrSl w2 base A B c d hs ls :=
  ⟨(h1.below b2).down hb1, h2.down hbb, fun k hk he => by have := h1.lt k hk; have := h2.lt k he; omega⟩

set_option maxRecDepth 100000 in
theorem toFrame (A B : Option Addr) (c d : Nat) (hs ls : List Int) (w : World) (hr : FrRd w A B hs ls) (hh : hs.length ≤ 4194304) (hl : ls.length ≤ 4194304) :
    Calls Tryd.prog 7 #[.agg #[.slice A hs.length c, .slice B ls.length d]] w (NewFr w hs ls) := by
  have HBE := Lib.hid (fun o o1 o2 => (((Below.refl w.heap.size w).alloc (Nat.le_refl _) o).alloc (by simp) o1).alloc (by simp; omega) o2)
  go_enter Tryd.func7, Tryd.ntmps7
  go_wp2_with fail
  refine (toIntS _ _ _ _ (((hr.hi.alloc _).alloc _).alloc _) hh).mono ?_
  rintro e w1 ⟨A1, c1, rfl, s1, b1⟩
  have r1 := bstep (HBE.out _ _ _) b1
  obtain ⟨q1, f1⟩ := bcell b1
  have z1 : w.heap.size + 1 + 1 < w1.heap.size := by have := b1.size; simp at this; omega
  have y1 : w.heap.size + 1 < w1.heap.size := by omega
  go_wp2_with fail
  have r1' := r1.setCell (p := ⟨w.heap.size + 2, 0, none⟩) (by simp) (.slice A1 hs.length c1)
  have s1' := s1.grown (grownBy_set w1 (w.heap.size + 2) 0 (.slice A1 hs.length c1)) (by
    rcases hA : blk A1 with _ | k
    · exact .inl rfl
    · refine .inr fun he => ?_
      have := (s1.lt k hA).1
      injection he with he
      simp at this; omega)
  refine (toIntS _ _ _ _ (hr.lo.below r1') hl).mono ?_
  rintro e w2 ⟨B1, d1, rfl, s2, b2⟩
  have r2 := bstep r1' b2
  obtain ⟨q2, f2⟩ := bcell b2
  have z2 : w.heap.size + 1 + 1 < w2.heap.size := by have := b2.size; simp at this; omega
  have y2 : w.heap.size + 1 < w2.heap.size := by omega
  have HF := Lib.hid (two_new (base := w.heap.size) s1' (by simp; omega) b2 s2 (by simp; omega))
  go_wp2_with fail
  refine bodyPost_ret (v := .agg #[.slice A1 hs.length c1, .slice B1 ls.length d1]) (by simp [results, Tryd.results7, go_sem, *]) rfl ?_
  have hA : ∀ k, blk A1 = some k → w.heap.size + 3 ≤ k := fun k hk => by have := (s1.lt k hk).1; simpa using this
  have hB : ∀ k, blk B1 = some k → w.heap.size + 3 ≤ k := fun k hk => by have := (s2.lt k hk).1; simp at this; omega
  refine ⟨A1, B1, c1, d1, rfl, ((HF.out.far ?_ ?_).far ?_ ?_).far ?_ ?_, ((r2.setCell (by simp; omega) _).setCell (by simp) _).setCell (by simp) _⟩
  all_goals (intro k hk; first | (have := hA k hk; omega) | (have := hB k hk; omega))

/-- A frame is valid. -/
def frB (hs ls : List Int) : Bool := inB hs.length 1 6 && decide (ls.length = hs.length) && (List.range hs.length).all fun k => inB (nth hs k) 0 1 && inB (nth ls k) 0 4
theorem frB_t {hs ls : List Int} (h : frB hs ls = true) : 1 ≤ hs.length ∧ hs.length ≤ 6 ∧ ls.length = hs.length ∧ ∀ k, k < hs.length → inB (nth hs k) 0 1 = true ∧ inB (nth ls k) 0 4 = true := by
  simp only [frB, Bool.and_eq_true, decide_eq_true_eq, List.all_eq_true, List.mem_range] at h
  obtain ⟨⟨h1, h2⟩, h3⟩ := h
  have := inB_t h1
  exact ⟨by omega, by omega, h2, h3⟩
theorem frB_n {hs ls : List Int} (h : inB hs.length 1 6 = false) : frB hs ls = false := by simp [frB, h]
theorem frB_l {hs ls : List Int} (h : ls.length ≠ hs.length) : frB hs ls = false := by simp [frB, h]
theorem frB_k {hs ls : List Int} {k : Nat} (hk : k < hs.length) (h : (inB (nth hs k) 0 1 && inB (nth ls k) 0 4) = false) : frB hs ls = false := by
  cases hb : frB hs ls
  · rfl
  · have := (frB_t hb).2.2.2 k hk
    rw [this.1, this.2] at h; cases h
theorem frB_y {hs ls : List Int} (h1 : inB hs.length 1 6 = true) (h2 : ls.length = hs.length) (h3 : ∀ k, k < hs.length → (inB (nth hs k) 0 1 && inB (nth ls k) 0 4) = true) : frB hs ls = true := by
  simp only [frB, Bool.and_eq_true, decide_eq_true_eq, List.all_eq_true, List.mem_range]
  exact ⟨⟨h1, h2⟩, fun k hk => by have := h3 k hk; simpa using this⟩

theorem spec_FrameValid (A B : Option Addr) (c d : Nat) (hs ls : List Int) (w : World) (hr : FrRd w A B hs ls) (_ : hs.length ≤ 4194304) (hl : ls.length ≤ 4194304) :
    Calls Tryd.prog 17 #[.agg #[.slice A hs.length c, .slice B ls.length d]] w fun e w' => e = .returned (.bool (frB hs ls)) ∧ w' = w.alloc (.cells #[.slice A hs.length c, .slice B ls.length d] 27) := by
  cases h1 : inB hs.length 1 6
  · have HB := Lib.hid (frB_n (ls := ls) h1)
    go_enter Tryd.func17, Tryd.ntmps17
    go_wp2_with fail
    refine (l6In _ _ _ _).mono ?_
    rintro e w' ⟨rfl, rfl⟩
    rw [h1]
    go_wp2_with fail
    go_ret
    exact ⟨ret_bool HB.out.symm, rfl⟩
  by_cases h2 : ls.length = hs.length
  · have H2 := Lib.hid h2
    have d2 : ((ls.length : Int) != (hs.length : Int)) = false := by simp [h2]
    have hle : hs.length ≤ ls.length := by omega
    clear h2
    go_enter Tryd.func17, Tryd.ntmps17
    go_wp2_with fail
    refine (l6In _ _ _ _).mono ?_
    rintro e w' ⟨rfl, rfl⟩
    rw [h1]
    go_wp2_with fail
    go_loop [4] (fun i => ∃ k : Nat, k ≤ hs.length ∧ i = .int .i64 k ∧ Hid (∀ j, j < k → (inB (nth hs j) 0 1 && inB (nth ls j) 0 4) = true)) (fun i => hs.length - (intOf i).toNat)
    case atStart => exact ⟨0, Nat.zero_le _, rfl, Lib.hid (fun j hj => by omega)⟩
    case round =>
      obtain ⟨k, hk, rfl, HA⟩ := hrel
      by_cases hlt : k < hs.length
      · obtain ⟨b, off, rfl, hbl, hc⟩ := hr.hi.at hlt
        obtain ⟨b', off', rfl, hbl', hc'⟩ := hr.lo.at (i := k) (by omega)
        have hky : k < ls.length := by omega
        cases g1 : inB (nth hs k) 0 1
        · have HB := Lib.hid (frB_k (ls := ls) hlt (by rw [g1]; rfl))
          go_wp2_with fail
          refine (l6In _ _ _ _).mono ?_
          rintro e w' ⟨rfl, rfl⟩
          rw [g1]
          go_wp2_with fail
          go_ret
          exact ⟨ret_bool HB.out.symm, rfl⟩
        cases g2 : inB (nth ls k) 0 4
        · have HB := Lib.hid (frB_k (ls := ls) hlt (by rw [g1, g2]; rfl))
          go_wp2_with fail
          refine (l6In _ _ _ _).mono ?_
          rintro e w' ⟨rfl, rfl⟩
          rw [g1]
          go_wp2_with fail
          refine (l6In _ _ _ _).mono ?_
          rintro e w' ⟨rfl, rfl⟩
          rw [g2]
          go_wp2_with fail
          go_ret
          exact ⟨ret_bool HB.out.symm, rfl⟩
        · go_wp2_with fail
          refine (l6In _ _ _ _).mono ?_
          rintro e w' ⟨rfl, rfl⟩
          rw [g1]
          go_wp2_with fail
          refine (l6In _ _ _ _).mono ?_
          rintro e w' ⟨rfl, rfl⟩
          rw [g2]
          have G : Hid ((inB (nth hs k) 0 1 && inB (nth ls k) 0 4) = true) := Lib.hid (by rw [g1, g2]; rfl)
          clear g1 g2
          go_wp2_with fail
          go_round
          case rel => exact ⟨k + 1, by omega, by go_num, Lib.hid (fun j hj => by
            rcases Nat.lt_or_ge j k with h | h
            · exact HA.out j h
            · obtain rfl : j = k := by omega
              exact G.out)⟩
          case measure => simp [intOf]; omega
      · have HB := Lib.hid (frB_y h1 H2.out (fun j hj => HA.out j (by omega)))
        go_wp2_with fail
        go_ret
        exact ⟨ret_bool HB.out.symm, rfl⟩
  · have HB := Lib.hid (frB_l h2)
    have d2 : ((ls.length : Int) != (hs.length : Int)) = true := by simp; omega
    clear h2
    go_enter Tryd.func17, Tryd.ntmps17
    go_wp2_with fail
    refine (l6In _ _ _ _).mono ?_
    rintro e w' ⟨rfl, rfl⟩
    rw [h1]
    go_wp2_with fail
    go_ret
    exact ⟨ret_bool HB.out.symm, rfl⟩

theorem eqFrame_same (A B A' B' : Option Addr) (c d c' d' : Nat) (hs ls : List Int) (w : World) (h1 : FrRd w A B hs ls) (h2 : FrRd w A' B' hs ls) (hh : hs.length ≤ 4194304) (hl : ls.length ≤ 4194304) :
    Calls Tryd.prog 9 #[.agg #[.slice A hs.length c, .slice B ls.length d], .agg #[.slice A' hs.length c', .slice B' ls.length d']] w fun e w' => e = .returned (.bool true) ∧ Below w.heap.size w w' := by
  have HBE := Lib.hid (fun o o1 => ((Below.refl w.heap.size w).alloc (Nat.le_refl _) o).alloc (by simp) o1)
  go_enter Tryd.func9, Tryd.ntmps9
  go_wp2_with fail
  refine (eqIntS_same _ _ _ _ _ _ ((h1.hi.alloc _).alloc _) ((h2.hi.alloc _).alloc _) hh).mono ?_
  rintro e w' ⟨rfl, n, rfl⟩
  go_wp2_with fail
  refine (eqIntS_same _ _ _ _ _ _ (((h1.lo.alloc _).alloc _).drewN _) (((h2.lo.alloc _).alloc _).drewN _) hl).mono ?_
  rintro e w' ⟨rfl, m, rfl⟩
  go_wp2_with fail
  go_ret
  exact ⟨rfl, (HBE.out _ _).drewN _⟩

/-- A frame that came in. -/
structure FrCame (w : World) (A B : Option Addr) (c d : Nat) (hs ls : List Int) : Prop where
  hi : Came .i64 w A c hs
  lo : Came .i64 w B d ls

open Go.Joins Go.ChangeShapes Go.WideShapes Go.ChangeAt in
theorem open_frame {H : Type} {enc : TypeId × Value → H} {w : World} {base : Nat} {spare : Nat → Bool} {held : Bool} {r : Reach} {b0 : Nat} {v : Value} {d : DataW H} {p : List MemPlace}
    (hv : Value.okWide Tryd.prog w r b0 24 v) (h : DataW.Trod enc Tryd.prog w base spare held 24 v d p) :
    ∃ (A : Option Addr) (c : Nat) (hs : List Int) (B : Option Addr) (e : Nat) (ls : List Int), v = .agg #[.slice A hs.length c, .slice B ls.length e] ∧ FrCame w A B c e hs ls := by
  obtain ⟨v0, v1, y0, y1, n, rfl, _, _, t0, t1⟩ := open_agg2 Tryd.underlying24 (by kernel_rfl) (by kernel_rfl) hv h
  have sl : ∀ {v : Value} {y : DataW H × List MemPlace}, DataW.trod enc Tryd.prog w base spare held n 22 [v] = some y → ∃ A len cap, v = .slice A len cap := by
    intro v y ht
    rcases open_ints Tryd.underlying22 Tryd.underlying3 (by kernel_rfl) ht with ⟨hcs, _⟩ | ⟨x, l, c, zs, hcs, _⟩
    · simp at hcs; exact ⟨_, _, _, hcs⟩
    · simp at hcs; exact ⟨_, _, _, hcs⟩
  obtain ⟨A, l0, c0, rfl⟩ := sl t0
  obtain ⟨B, l1, c1, rfl⟩ := sl t1
  obtain ⟨hs, rfl, w0⟩ := row_open (A := A) (len := l0) (cap := c0) Tryd.underlying22 Tryd.underlying3 (by kernel_rfl) ⟨n, t0⟩
  obtain ⟨ls, rfl, w1⟩ := row_open (A := B) (len := l1) (cap := c1) Tryd.underlying22 Tryd.underlying3 (by kernel_rfl) ⟨n, t1⟩
  exact ⟨A, c0, hs, B, c1, ls, rfl, w0, w1⟩
end Go.Proofs.YtfdbhaojdccomaaDoor
