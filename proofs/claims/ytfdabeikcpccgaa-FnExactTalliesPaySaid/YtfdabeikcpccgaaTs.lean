/- Lists of tallies: what lies in memory, opened and read. -/
import Derived.Test.YtfdabeikcpccgaaTalO
import Derived.Deep.Slices
namespace Go.Proofs.Ytfdabeikcpccgaa
open Go.Joins Go.ChangeShapes Go.WideShapes Go.ChangeAt Go.RowKit Go.Deep

/-- A tally. -/
structure Tl where
  d : Int
  c : Int
  s : ByteArray
  f : ByteArray

def TAt (w : World) (b o : Nat) (t : Tl) : Prop :=
  w.cell? ⟨b, o, none⟩ = some (.int .i64 t.d) ∧ w.cell? ⟨b, o + 1, none⟩ = some (.int .i64 t.c) ∧ w.cell? ⟨b, o + 2, none⟩ = some (.string t.s) ∧ w.cell? ⟨b, o + 3, none⟩ = some (.string t.f)

/-- The tallies lie at an address. -/
def TRd (w : World) (A : Option Addr) (ts : List Tl) : Prop := ts ≠ [] → ∃ b off, A = some ⟨b, off, none⟩ ∧ b < w.heap.size ∧ ∀ j t, ts[j]? = some t → TAt w b (off + j * 4) t

theorem cell_blt {w : World} {p : Addr} {v : Value} (h : w.cell? p = some v) : p.block < w.heap.size := by
  rcases Nat.lt_or_ge p.block w.heap.size with hlt | hge
  · exact hlt
  · have : w.heap[p.block]? = none := Array.getElem?_eq_none hge
    simp [World.cell?, this] at h

theorem TAt.below {w w' : World} {b o B : Nat} {t : Tl} (h : TAt w b o t) (k : Below B w w') (hb : b < B) : TAt w' b o t :=
  ⟨(k.cell (p := ⟨b, _, none⟩) hb).trans h.1, (k.cell (p := ⟨b, _, none⟩) hb).trans h.2.1, (k.cell (p := ⟨b, _, none⟩) hb).trans h.2.2.1, (k.cell (p := ⟨b, _, none⟩) hb).trans h.2.2.2⟩
theorem TRd.below {w w' : World} {A : Option Addr} {ts : List Tl} (h : TRd w A ts) (k : Below w.heap.size w w') : TRd w' A ts := fun hn => by
  obtain ⟨b, off, hA, hb, hc⟩ := h hn
  exact ⟨b, off, hA, Nat.lt_of_lt_of_le hb k.size, fun j t ht => (hc j t ht).below k hb⟩
theorem TRd.at {w : World} {A : Option Addr} {ts : List Tl} (h : TRd w A ts) {k : Nat} (hk : k < ts.length) : ∃ b off t, A = some ⟨b, off, none⟩ ∧ b < w.heap.size ∧ ts[k]? = some t ∧ TAt w b (off + k * 4) t := by
  have hn : ts ≠ [] := by rintro rfl; simp at hk
  obtain ⟨b, off, hA, hb, hc⟩ := h hn
  exact ⟨b, off, ts[k], hA, hb, List.getElem?_eq_getElem hk, hc k _ (List.getElem?_eq_getElem hk)⟩

/-- Tallies that came in. -/
def TCame (w : World) (A : Option Addr) (c : Nat) (ts : List Tl) : Prop :=
  ts.length ≤ c ∧ c ≤ maxLen ∧ TRd w A ts ∧ ∀ t ∈ ts, t.s.size ≤ maxLen ∧ t.f.size ≤ maxLen

instance : Inhabited Tl := ⟨⟨0, 0, ⟨#[]⟩, ⟨#[]⟩⟩⟩

set_option maxRecDepth 100000 in
theorem open_tallies {H : Type} {enc : TypeId × Value → H} {w : World} {base : Nat} {spare : Nat → Bool} {held : Bool} {A : Option Addr} {len cap : Nat} {d : DataW H} {p : List MemPlace}
    (h : DataW.Trod enc Try.prog w base spare held 32 (.slice A len cap) d p) : ∃ ts : List Tl, len = ts.length ∧ TCame w A cap ts := by
  obtain ⟨fuel, hf⟩ := h
  rcases open_slice Try.underlying32 hf with ⟨hcs, _⟩ | ⟨a, l, c, m, n, D, Pl, hcs, hb, hl, hm, hmm, _, hx⟩
  · simp [Value.cells] at hcs
    obtain ⟨rfl, rfl, rfl⟩ := hcs
    exact ⟨[], rfl, by simp, by simp [maxLen], fun hn => (hn rfl).elim, by simp⟩
  · simp [Value.cells] at hcs
    obtain ⟨rfl, rfl, rfl⟩ := hcs
    have hlm : len ≤ m := by rw [hmm]; split <;> omega
    have hC : Try.prog.cellsOf 25 = 4 := by kernel_rfl
    have each : ∀ i, i < len → ∃ t : Tl, t.s.size ≤ maxLen ∧ t.f.size ≤ maxLen ∧ w.cell? (a.add (i * 4)) = some (.int .i64 t.d) ∧ w.cell? (a.add (i * 4 + 1)) = some (.int .i64 t.c) ∧ w.cell? (a.add (i * 4 + 2)) = some (.string t.s) ∧ w.cell? (a.add (i * 4 + 3)) = some (.string t.f) := by
      intro i hi
      obtain ⟨cs', h1, h2⟩ := hx i (by omega)
      rw [hC] at h1
      obtain ⟨_, hlen, hcell⟩ := World.cells?_some h1
      obtain ⟨y0, y1, y2, y3, n, _, _, t0, t1, t2, t3⟩ := trod_struct4 Try.underlying25 h2
      have e0 := hcell 0 (by omega)
      have e1 := hcell 1 (by omega)
      have e2 := hcell 2 (by omega)
      have e3 := hcell 3 (by omega)
      rw [Deep.add_add] at e0 e1 e2 e3
      match cs', hlen with
      | [v0, v1, v2, v3], _ =>
        have k0 : Try.prog.cellsOf 3 = 1 := by kernel_rfl
        have k1 : Try.prog.cellsOf 9 = 1 := by kernel_rfl
        simp only [k0, k1] at t0 t1 t2 t3
        obtain ⟨x0, hx0, _, _⟩ := DataW.trod_int Try.underlying3 t0
        obtain ⟨x1, hx1, _, _⟩ := DataW.trod_int Try.underlying3 t1
        obtain ⟨x2, hx2, _, hs2⟩ := DataW.trod_string Try.underlying9 t2
        obtain ⟨x3, hx3, _, hs3⟩ := DataW.trod_string Try.underlying9 t3
        simp at hx0 hx1 hx2 hx3
        subst hx0 hx1 hx2 hx3
        exact ⟨⟨x0, x1, x2, x3⟩, hs2, hs3, by simpa using e0, by simpa using e1, by simpa using e2, by simpa using e3⟩
    obtain ⟨q, hq⟩ := choose_lt each
    refine ⟨(List.range len).map q, by simp, by simpa using hl, hm, fun hn => ?_, fun t ht => ?_⟩
    · have hpos : 0 < len := by
        rcases Nat.eq_zero_or_pos len with h0 | h0
        · subst h0; simp at hn
        · exact h0
      obtain ⟨b, off, spot⟩ := a
      have hspot : spot = none := by simpa [Addr.add] using World.cell?_spot (hq 0 hpos).2.2.1
      subst hspot
      have ha : ∀ j, (⟨b, off, none⟩ : Addr).add j = ⟨b, off + j, none⟩ := fun j => by
        unfold Addr.add; split <;> simp_all
      refine ⟨b, off, rfl, ?_, fun j t hj => ?_⟩
      · have := cell_blt (hq 0 hpos).2.2.1
        simpa [ha] using this
      · have hjl : j < len := by
          have := (List.getElem?_eq_some_iff.1 hj).1
          simpa using this
        have : q j = t := by simpa [hjl] using hj
        subst this
        obtain ⟨_, _, g0, g1, g2, g3⟩ := hq j hjl
        rw [ha] at g0 g1 g2 g3
        exact ⟨g0, g1, g2, g3⟩
    · obtain ⟨i, hi, rfl⟩ := List.mem_map.1 ht
      exact ⟨(hq i (List.mem_range.1 hi)).1, (hq i (List.mem_range.1 hi)).2.1⟩

set_option maxRecDepth 100000 in
theorem szTallyS (A : Option Addr) (cap : Nat) (ts : List Tl) (w : World) (h : TCame w A cap ts) :
    Calls Try.prog 24 #[.slice A ts.length cap, .int .i64 1048576] w fun e w' => Below w.heap.size w w' ∧ ((e = .returned (.int .i64 (-1))) ∨ ∃ L : Int, 0 ≤ L ∧ e = .returned (.int .i64 L) ∧ ts.length ≤ 1048576 ∧ ∀ t ∈ ts, t.s.size ≤ 1048576 ∧ t.f.size ≤ 1048576) := by
  have hml : ts.length ≤ 9223372036854775807 := by have h1 := h.1; have h2 := h.2.1; unfold maxLen at h2; omega
  by_cases hbig : 1048576 < ts.length
  · go_enter Try.func24, Try.ntmps24
    go_wp2
    go_ret
    exact ⟨Below.refl _ _, .inl rfl⟩
  go_enter Try.func24, Try.ntmps24
  go_wp2
  go_loopw [1, 5] (fun l i wr => ∃ (k : Nat) (L : Int), k ≤ ts.length ∧ i = .int .i64 k ∧ l = .int .i64 L ∧ 0 ≤ L ∧ L ≤ 1048576 ∧ Hid (∀ j t, j < k → ts[j]? = some t → t.s.size ≤ 1048576 ∧ t.f.size ≤ 1048576) ∧ Below w.heap.size w wr) (fun _ i _ => ts.length - (intOf i).toNat)
  case atStart => exact ⟨0, _, Nat.zero_le _, rfl, rfl, by omega, by omega, Lib.hid (fun j t hj => by omega), Below.refl _ _⟩
  case round =>
    obtain ⟨k, L, hk, rfl, rfl, hL, hL1, HS, hb⟩ := hrel
    by_cases hlt : k < ts.length
    · obtain ⟨b, off, t, rfl, hbl, ht, hc⟩ := (h.2.2.1.below hb).at hlt
      obtain ⟨c0, c1, c2, c3⟩ := hc
      have HM := Lib.hid (h.2.2.2 t (List.mem_of_getElem? ht))
      have HT := Lib.hid ht
      clear ht h
      go_wp2_with fail
      refine (szTally _ _ _ _ _ _ (by have := HM.out.1; unfold maxLen at this; omega) (by have := HM.out.2; unfold maxLen at this; omega) hL hL1).mono ?_
      rintro e w1 ⟨rfl, b1⟩
      have hb1 := bstep hb b1
      clear c0 c1 c2 c3
      by_cases hle : (t.s.size : Int) + t.f.size ≤ L
      · rw [if_pos hle]
        have HS2 : Hid (∀ j t, j < k + 1 → ts[j]? = some t → t.s.size ≤ 1048576 ∧ t.f.size ≤ 1048576) := Lib.hid (fun j t' hj ht' => by
          rcases Nat.lt_or_ge j k with h1 | h1
          · exact HS.out j t' h1 ht'
          · obtain rfl : j = k := by omega
            have := HT.out.symm.trans ht'
            injection this with this
            subst this
            omega)
        have hn : ¬ (L - t.s.size - t.f.size < 0) := by omega
        clear hb b1
        go_wp2_with fail
        go_roundw
        case rel => exact ⟨k + 1, _, by omega, by go_num, rfl, by omega, by omega, HS2, hb1⟩
        case measure => simp [intOf]; omega
      · rw [if_neg hle]
        go_wp2_with fail
        go_ret
        exact ⟨hb1, .inl rfl⟩
    · go_wp2_with fail
      go_ret
      refine ⟨hb, .inr ⟨L, hL, rfl, by omega, fun t ht => ?_⟩⟩
      obtain ⟨j, hj⟩ := List.getElem?_of_mem ht
      exact HS.out j t (by have := (List.getElem?_eq_some_iff.1 hj).1; omega) hj

end Go.Proofs.Ytfdabeikcpccgaa
