/- Cases of rods: what l91Case draws. -/
import Derived.Test.YtnmfppjjhbkfmaaCasS
import Derived.Test.YtnmfppjjhbkfmaaDrawN
import Derived.Test.YtnmfppjjhbkfmaaRegU
import Derived.Deep.Light
namespace Go.Proofs.Ytnmfppjjhbkfmaa
open Go.RowKit

theorem rod_info : (Try.prog.info? 29).map (fun i => (i.zero, i.size, i.bytes)) = some (some (.agg #[.slice none 0 0]), 1, 24) := by kernel_rfl
theorem sd_lt {R : List (List Int)} {xs : List Int} {i : Nat} (h : i < R.length) : sd (R ++ [xs]) i = sd R i := by
  unfold sd; rw [List.getElem?_append_left h]
theorem sd_last (R : List (List Int)) (xs : List Int) : sd (R ++ [xs]) R.length = xs := by
  unfold sd; simp

/-- A slice of rods of the call's own: its cells are vs; each rod has four sides in a block of their own. -/
structure CaseI (w : World) (base : Nat) (A : Option Addr) (c : Nat) (R : List (List Int)) (vs : List Value) : Prop where
  len : vs.length = R.length
  own : w.ownsRow base 29 1 (.slice A R.length c) R.length vs
  side : ∀ i, i < R.length → ∃ bi ci, vs[i]? = some (.slice (some ⟨bi, 0, none⟩) 4 ci) ∧ Sl w base (some ⟨bi, 0, none⟩) ci (sd R i) ∧ (sd R i).length = 4 ∧ blk A ≠ some bi
section
variable {w w' : World} {base g c : Nat} {A : Option Addr} {R : List (List Int)} {vs : List Value}
theorem CaseI.lt (h : CaseI w base A c R vs) : ∀ k, blk A = some k → base ≤ k ∧ k < w.heap.size := fun k hk => World.ownsRow.lt h.own k (by rw [ownBlock_blk]; exact hk)
theorem CaseI.pick (h : CaseI w base A c R vs) (k : w.grownBy w' (some g)) (hg : g < base) : CaseI w' base A c R vs := by
  refine ⟨h.len, World.ownsRow.kept h.own k (by
    rw [ownBlock_blk]
    refine .inr fun e => ?_
    have := (h.lt g e).1
    omega), fun i hi => ?_⟩
  obtain ⟨bi, ci, h1, h2, h3, h4⟩ := h.side i hi
  exact ⟨bi, ci, h1, Sl.pick h2 k hg, h3, h4⟩
theorem CaseI.below (h : CaseI w base A c R vs) (k : Below w.heap.size w w') : CaseI w' base A c R vs := by
  refine ⟨h.len, World.ownsRow.kept h.own (grownBy_of_below k none) (by
    rw [ownBlock_blk]
    rcases hb : blk A with _ | j
    · exact .inl rfl
    · exact .inr (by simp)), fun i hi => ?_⟩
  obtain ⟨bi, ci, h1, h2, h3, h4⟩ := h.side i hi
  exact ⟨bi, ci, h1, h2.below k, h3, h4⟩
theorem CaseI.addr (h : CaseI w base A c R vs) (hn : 0 < R.length) : ∃ a, A = some ⟨a, 0, none⟩ ∧ base ≤ a ∧ a < w.heap.size := by
  rcases h.own.2 with ⟨_, h0⟩ | ⟨a, cap, cur, hv, hb, hg, _⟩
  · omega
  · injection hv with h1 _ _
    exact ⟨a, h1, hb, (Array.getElem?_eq_some_iff.1 hg).1⟩
theorem CaseI.rd (h : CaseI w base A c R vs) : RdR w base A R := fun hn => by
  obtain ⟨a, rfl, hb, _⟩ := h.addr (List.length_pos_iff.2 hn)
  refine ⟨a, 0, rfl, hb, fun i hi => ?_⟩
  obtain ⟨bi, ci, h1, h2, h3, h4⟩ := h.side i hi
  refine ⟨bi, 0, ci, (h2.lt bi rfl).1, ?_, fun j hj => by rw [Nat.zero_add]; exact h2.cell hj⟩
  rw [Nat.zero_add, World.ownsRow.cellAt h.own i (by omega), h1, h3]
theorem CaseI.nil_ (w : World) (hb : base ≤ w.heap.size) : CaseI (w.alloc (.cells #[] 29)) base (some ⟨w.heap.size, 0, none⟩) 0 [] [] :=
  ⟨rfl, World.ownsRow_lit (base := base) (e := 29) (size := 1) w #[] 0 hb (by simp [maxLen]) (by simp), fun i hi => by simp at hi⟩
theorem CaseI.app {A' : Option Addr} {c' base2 cur cc : Nat} {xs : List Int} (h : CaseI w base A c R vs) (hs : Sl w base2 (some ⟨cur, 0, none⟩) cc xs) (h4 : xs.length = 4) (hb2 : base ≤ base2) (hlt : ∀ k, blk A = some k → k < base2)
    (hown : w'.ownsRow base 29 1 (.slice A' (R ++ [xs]).length c') (R ++ [xs]).length (vs ++ [.slice (some ⟨cur, 0, none⟩) 4 cc])) (hg : w.grownBy w' (blk A)) (hA : blk A' = blk A ∨ ∃ k, blk A' = some k ∧ w.heap.size ≤ k) :
    CaseI w' base A' c' (R ++ [xs]) (vs ++ [.slice (some ⟨cur, 0, none⟩) 4 cc]) := by
  have hcur := hs.lt cur rfl
  have key : ∀ b c2 zs, Sl w base (some ⟨b, 0, none⟩) c2 zs → blk A ≠ some b → Sl w' base (some ⟨b, 0, none⟩) c2 zs ∧ blk A' ≠ some b := fun b c2 zs hz hne => by
    have hbl := (hz.lt b rfl).2
    refine ⟨hz.grown hg (.inr (fun e => hne e.symm)), fun e => ?_⟩
    rcases hA with h1 | ⟨k, h1, h2⟩
    · exact hne (h1.symm.trans e)
    · rw [h1] at e; injection e; omega
  refine ⟨by rw [List.length_append, List.length_append, h.len]; rfl, hown, fun i hi => ?_⟩
  rw [List.length_append, List.length_cons, List.length_nil] at hi
  by_cases e : i < R.length
  · obtain ⟨bi, ci, h1, h2, h3, h5⟩ := h.side i e
    obtain ⟨k1, k2⟩ := key bi ci _ h2 h5
    exact ⟨bi, ci, by rw [List.getElem?_append_left (by rw [h.len]; exact e)]; exact h1, by rw [sd_lt e]; exact k1, by rw [sd_lt e]; exact h3, k2⟩
  · obtain rfl : i = R.length := by omega
    have hne : blk A ≠ some cur := fun e2 => by have := hlt cur e2; omega
    obtain ⟨k1, k2⟩ := key cur cc xs (hs.down hb2) hne
    exact ⟨cur, cc, by rw [List.getElem?_append_right (by rw [h.len]; exact Nat.le_refl _), h.len, Nat.sub_self]; rfl, by rw [sd_last]; exact k1, by rw [sd_last]; exact h4, k2⟩
end

theorem sd_set {R : List (List Int)} {xs : List Int} (h : 0 < R.length) (i : Nat) : sd (R.set 0 xs) i = if i = 0 then xs else sd R i := by
  unfold sd
  by_cases e : i = 0
  · subst e; rw [List.getElem?_set_self h, if_pos rfl]; rfl
  · rw [List.getElem?_set_ne (fun e2 => e e2.symm), if_neg e]
theorem CaseI.cut {w : World} {base a c b0 c0 : Nat} {R : List (List Int)} {vs : List Value} (h : CaseI w base (some ⟨a, 0, none⟩) c R vs) (hn : 0 < R.length) (hv : vs[0]? = some (.slice (some ⟨b0, 0, none⟩) 4 c0)) :
    RdR (w.setCell ⟨a, 0, none⟩ (.slice (some ⟨b0, 1, none⟩) 3 (c0 - 1))) base (some ⟨a, 0, none⟩) (R.set 0 (sd R 0).tail) := fun _ => by
  have ha := (h.lt a rfl).1
  refine ⟨a, 0, rfl, ha, fun i hi => ?_⟩
  rw [List.length_set] at hi
  obtain ⟨bi, ci, h1, h2, h3, h4⟩ := h.side i hi
  have hne : bi ≠ a := fun e => h4 (by rw [e]; rfl)
  have hcell := World.ownsRow.cellAt h.own i (by omega)
  rw [h1] at hcell
  have hsd : ∀ j, (w.setCell ⟨a, 0, none⟩ (.slice (some ⟨b0, 1, none⟩) 3 (c0 - 1))).cell? ⟨bi, j, none⟩ = w.cell? ⟨bi, j, none⟩ := fun j => cell_same (set_block w a 0 _ hne)
  by_cases e : i = 0
  · subst e
    rw [hv] at h1
    injection h1 with h1
    injection h1 with h1 _ h5
    injection h1 with h1
    injection h1 with h1
    subst h1
    refine ⟨b0, 1, c0 - 1, (h2.lt b0 rfl).1, ?_, fun j hj => ?_⟩
    · rw [sd_set hn, if_pos rfl, List.length_tail, h3]
      exact World.cell?_setCell_same _ _ _ hcell
    · rw [sd_set hn, if_pos rfl] at hj ⊢
      rw [List.length_tail, h3] at hj
      rw [hsd, h2.cell (j := 1 + j) (by omega)]
      cases hs : sd R 0 with
      | nil => rw [hs] at h3; simp at h3
      | cons y ys => simp [nth, Nat.add_comm 1 j]
  · refine ⟨bi, 0, ci, (h2.lt bi rfl).1, ?_, fun j hj => ?_⟩
    · rw [sd_set hn, if_neg e, h3, World.cell?_setCell_other _ _ _ _ (by intro e2; injection e2 with _ e2; omega), Nat.zero_add]
      exact hcell
    · rw [sd_set hn, if_neg e] at hj ⊢
      rw [hsd, Nat.zero_add]; exact h2.cell hj

def hitB : Option Value → Nat → Bool
  | some (.slice (some p) _ _), b => p.block == b
  | _, _ => false
def pokeR (R : List (List Int)) (vs : List Value) (b : Nat) (z : Int) : List (List Int) := (List.range R.length).map fun i => if hitB vs[i]? b = true then (sd R i).set 0 z else sd R i
theorem pokeR_len (R : List (List Int)) (vs : List Value) (b : Nat) (z : Int) : (pokeR R vs b z).length = R.length := by simp [pokeR]
theorem pokeR_sd {R : List (List Int)} {vs : List Value} {b : Nat} {z : Int} {i : Nat} (h : i < R.length) : sd (pokeR R vs b z) i = if hitB vs[i]? b = true then (sd R i).set 0 z else sd R i := by
  simp [sd, pokeR, h]
theorem CaseI.poke {w : World} {base a c b0 : Nat} {R : List (List Int)} {vs : List Value} (h : CaseI w base (some ⟨a, 0, none⟩) c R vs) (hne : a ≠ b0) (z : Int) :
    RdR (w.setCell ⟨b0, 0, none⟩ (.int .i64 z)) base (some ⟨a, 0, none⟩) (pokeR R vs b0 z) ∧ ∀ i, i < R.length → (sd (pokeR R vs b0 z) i).length = 4 := by
  have ha := (h.lt a rfl).1
  refine ⟨fun _ => ⟨a, 0, rfl, ha, fun i hi => ?_⟩, fun i hi => ?_⟩
  · rw [pokeR_len] at hi
    obtain ⟨bi, ci, h1, h2, h3, h4⟩ := h.side i hi
    have hcell := World.ownsRow.cellAt h.own i (by omega)
    rw [h1] at hcell
    rw [pokeR_sd hi, h1]
    refine ⟨bi, 0, ci, (h2.lt bi rfl).1, ?_, fun j hj => ?_⟩
    · rw [cell_same (set_block w b0 0 _ hne), Nat.zero_add, hcell]
      split <;> simp [h3]
    · by_cases e : bi = b0
      · subst e
        have hh : hitB (some (.slice (some ⟨bi, 0, none⟩) 4 ci)) bi = true := by simp [hitB]
        rw [if_pos hh] at hj ⊢
        rw [List.length_set] at hj
        by_cases ej : j = 0
        · subst ej
          rw [Nat.zero_add, World.cell?_setCell_same _ _ _ (h2.cell (j := 0) hj)]
          unfold nth
          rw [List.getElem?_set_self hj]; rfl
        · rw [Nat.zero_add, World.cell?_setCell_other _ _ _ _ (by intro e2; injection e2 with _ e2; omega), h2.cell hj]
          unfold nth
          rw [List.getElem?_set_ne (fun e2 => ej e2.symm)]
      · have hh : hitB (some (.slice (some ⟨bi, 0, none⟩) 4 ci)) b0 = false := by simp [hitB, e]
        rw [hh] at hj ⊢
        rw [if_neg (by simp)] at hj ⊢
        rw [cell_same (set_block w b0 0 _ e), Nat.zero_add]; exact h2.cell hj
  · obtain ⟨bi, ci, h1, h2, h3, h4⟩ := h.side i hi
    rw [pokeR_sd hi]
    split <;> simp [h3]

/-- What the operations of 'out[0].Sides[0] = []int{-1, 10}[r.pick(2)]' give. -/
def csT (a g b0 c0 : Nat) (S : Value) : Nat → World → Value → Prop
  | 0, _, v => v = S
  | 1, _, v => v = .pointer (some ⟨a, 0, none⟩)
  | 2, _, v => v = .pointer (some ⟨a, 0, none⟩)
  | 3, _, v => v = .slice (some ⟨b0, 0, none⟩) 4 c0
  | 4, w, v => TTab g [-1, 10] w v
  | 5, w, v => TRdr g w v
  | 6, w, v => TInt 0 1 w v
  | 7, w, v => TAdr g (-1) 10 w v
  | 8, w, v => TInt (-1) 10 w v
  | _, _, v => v = .pointer (some ⟨b0, 0, none⟩)
def csR (g i : Nat) (_ : Nat → Value) (w1 w2 : World) : Prop := if i = 6 then w1.grownBy w2 (some g) else Below w1.heap.size w1 w2
theorem csR_of {g i : Nat} {v : Nat → Value} {w1 w2 : World} (h : i ≠ 6) (hb : Below w1.heap.size w1 w2) : csR g i v w1 w2 := by rw [csR, if_neg h]; exact hb
theorem csR_6 {g : Nat} {v : Nat → Value} {w1 w2 : World} (h : w1.grownBy w2 (some g)) : csR g 6 v w1 w2 := by rw [csR, if_pos rfl]; exact h
theorem csR_g {g i : Nat} {v : Nat → Value} {w1 w2 : World} (h : csR g i v w1 w2) : w1.grownBy w2 (some g) := by
  unfold csR at h
  split at h
  · exact h
  · exact grownBy_of_below h _
theorem csT_stable {l : List Oper} {a g b0 c0 n : Nat} {S : Value} : StableU l (csR g) (csT a g b0 c0 S) (fun _ => 100) 0 1 (fun _ _ => True) n := by
  intro i j v w1 w2 _ _ _ _ hR hT
  have hg := csR_g hR
  match j, hT with
  | 0, h => exact h
  | 1, h => exact h
  | 2, h => exact h
  | 3, h => exact h
  | 4, h => exact TTab.keep h hg
  | 5, h => exact h
  | 6, h => exact h
  | 7, h => exact TAdr.keep h hg
  | 8, h => exact h
  | _ + 9, h => exact h

/-- append(out, rod) -/
theorem wp_ap1r {ops : Array Oper} {rest : List Oper} {o : Oper} {a : Act} {Q : Exit → Act → World → Prop} (s x : Operand) (hgd : o.guard = none)
    (ho : o.op = .call { callee := .builtin .append, args := #[s, x], argTypes := #[23, 23] }) (w : World) (base : Nat) (A : Option Addr) (c cur cc base2 : Nat) (R : List (List Int)) (vs : List Value) (xs : List Int)
    (hs : a.eval s = .slice A R.length c) (hx : a.eval x = .slice (some ⟨w.heap.size, 0, none⟩) 1 1) (hI : CaseI w base A c R vs) (hsl : Sl w base2 (some ⟨cur, 0, none⟩) cc xs) (h4 : xs.length = 4) (hb2 : base ≤ base2) (hlt : ∀ k, blk A = some k → k < base2) (hlen : R.length ≤ 4194304) (hbase : base ≤ w.heap.size)
    (h : ∀ A' c' w', CaseI w' base A' c' (R ++ [xs]) (vs ++ [.slice (some ⟨cur, 0, none⟩) 4 cc]) → w.grownBy w' (blk A) → wpList Try.prog ops Q rest (a.put o.dst (.slice A' (R ++ [xs]).length c')) w') :
    wpList Try.prog ops Q (o :: rest) a (w.alloc (.cells #[.slice (some ⟨cur, 0, none⟩) 4 cc] 29)) := by
  obtain ⟨i, hi, hz0, hz1, hz2⟩ := info_partsB rod_info
  refine wpList_append_own_at (w.alloc (.cells #[.slice (some ⟨cur, 0, none⟩) 4 cc] 29)) hgd s x 23 ho base 29 i (.agg #[.slice none 0 0]) 1 24 Try.underlying23 hi hz0 hz1 hz2 rfl (by decide) _ R.length vs hs (World.ownsRow.alloc hI.own _)
    ⟨w.heap.size, 0, none⟩ 1 1 [.slice (some ⟨cur, 0, none⟩) 4 cc] hx rfl ?_ ?_ (by simp only [maxLen]; omega) (by omega) (by simp; omega) ?_
  · intro j u hj
    match j, hj with
    | 0, hj => simp at hj; subst hj; simp [Addr.add]
  · intro u hu; simp at hu; subst hu; rfl
  · intro v' w' hown' hg _ hat
    rw [ownBlock_blk] at hg hat
    have hf : ∃ A' c', v' = .slice A' (R ++ [xs]).length c' := by
      rcases hown'.2 with ⟨_, h0⟩ | ⟨g, cap, cur', hv, _⟩
      · omega
      · exact ⟨some ⟨g, 0, none⟩, cap, by rw [hv]; simp⟩
    obtain ⟨A', c', rfl⟩ := hf
    rw [ownBlock_blk] at hat
    have hgr : w.grownBy w' (blk A) := ⟨hg.os, hg.tape, hg.output, Nat.le_trans (by simp) hg.size, fun k hk hne => (hg.block k (by simp; omega) hne).trans (Below.heap_alloc w _ k hk)⟩
    refine h A' c' w' (hI.app hsl h4 hb2 hlt (by simpa using hown') hgr ?_) hgr
    rcases hat with h1 | h1
    · exact .inl h1
    · exact .inr ⟨_, h1, by simp⟩

/-- A case is drawn. -/
def CaseDrawn (B0 g m : Nat) (w : World) (e : Ending) (w' : World) : Prop := ∃ A c R, e = .returned (.slice A R.length c) ∧ RdR w' w.heap.size A R ∧ R.length ≤ 8 ∧ (∀ i, i < R.length → 3 ≤ (sd R i).length ∧ (sd R i).length ≤ 4 ∧ (i ≠ 0 → (sd R i).length = 4)) ∧ RdyI B0 w' g (m + 60) ∧ w.grownBy w' (some g)
theorem CaseI.drawn {B0 g m M : Nat} {w w' : World} {A : Option Addr} {c : Nat} {R : List (List Int)} {vs : List Value} (h : CaseI w' w.heap.size A c R vs) (h8 : R.length ≤ 8) (hr : RdyI B0 w' g M) (hM : M ≤ m + 60) (hg : w.grownBy w' (some g)) : CaseDrawn B0 g m w (.returned (.slice A R.length c)) w' :=
  ⟨A, c, R, rfl, h.rd, h8, fun i hi => by
    obtain ⟨_, _, _, _, h4, _⟩ := h.side i hi
    exact ⟨by omega, by omega, fun _ => h4⟩, hr.more hM, hg⟩

set_option maxRecDepth 100000 in
set_option maxHeartbeats 1000000 in
theorem l91Case (B0 g m : Nat) (w : World) (h : RdyI B0 w g m) (hB : B0 ≤ w.heap.size) (hm : m ≤ 1000000) :
    Calls Try.prog 18 #[.pointer (some ⟨g, 0, none⟩)] w (CaseDrawn B0 g m w) := by
  have hgw := h.lt
  have HB0 := Lib.hid (below_new w (.cells #[] 29))
  have HC0 := Lib.hid (CaseI.nil_ (base := w.heap.size) w (Nat.le_refl _))
  have HR0 := Lib.hid (h.below HB0.out)
  clear h
  go_enter Try.func18, Try.ntmps18
  go_wp2_with fail
  refine (pickI B0 g m 9 _ HR0.out (by omega) (by omega) (by omega)).mono ?_
  rintro e w0 ⟨nn, rfl, n0, n1, hr0, g0⟩
  obtain ⟨N, rfl⟩ := Int.eq_ofNat_of_zero_le n0
  have HCN := Lib.hid (HC0.out.pick g0 hgw)
  have HRN := Lib.hid hr0
  have HGN := Lib.hid (grownBy_trans (grownBy_of_below HB0.out (some g)) g0)
  clear hr0 g0 n0
  go_wp2_with fail
  go_loopw [3, 5] (fun q x wr => ∃ (i : Nat) (A : Option Addr) (c : Nat) (R : List (List Int)) (vs : List Value) (M : Nat), i ≤ N ∧ M ≤ m + 1 + 4 * i ∧ x = .int .i64 (i : Int) ∧ q = .slice A R.length c ∧ Hid (R.length = i) ∧ Hid (CaseI wr w.heap.size A c R vs ∧ RdyI B0 wr g M ∧ w.grownBy wr (some g))) (fun _ x _ => N - (intOf x).toNat)
  case atStart => exact ⟨0, _, _, [], [], m + 1, Nat.zero_le _, Nat.le_refl _, rfl, rfl, Lib.hid rfl, Lib.hid ⟨HCN.out, HRN.out, HGN.out⟩⟩
  case round =>
    obtain ⟨i, A, c, R, vs, M, hi, hM, rfl, rfl, HL, HI⟩ := hrel
    obtain ⟨wo, rfl⟩ : ∃ wo, wo = wr := ⟨_, rfl⟩
    have lR : R.length ≤ 8 := by rw [HL.out]; omega
    have hzr := HI.out.2.2.size
    by_cases hlt : i < N
    · have HBE := Lib.hid (below_new wo (.cells #[] 3))
      have HS0 := Lib.hid (Sl.lit wo wo.heap.size (Nat.le_refl _) [] #[] rfl (by simp))
      have HRE := Lib.hid (HI.out.2.1.below HBE.out)
      go_wp2_with fail
      go_loopw [6, 7] (fun q y wr => ∃ (k : Nat) (As : Option Addr) (cs : Nat) (xs : List Int) (M' : Nat), k ≤ 4 ∧ M' ≤ M + k ∧ y = .int .i64 (k : Int) ∧ q = .slice As xs.length cs ∧ Hid (xs.length = k) ∧ Sl wr wo.heap.size As cs xs ∧ RdyI B0 wr g M' ∧ wo.grownBy wr (some g)) (fun _ y _ => 4 - (intOf y).toNat)
      case atStart => exact ⟨0, _, _, [], M, Nat.zero_le _, Nat.le_refl _, rfl, rfl, Lib.hid rfl, HS0.out, HRE.out, grownBy_of_below HBE.out (some g)⟩
      case round =>
        obtain ⟨k, As, cs, xs, M', hk, hM', rfl, rfl, HX, hs, hrd, hg⟩ := hrel
        have lx : xs.length ≤ 4 := by rw [HX.out]; exact hk
        have hzx := hg.size
        by_cases hltk : k < 4
        · have hltI : (k : Int) < 4 := by omega
          go_wp2_with fail
          refine (pickI B0 g M' 10 wr hrd (by omega) (by omega) (by omega)).mono ?_
          rintro e wq ⟨y, rfl, y0, y1, hrq, gq⟩
          have sq := hs.pick gq (by have := HI.out.2.1.lt; omega)
          have hzq := gq.size
          have HGq := Lib.hid (grownBy_trans hg gq)
          clear hs hrd hg gq
          go_wp2_with (at_builtin; refine wp_ap1 _ _ rfl rfl wq wo.heap.size As cs xs _ rfl rfl sq (by omega) (by omega) ?_; intro A1 c1 w2 s2 g2 _; refine Hid.out ?_)
          have HS2 := Lib.hid s2
          have HR2 := Lib.hid (hrq.own g2 (fun j hj => by have := (sq.lt j hj).1; omega))
          have HG2 := Lib.hid (grown_le HGq.out g2 (fun j hj => (sq.lt j hj).1))
          clear s2 g2 sq hrq
          refine Lib.hid ?_
          go_wp2_with fail
          go_roundw
          case rel => exact ⟨k + 1, A1, c1, _, M' + 1, by omega, by omega, by go_num, by simp, Lib.hid (by rw [List.length_append, HX.out]; rfl), HS2.out, HR2.out, HG2.out⟩
          case measure => simp [intOf]; omega
        · obtain rfl : k = 4 := by omega
          obtain ⟨cur, rfl, hc0, hc1⟩ := hs.addr (fun h0 => by have := HX.out; rw [h0] at this; simp at this)
          have hI2 := HI.out.1.pick hg hgw
          have HX4 := HX
          have hA := HI.out.1.lt
          have HGR := Lib.hid (grownBy_trans HI.out.2.2 hg)
          have HRD := Lib.hid hrd
          have HS := Lib.hid hs
          have HI2 := Lib.hid hI2
          have HA := Lib.hid hA
          have e4 := HX.out
          rw [show Value.slice (some ⟨cur, 0, none⟩) xs.length cs = .slice (some ⟨cur, 0, none⟩) 4 cs by rw [e4]]
          clear hs hrd hg hI2 hA e4
          go_wp2_with (at_builtin; refine wp_ap1r _ _ rfl rfl wr w.heap.size A c cur cs wo.heap.size R vs xs rfl rfl HI2.out HS.out HX4.out hzr (fun k hk => (HA.out k hk).2) (by omega) (by omega) ?_; intro A1 c1 w2 s2 g2; refine Hid.out ?_)
          have HI3 := Lib.hid s2
          have HR3 := Lib.hid (HRD.out.own g2 (fun j hj => by have := (HA.out j hj).1; omega))
          have HG3 := Lib.hid (grown_le HGR.out g2 (fun j hj => (HA.out j hj).1))
          clear s2 g2
          refine Lib.hid ?_
          go_wp2_with fail
          go_roundw
          case rel => exact ⟨i + 1, A1, c1, R ++ [xs], _, M', by omega, by omega, by go_num, by simp, Lib.hid (by rw [List.length_append, HL.out]; rfl), Lib.hid ⟨HI3.out, HR3.out, HG3.out⟩⟩
          case measure => simp [intOf]; omega
    · obtain rfl : i = N := by omega
      by_cases hN0 : i = 0
      · subst hN0
        go_wp2_with fail
        go_ret
        exact HI.out.1.drawn (by omega) HI.out.2.1 (by omega) HI.out.2.2
      have hNp : (0 : Int) < (i : Int) := by omega
      go_wp2_with fail
      refine (pickI B0 g M 30 wo HI.out.2.1 (by omega) (by omega) (by omega)).mono ?_
      rintro e wp ⟨x, rfl, x0, x1, hrp, gp⟩
      have hIp := HI.out.1.pick gp hgw
      have Gp := grownBy_trans HI.out.2.2 gp
      have hzp := gp.size
      have hRp : 0 < R.length := by rw [HL.out]; omega
      obtain ⟨a, rfl, ha0, ha1⟩ := hIp.addr hRp
      obtain ⟨b0, c0, hv0, hs0, h04, hne0⟩ := hIp.side 0 hRp
      have hcell := World.ownsRow.cellAt hIp.own 0 (by omega)
      rw [hv0] at hcell
      have hfz := World.ownsRow.frozenAt hIp.own 0
      have hcap := hs0.le
      have hb0 := hs0.lt b0 rfl
      have HIP := Lib.hid hIp
      have HGP := Lib.hid Gp
      have HRP := Lib.hid hrp
      clear gp
      by_cases q0 : x = 0
      · subst q0
        have hne : a ≠ b0 := fun e => hne0 (by rw [← e]; rfl)
        clear Gp hs0
        go_wp2_with fail
        refine wp_region_use (csR g) (fun w' => wp.grownBy w' (some g) ∧ RdyI B0 w' g (M + 2)) (fun w' => RdyI B0 w' g (M + 1)) 6 (csT a g b0 c0 (.slice (some ⟨a, 0, none⟩) R.length c)) (fun _ => 100) 0 1 (fun _ _ => True)
          (fun _ w' => ∃ R' : List (List Int), R'.length = R.length ∧ RdR w' w.heap.size (some ⟨a, 0, none⟩) R' ∧ (∀ i, i < R'.length → (sd R' i).length = 4) ∧ RdyI B0 w' g (M + 2) ∧ w.grownBy w' (some g)) 10 (by kernel_rfl) (by kernel_rfl) csT_stable (fun i v w1 w2 hi hR hj => by rw [csR, if_neg hi] at hR; exact hj.below hR) ⟨grownBy_of_below (Below.refl _ _).drew _, (hrp.below (Below.refl _ _).drew).more (by omega)⟩ (hrp.below (Below.refl _ _).drew) ?_ ?_
        · refine lawsU_cons rfl ?_ (lawsU_cons rfl ?_ (lawsU_cons rfl ?_ (lawsU_cons rfl ?_ (lawsU_cons rfl ?_ (lawsU_cons rfl ?_ (lawsU_cons rfl ?_ (lawsU_cons rfl ?_ (lawsU_cons rfl ?_ (lawsU_cons rfl ?_ (lawsU_last rfl ?_))))))))))
          · intro v w6 hI _ hd _
            go_light
            refine ⟨?_⟩
            unfold Gives
            simp only [fillL]
            go_simp
            exact ⟨csR_of (by decide) (Below.refl _ _), hI, rfl⟩
          · intro v w6 hI _ hd _
            have h1 : v 0 = _ := hd 0 (by kernel_rfl) rfl
            have hRI : (0 : Int) < (R.length : Int) := by omega
            clear hd
            go_light
            refine ⟨?_⟩
            unfold Gives
            simp only [fillL]
            go_simp
            exact ⟨csR_of (by decide) (Below.refl _ _), hI, rfl⟩
          · intro v w6 hI _ hd _
            have h1 : v 1 = _ := hd 1 (by kernel_rfl) rfl
            clear hd
            go_light
            refine ⟨?_⟩
            unfold Gives
            simp only [fillL]
            go_simp
            exact ⟨csR_of (by decide) (Below.refl _ _), hI, rfl⟩
          · intro v w6 hI _ hd _
            have h1 : v 2 = _ := hd 2 (by kernel_rfl) rfl
            have e1 := World.ownsRow.cellAt (hIp.pick hI.1 hgw).own 0 (by omega)
            rw [hv0] at e1
            clear hd
            go_light
            refine ⟨?_⟩
            unfold Gives
            simp only [fillL]
            go_simp
            exact ⟨csR_of (by decide) (Below.refl _ _), hI, rfl⟩
          · intro v w6 hI _ hd _
            have hg6 := hI.2.lt
            go_light
            refine ⟨?_⟩
            unfold Gives
            simp only [fillL]
            go_simp
            exact ⟨csR_of (by decide) (below_new _ _), ⟨grownBy_trans hI.1 (grownBy_of_below (below_new _ _) _), hI.2.below (below_new _ _)⟩, TTab.new (zs := [(-1), 10]) hg6 _ rfl⟩
          · intro v w6 hI _ hd _
            go_light
            refine ⟨?_⟩
            unfold Gives
            simp only [fillL]
            go_simp
            exact ⟨csR_of (by decide) (Below.refl _ _), hI, rfl⟩
          · intro v w6 hI hJ hd _
            have h1 : v 5 = _ := hd 5 (by kernel_rfl) rfl
            have hJ6 := hJ rfl
            clear hd hJ
            go_light
            refine ⟨?_⟩
            unfold Gives
            simp only [fillL]
            go_simp
            refine (pickI B0 g (M + 1) 2 w6 hJ6 (by omega) (by omega) (by omega)).mono ?_
            rintro e w7 ⟨z, rfl, z0, z1, r7, g7⟩
            exact ⟨_, rfl, csR_6 g7, ⟨grownBy_trans hI.1 g7, r7⟩, z, rfl, z0, by omega⟩
          · intro v w6 hI _ hd _
            obtain ⟨x, h0, hb, hlt, hc⟩ : TTab g [(-1), 10] w6 (v 4) := hd 4 (by kernel_rfl) rfl
            obtain ⟨j, h1, j0, j1⟩ : TInt 0 1 w6 (v 6) := hd 6 (by kernel_rfl) rfl
            have k0 := hc 0 (by simp)
            have k1 := hc 1 (by simp)
            clear hd hc
            go_light
            simp at h0
            rcases (show j = 0 ∨ j = 1 by omega) with rfl | rfl
            all_goals
              refine ⟨?_⟩
              unfold Gives
              simp only [fillL]
              go_simp
            · exact ⟨csR_of (by decide) (Below.refl _ _), hI, x, 0, (-1), rfl, hb, hlt, k0, by omega, by omega⟩
            · exact ⟨csR_of (by decide) (Below.refl _ _), hI, x, 1, 10, rfl, hb, hlt, k1, by omega, by omega⟩
          · intro v w6 hI _ hd _
            obtain ⟨x, j, z, h0, hb, hlt, hc, z0, z1⟩ : TAdr g (-1) 10 w6 (v 7) := hd 7 (by kernel_rfl) rfl
            clear hd
            go_light
            refine ⟨?_⟩
            unfold Gives
            simp only [fillL]
            go_simp
            exact ⟨csR_of (by decide) (Below.refl _ _), hI, z, rfl, z0, z1⟩
          · intro v w6 hI _ hd _
            have h1 : v 3 = _ := hd 3 (by kernel_rfl) rfl
            clear hd
            go_light
            refine ⟨?_⟩
            unfold Gives
            simp only [fillL]
            go_simp
            exact ⟨csR_of (by decide) (Below.refl _ _), hI, rfl⟩
          · intro v w6 hI hall
            obtain ⟨z, h1, _, _⟩ : TInt (-1) 10 w6 (v 8) := hall 8 (by decide) (by decide)
            have h2 : v 9 = _ := hall 9 (by decide) (by decide)
            have C6 := HIP.out.pick hI.1 hgw
            obtain ⟨bi, ci, hv1, hs6, hl6, _⟩ := C6.side 0 hRp
            rw [hv0] at hv1
            injection hv1 with hv1
            injection hv1 with hv1 _ hv2
            injection hv1 with hv1
            injection hv1 with hv1
            subst hv1 hv2
            have e1 := hs6.cell (j := 0) (by omega)
            have e2 := hs6.free 0
            have e3 := (hs6.lt b0 rfl)
            have P6 := C6.poke hne z
            have R7 := hI.2.own (grownBy_set w6 b0 0 (.int .i64 z)) (fun j hj => by injection hj; omega)
            have G7 := grown_le (grownBy_trans HGP.out hI.1) (grownBy_set w6 b0 0 (.int .i64 z)) (fun j hj => by injection hj; omega)
            clear hall
            go_light
            refine ⟨?_⟩
            unfold Gives
            simp only [fillL]
            go_simp
            exact ⟨pokeR R vs b0 z, pokeR_len _ _ _ _, P6.1, fun i hi => P6.2 i (by rw [pokeR_len] at hi; exact hi), R7, G7⟩
        intro v wx hF
        have HFX := Lib.hid hF
        clear hF hIp hv0
        refine ⟨?_⟩
        simp only [fillL]
        go_simp
        go_wp2_with fail
        go_ret
        obtain ⟨R', h1, h2, h3, h4, h5⟩ := HFX.out
        exact ⟨_, c, R', by rw [h1]; rfl, h2, by rw [h1]; exact lR, fun i hi => ⟨by rw [h3 i hi]; omega, by rw [h3 i hi]; omega, fun _ => h3 i hi⟩, h4.more (by omega), h5⟩
      have d0 : (x == 0) = false := beq_eq_false_iff_ne.2 q0
      by_cases q1 : x = 1
      · subst q1
        have n1 : ¬ c0 = 1 := by omega
        have HCUT := Lib.hid (hIp.cut hRp hv0)
        have HGC := Lib.hid (grown_le Gp (grownBy_set wp a 0 (.slice (some ⟨b0, 1, none⟩) 3 (c0 - 1))) (fun j hj => by injection hj; omega))
        have HRC := Lib.hid (hrp.own (grownBy_set wp a 0 (.slice (some ⟨b0, 1, none⟩) 3 (c0 - 1))) (fun j hj => by injection hj; omega))
        have HLEN : Hid (∀ i, i < (R.set 0 (sd R 0).tail).length → 3 ≤ (sd (R.set 0 (sd R 0).tail) i).length ∧ (sd (R.set 0 (sd R 0).tail) i).length ≤ 4 ∧ (i ≠ 0 → (sd (R.set 0 (sd R 0).tail) i).length = 4)) := Lib.hid (fun i hi => by
          rw [List.length_set] at hi
          obtain ⟨_, _, _, _, h4, _⟩ := hIp.side i hi
          rw [sd_set hRp]
          by_cases e : i = 0
          · subst e; rw [if_pos rfl, List.length_tail, h4]; exact ⟨by omega, by omega, fun h => absurd rfl h⟩
          · rw [if_neg e, h4]; exact ⟨by omega, by omega, fun _ => rfl⟩)
        clear hIp Gp hrp hs0 hv0
        go_wp2_with fail
        go_ret
        exact ⟨some ⟨a, 0, none⟩, c, R.set 0 (sd R 0).tail, by rw [List.length_set]; rfl, HCUT.out, by rw [List.length_set]; exact lR, HLEN.out, HRC.out.more (by omega), HGC.out⟩
      have d1 : (x == 1) = false := beq_eq_false_iff_ne.2 q1
      clear hIp Gp hrp hs0 hv0
      go_wp2_with fail
      go_ret
      exact HIP.out.drawn (by omega) HRP.out (by omega) HGP.out
end Go.Proofs.Ytnmfppjjhbkfmaa
