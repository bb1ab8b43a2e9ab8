/- The contract of the reference's FrameShift. -/
import Derived.Test.YtfdbhaojdccomaaNinesS
import Derived.Test.YtfdbhaojdccomaaRegE
import Derived.Test.YtfdbhaojdccomaaApFull
import Derived.Test.YtfdbhaojdccomaaDig
namespace Go.Proofs.Ytfdbhaojdccomaa
open Go.RowKit

/-- The frame shifted. -/
def sh (xs : List Int) : List Int := 0 :: xs.take (xs.length - 1)
theorem sh_len {xs : List Int} (h : 1 ≤ xs.length) : (sh xs).length = xs.length := by
  simp only [sh, List.length_cons, List.length_take]
  omega
/-- The frame is valid and its last digit 0. -/
def shB (hs ls : List Int) : Bool := frB hs ls && (fdig hs ls ((hs.length : Int) - 1) == 0)
def shH (hs ls : List Int) : List Int := if shB hs ls then sh hs else []
def shL (hs ls : List Int) : List Int := if shB hs ls then sh ls else []

/-- A slice of the call's own. -/
def TLit (B n : Nat) (xs : List Int) (w : World) (v : Value) : Prop := ∃ A c, v = .slice A n c ∧ xs.length = n ∧ Sl w B A c xs
def TOne (B : Nat) (w : World) (v : Value) : Prop := ∃ x, v = .slice (some ⟨x, 0, none⟩) 1 1 ∧ Sl w B (some ⟨x, 0, none⟩) 1 [0]
/-- Two slices lie apart. -/
def DSlc (x y : Value) : Prop := ∀ A n c A' n' c' k, x = .slice A n c → y = .slice A' n' c' → blk A = some k → blk A' ≠ some k

def shT (B a r n : Nat) (Ah Al : Option Addr) (c d : Nat) (hs ls : List Int) : Nat → World → Value → Prop
  | 0 => TOne B
  | 1 => fun _ v => v = .pointer (some ⟨a, 0, none⟩)
  | 2 => fun _ v => v = .slice Ah n c
  | 3 => fun _ v => v = .int .i64 (n : Int)
  | 4 => fun _ v => v = .int .i64 ((n : Int) - 1)
  | 5 => fun _ v => v = .slice Ah (n - 1) c
  | 6 => TLit B n (sh hs)
  | 7 => TOne B
  | 8 => fun _ v => v = .pointer (some ⟨a, 1, none⟩)
  | 9 => fun _ v => v = .slice Al n d
  | 10 => fun _ v => v = .int .i64 (n : Int)
  | 11 => fun _ v => v = .int .i64 ((n : Int) - 1)
  | 12 => fun _ v => v = .slice Al (n - 1) d
  | 13 => TLit B n (sh ls)
  | 14 => fun w v => ∃ A1 c1 B1 d1, v = .agg #[.slice A1 n c1, .slice B1 n d1] ∧ FrSl w B A1 B1 c1 d1 (sh hs) (sh ls)
  | 15 => fun w _ => ∃ A1 c1 B1 d1, w.heap[r]? = some (.cells #[.slice A1 n c1, .slice B1 n d1] 27 (0, 0)) ∧ FrSl w B A1 B1 c1 d1 (sh hs) (sh ls)
  | _ => fun _ v => v = .bool true
def shR (r i : Nat) (w1 w2 : World) : Prop := if i = 15 then w1.grownBy w2 (some r) else Below w1.heap.size w1 w2
def shE (i j : Nat) (x y : Value) : Prop := ((i = 0 ∨ i = 6) ∧ (j = 7 ∨ j = 13)) ∨ ((i = 7 ∨ i = 13) ∧ (j = 0 ∨ j = 6)) → DSlc x y
theorem shR_of {r i : Nat} {w1 w2 : World} (h : i ≠ 15) (hb : Below w1.heap.size w1 w2) : shR r i w1 w2 := by rw [shR, if_neg h]; exact hb
theorem TLit.grown {B n r : Nat} {xs : List Int} {w1 w2 : World} {v : Value} (hr : r < B) (h : TLit B n xs w1 v) (hg : w1.grownBy w2 (some r)) : TLit B n xs w2 v := by
  obtain ⟨A, c, h1, h2, h3⟩ := h
  refine ⟨A, c, h1, h2, h3.grown hg ?_⟩
  rcases hA : blk A with _ | k
  · exact .inl rfl
  · exact .inr fun e => by
      have := (h3.lt k hA).1
      injection e with e
      omega
theorem TOne.grown {B r : Nat} {w1 w2 : World} {v : Value} (hr : r < B) (h : TOne B w1 v) (hg : w1.grownBy w2 (some r)) : TOne B w2 v := by
  obtain ⟨x, h1, h3⟩ := h
  refine ⟨x, h1, h3.grown hg (.inr fun e => ?_)⟩
  have hx : B ≤ x := (h3.lt x rfl).1
  have e' : x = r := by simpa [blk] using e
  omega
theorem FrSl.grownR {w1 w2 : World} {B r c d : Nat} {A1 B1 : Option Addr} {hs ls : List Int} (h : FrSl w1 B A1 B1 c d hs ls) (hr : r < B) (hg : w1.grownBy w2 (some r)) : FrSl w2 B A1 B1 c d hs ls := by
  have f : ∀ {A : Option Addr} {c : Nat} {xs : List Int}, Sl w1 B A c xs → Sl w2 B A c xs := fun {A c xs} h3 => h3.grown hg (by
    rcases hA : blk A with _ | k
    · exact .inl rfl
    · exact .inr fun e => by
        have := (h3.lt k hA).1
        injection e with e
        omega)
  exact ⟨f h.hi, f h.lo, h.ne⟩
theorem shR_gr {r i : Nat} {w1 w2 : World} (h : shR r i w1 w2) : w1.grownBy w2 (some r) := by
  unfold shR at h
  split at h
  · exact h
  · exact grownBy_of_below h _
theorem shT_stable {B a r n : Nat} {Ah Al : Option Addr} {c d : Nat} {hs ls : List Int} (hr : r < B) (i j : Nat) (w1 w2 : World) (v : Value) (hij : i ≠ j) (hR : shR r i w1 w2) (h : shT B a r n Ah Al c d hs ls j w1 v) : shT B a r n Ah Al c d hs ls j w2 v := by
  have hg := shR_gr hR
  match j, hij, h with
  | 0, _, h => exact TOne.grown hr h hg
  | 1, _, h => exact h
  | 2, _, h => exact h
  | 3, _, h => exact h
  | 4, _, h => exact h
  | 5, _, h => exact h
  | 6, _, h => exact TLit.grown hr h hg
  | 7, _, h => exact TOne.grown hr h hg
  | 8, _, h => exact h
  | 9, _, h => exact h
  | 10, _, h => exact h
  | 11, _, h => exact h
  | 12, _, h => exact h
  | 13, _, h => exact TLit.grown hr h hg
  | 14, _, ⟨A1, c1, B1, d1, h1, h2⟩ => exact ⟨A1, c1, B1, d1, h1, h2.grownR hr hg⟩
  | 15, hij, ⟨A1, c1, B1, d1, h1, h2⟩ =>
    rw [shR, if_neg hij] at hR
    exact ⟨A1, c1, B1, d1, (hR.block r (Array.getElem?_eq_some_iff.1 h1).1).trans h1, h2.grownR hr hg⟩
  | _ + 16, _, h => exact h
/-- The slice that an operation gave lies in old memory. -/
theorem shT_lt {B a r n : Nat} {Ah Al : Option Addr} {c d : Nat} {hs ls : List Int} {j : Nat} {w : World} {v : Value} (hj : j = 0 ∨ j = 6 ∨ j = 7 ∨ j = 13) (h : shT B a r n Ah Al c d hs ls j w v) {A : Option Addr} {m c1 k : Nat} (hv : v = .slice A m c1) (hk : blk A = some k) : k < w.heap.size := by
  have f1 : TOne B w v → k < w.heap.size := by
    rintro ⟨x, h1, h3⟩
    rw [h1] at hv
    injection hv with e
    subst e
    exact (h3.lt k hk).2
  have f2 : ∀ {xs}, TLit B n xs w v → k < w.heap.size := by
    rintro xs ⟨x, c2, h1, _, h3⟩
    rw [h1] at hv
    injection hv with e
    subst e
    exact (h3.lt k hk).2
  rcases hj with rfl | rfl | rfl | rfl
  · exact f1 h
  · exact f2 h
  · exact f1 h
  · exact f2 h
/-- A new slice lies apart from what the others gave. -/
theorem shE_new {B a r n : Nat} {Ah Al : Option Addr} {c d : Nat} {hs ls : List Int} {i j : Nat} {w : World} {u v : Value} {A : Option Addr} {m c1 : Nat} (hu : u = .slice A m c1) (hA : ∀ k, blk A = some k → w.heap.size ≤ k) (h : shT B a r n Ah Al c d hs ls j w v) : shE j i v u ∧ shE i j u v := by
  have key : (j = 0 ∨ j = 6 ∨ j = 7 ∨ j = 13) → DSlc v u ∧ DSlc u v := by
    intro hj
    constructor
    · intro A1 n1 c2 A2 n2 c3 k h1 h2 h3 h4
      rw [hu] at h2
      injection h2 with e
      subst e
      have := shT_lt hj h h1 h3
      have := hA k h4
      omega
    · intro A1 n1 c2 A2 n2 c3 k h1 h2 h3 h4
      rw [hu] at h1
      injection h1 with e
      subst e
      have := shT_lt hj h h2 h4
      have := hA k h3
      omega
  exact ⟨fun hij => (key (by omega)).1, fun hij => (key (by omega)).2⟩

/-- The world in the region: old memory but the result's box is as it was. -/
def ShI (W : World) (r : Nat) (w : World) : Prop := W.grownBy w (some r) ∧ ∃ x y, w.heap[r]? = some (.cells #[x, y] 27 (0, 0))
theorem ShI.below {W w w' : World} {r : Nat} (h : ShI W r w) (k : Below w.heap.size w w') : ShI W r w' := by
  obtain ⟨h1, x, y, h2⟩ := h
  exact ⟨grownBy_trans h1 (grownBy_of_below k _), x, y, (k.block r (Array.getElem?_eq_some_iff.1 h2).1).trans h2⟩
theorem box_two {w : World} {r : Nat} {x y u v : Value} {t : TypeId} (h : w.heap[r]? = some (.cells #[x, y] t (0, 0))) : ((w.setCell ⟨r, 0, none⟩ u).setCell ⟨r, 1, none⟩ v).heap[r]? = some (.cells #[u, v] t (0, 0)) :=
  (heap_setCell_same _ r 1 _ _ v (heap_setCell_same w r 0 _ _ u h)).trans (by simp)

set_option maxRecDepth 100000 in
set_option maxHeartbeats 2000000 in
theorem spec_FrameShift_y (A B : Option Addr) (c d : Nat) (hs ls : List Int) (w : World) (hr : FrRd w A B hs ls) (ok : FrOk hs ls) (hc : hs.length ≤ c) (hd : ls.length ≤ d) (hz0 : fdig hs ls ((hs.length : Int) - 1) = 0) :
    Calls Try.prog 28 #[.agg #[.slice A hs.length c, .slice B ls.length d]] w (FrPost w (sh hs) (sh ls) true) := by
  have hb0 := ((Below.refl w.heap.size w).alloc (Nat.le_refl _) (.cells #[.slice A hs.length c, .slice B ls.length d] 27)).alloc (by simp) (.cells #[.slice none 0 0, .slice none 0 0] 27)
  have hr0 := hr.below hb0
  have n1 := ok.n1
  have n6 := ok.n6
  have hf := ok_frB ok
  have HLn := Lib.hid ok.len
  have HZ0 := Lib.hid hz0
  clear hz0
  obtain ⟨bh, oh, rfl, hbh, _⟩ := hr.hi.at (i := 0) (by omega)
  obtain ⟨bl, ol, rfl, hbl, _⟩ := hr.lo.at (i := 0) (by have := HLn.out; omega)
  go_enter Try.func28, Try.ntmps28
  go_wp2_with fail
  refine (spec_FrameValid_b _ _ _ _ _ _ _ hr0 (by omega) (by have := HLn.out; omega)).mono ?_
  rintro e w1 ⟨rfl, q1⟩
  rw [hf]
  have hr1 := hr0.below q1
  obtain ⟨x0, x1, _, _, xl⟩ := box_facts (box_first q1)
  have G0 := Lib.hid (box_second q1)
  have G1 := Lib.hid (box_first q1)
  have hz1 := q1.size
  have HB1 := Lib.hid (bstep hb0 q1)
  have z2 : w.heap.size + 1 < w1.heap.size := by simp at hz1; omega
  clear q1 hb0 hr0 hr hz1 hf
  go_wp2_with fail
  refine (spec_FrameDigit _ _ _ _ hs ls _ _ hr1 (by omega) (by have := HLn.out; omega)).mono ?_
  rintro e w2 ⟨rfl, q2⟩
  rw [HZ0.out]
  have hr2 := hr1.below q2
  have F0 := Lib.hid ((q2.block _ (by omega)).trans G0.out)
  have F1 := Lib.hid ((q2.block _ (by omega)).trans G1.out)
  have HB2 := Lib.hid (bstep HB1.out q2)
  have z3 : w.heap.size + 1 < w2.heap.size := by have := q2.size; omega
  clear q2 hr1 x0 x1 xl G0 G1 HB1 z2
  have HRH := Lib.hid hr2.hi
  have HRL := Lib.hid hr2.lo
  obtain ⟨x0, x1, _, _, xl⟩ := box_facts F1.out
  have HX0 := Lib.hid x0
  have HX1 := Lib.hid x1
  have hsl : ls.length = hs.length := HLn.out.symm
  rw [hsl] at x1 HX1
  have p1 : (0 : Int) ≤ (hs.length : Int) - 1 := by omega
  have p2 : (hs.length : Int) - 1 ≤ hs.length := by omega
  have p3 : ((hs.length : Int) - 1).toNat = hs.length - 1 := by omega
  have p4 : IntKind.i64.wrap ((hs.length : Int) - 1) = (hs.length : Int) - 1 := IntWalk.i64_in _ (by omega)
  have p5 : (hs.length : Int) - 1 ≤ c := by omega
  have p6 : (hs.length : Int) - 1 ≤ d := by have := HLn.out; omega
  have p7 : 1 ≤ (hs.length : Int) := by omega
  go_wp2_with fail
  refine wp_region_pairs (shR (w.heap.size + 1)) (ShI w2 (w.heap.size + 1)) (shT w2.heap.size w.heap.size (w.heap.size + 1) hs.length (some ⟨bh, oh, none⟩) (some ⟨bl, ol, none⟩) c d hs ls) shE 17 (by kernel_rfl) (by kernel_rfl) (shT_stable z3) ⟨grownBy_of_below (Below.refl _ _).drew _, _, _, F0.out⟩ ?_ ?_
  · refine lawsX_cons rfl ?_ (lawsX_cons rfl ?_ (lawsX_cons rfl ?_ (lawsX_cons rfl ?_ (lawsX_cons rfl ?_ (lawsX_cons rfl ?_ (lawsX_cons rfl ?_ (lawsX_cons rfl ?_ (lawsX_cons rfl ?_ (lawsX_cons rfl ?_ (lawsX_cons rfl ?_ (lawsX_cons rfl ?_ (lawsX_cons rfl ?_ (lawsX_cons rfl ?_ (lawsX_cons rfl ?_ (lawsX_cons rfl ?_ (lawsX_cons rfl ?_ (lawsX_nil)))))))))))))))))
    · intro L' v w6 hI hL hall hE
      have HA := Lib.hid hall
      have HEE := Lib.hid hE
      clear hall hE hL
      go_light
      refine ⟨?_⟩
      unfold Gives
      simp only [fillL]
      go_simp
      have hnew : ∀ k, blk (some (⟨w6.heap.size, 0, none⟩ : Addr)) = some k → w6.heap.size ≤ k := fun k hk => by simp [blk] at hk; omega
      refine ⟨shR_of (by decide) (below_new _ _), hI.below (below_new _ _), ⟨_, rfl, Sl.lit w6 w2.heap.size hI.1.size [0] _ rfl (by simp)⟩, fun j hj hji hLj => shE_new rfl hnew (HA.out j hj hji hLj)⟩
    · intro L' v w6 hI hL hall hE
      have HA := Lib.hid hall
      have HEE := Lib.hid hE
      clear hall hE hL
      go_light
      refine ⟨?_⟩
      unfold Gives
      simp only [fillL]
      go_simp
      exact ⟨shR_of (by decide) (Below.refl _ _), hI, rfl, fun j _ _ _ => ⟨fun h => by omega, fun h => by omega⟩⟩
    · intro L' v w6 hI hL hall hE
      have h1 : v 1 = _ := hall 1 (by decide) (by decide) (hL 1 (by kernel_rfl))
      have e1 := hI.1.cell HX0.out (by simp)
      have HA := Lib.hid hall
      have HEE := Lib.hid hE
      clear hall hE hL
      go_light
      refine ⟨?_⟩
      unfold Gives
      simp only [fillL]
      go_simp
      exact ⟨shR_of (by decide) (Below.refl _ _), hI, rfl, fun j _ _ _ => ⟨fun h => by omega, fun h => by omega⟩⟩
    · intro L' v w6 hI hL hall hE
      have HA := Lib.hid hall
      have HEE := Lib.hid hE
      clear hall hE hL
      go_light
      refine ⟨?_⟩
      unfold Gives
      simp only [fillL]
      go_simp
      exact ⟨shR_of (by decide) (Below.refl _ _), hI, rfl, fun j _ _ _ => ⟨fun h => by omega, fun h => by omega⟩⟩
    · intro L' v w6 hI hL hall hE
      have h3 : v 3 = _ := hall 3 (by decide) (by decide) (hL 3 (by kernel_rfl))
      have HA := Lib.hid hall
      have HEE := Lib.hid hE
      clear hall hE hL
      go_light
      refine ⟨?_⟩
      unfold Gives
      simp only [fillL]
      go_simp
      exact ⟨shR_of (by decide) (Below.refl _ _), hI, rfl, fun j _ _ _ => ⟨fun h => by omega, fun h => by omega⟩⟩
    · intro L' v w6 hI hL hall hE
      have h2 : v 2 = _ := hall 2 (by decide) (by decide) (hL 2 (by kernel_rfl))
      have h4 : v 4 = _ := hall 4 (by decide) (by decide) (hL 4 (by kernel_rfl))
      have HA := Lib.hid hall
      have HEE := Lib.hid hE
      clear hall hE hL
      go_light
      refine ⟨?_⟩
      unfold Gives
      simp only [fillL]
      go_simp
      exact ⟨shR_of (by decide) (Below.refl _ _), hI, rfl, fun j _ _ _ => ⟨fun h => by omega, fun h => by omega⟩⟩
    · intro L' v w6 hI hL hall hE
      obtain ⟨x, hx, sx⟩ : TOne w2.heap.size w6 (v 0) := hall 0 (by decide) (by decide) (hL 0 (by kernel_rfl))
      have h5 : v 5 = _ := hall 5 (by decide) (by decide) (hL 5 (by kernel_rfl))
      have hz6 := hI.1.size
      have hlt : (hs.take (hs.length - 1)).length = hs.length - 1 := by rw [List.length_take]; have := HLn.out; omega
      obtain ⟨A1, c1, w7, hrun, s7, b7, t7⟩ := ap_full 22 w6 w2.heap.size x [0] bh oh c (hs.take (hs.length - 1)) sx (fun j hj => by
        have hj2 : j < hs.length := by rw [List.length_take] at hj; omega
        obtain ⟨b9, o9, e9, _, hc9⟩ := HRH.out.at hj2
        injection e9 with e9
        injection e9 with e9 e10
        subst e9 e10
        have := hI.1.cell hc9 (by simp; omega)
        rw [this]
        simp [nth, List.getElem?_eq_getElem hj2, show j < hs.length - 1 by rw [List.length_take] at hj; omega]) (by simp only [List.length_cons, List.length_nil, hlt]; omega) hI.1.size
      have hc : 1 + (hs.length - 1) = hs.length := by omega
      rw [hlt] at hrun
      simp only [List.length_cons, List.length_nil, Nat.zero_add, hc] at hrun
      have hs7 : Sl w7 w2.heap.size A1 c1 (sh hs) := s7
      have hE0 := hE
      have hA0 := hall
      have hL0 := hL
      have HA := Lib.hid hall
      have HEE := Lib.hid hE
      have HL0 := Lib.hid (hL 0 (by kernel_rfl))
      clear hall hE hL hE0 hA0 hL0
      go_light
      refine kept_ap _ _ _ rfl hrun (by simp only [fillL]; go_simp) (by simp only [fillL]; go_simp) ?_
      refine ⟨shR_of (by decide) b7, hI.below b7, ⟨A1, c1, rfl, (sh_len (by have := HLn.out; omega)).trans (by have := HLn.out; omega), hs7⟩, fun j hj hji hLj => ?_⟩
      rcases t7 with t | ⟨g, t, tl⟩
      · refine ⟨fun hp => ?_, fun hp => ?_⟩
        · intro A2 m2 c2 A3 m3 c3 k e1 e2 e3 e4
          injection e2 with e2
          subst e2
          refine HEE.out j 0 hj (by decide) (by omega) hji (by decide) hLj HL0.out (by omega) A2 m2 c2 _ _ _ k e1 hx e3 (t.symm.trans e4)
        · intro A2 m2 c2 A3 m3 c3 k e1 e2 e3 e4
          injection e1 with e1
          subst e1
          refine HEE.out 0 j (by decide) hj (by omega) (by decide) hji HL0.out hLj (by omega) _ _ _ A3 m3 c3 k hx e2 (t.symm.trans e3) e4
      · exact shE_new rfl (fun k hk => by rw [t] at hk; injection hk with hk; omega) (HA.out j hj hji hLj)
    · intro L' v w6 hI hL hall hE
      have HA := Lib.hid hall
      have HEE := Lib.hid hE
      clear hall hE hL
      go_light
      refine ⟨?_⟩
      unfold Gives
      simp only [fillL]
      go_simp
      have hnew : ∀ k, blk (some (⟨w6.heap.size, 0, none⟩ : Addr)) = some k → w6.heap.size ≤ k := fun k hk => by simp [blk] at hk; omega
      refine ⟨shR_of (by decide) (below_new _ _), hI.below (below_new _ _), ⟨_, rfl, Sl.lit w6 w2.heap.size hI.1.size [0] _ rfl (by simp)⟩, fun j hj hji hLj => shE_new rfl hnew (HA.out j hj hji hLj)⟩
    · intro L' v w6 hI hL hall hE
      have HA := Lib.hid hall
      have HEE := Lib.hid hE
      clear hall hE hL
      go_light
      refine ⟨?_⟩
      unfold Gives
      simp only [fillL]
      go_simp
      exact ⟨shR_of (by decide) (Below.refl _ _), hI, rfl, fun j _ _ _ => ⟨fun h => by omega, fun h => by omega⟩⟩
    · intro L' v w6 hI hL hall hE
      have h8 : v 8 = _ := hall 8 (by decide) (by decide) (hL 8 (by kernel_rfl))
      have e1 := hI.1.cell HX1.out (by simp)
      have HA := Lib.hid hall
      have HEE := Lib.hid hE
      clear hall hE hL
      go_light
      refine ⟨?_⟩
      unfold Gives
      simp only [fillL]
      go_simp
      exact ⟨shR_of (by decide) (Below.refl _ _), hI, rfl, fun j _ _ _ => ⟨fun h => by omega, fun h => by omega⟩⟩
    · intro L' v w6 hI hL hall hE
      have HA := Lib.hid hall
      have HEE := Lib.hid hE
      clear hall hE hL
      go_light
      refine ⟨?_⟩
      unfold Gives
      simp only [fillL]
      go_simp
      exact ⟨shR_of (by decide) (Below.refl _ _), hI, rfl, fun j _ _ _ => ⟨fun h => by omega, fun h => by omega⟩⟩
    · intro L' v w6 hI hL hall hE
      have h10 : v 10 = _ := hall 10 (by decide) (by decide) (hL 10 (by kernel_rfl))
      have HA := Lib.hid hall
      have HEE := Lib.hid hE
      clear hall hE hL
      go_light
      refine ⟨?_⟩
      unfold Gives
      simp only [fillL]
      go_simp
      exact ⟨shR_of (by decide) (Below.refl _ _), hI, rfl, fun j _ _ _ => ⟨fun h => by omega, fun h => by omega⟩⟩
    · intro L' v w6 hI hL hall hE
      have h9 : v 9 = _ := hall 9 (by decide) (by decide) (hL 9 (by kernel_rfl))
      have h11 : v 11 = _ := hall 11 (by decide) (by decide) (hL 11 (by kernel_rfl))
      have HA := Lib.hid hall
      have HEE := Lib.hid hE
      clear hall hE hL
      go_light
      refine ⟨?_⟩
      unfold Gives
      simp only [fillL]
      go_simp
      exact ⟨shR_of (by decide) (Below.refl _ _), hI, rfl, fun j _ _ _ => ⟨fun h => by omega, fun h => by omega⟩⟩
    · intro L' v w6 hI hL hall hE
      obtain ⟨x, hx, sx⟩ : TOne w2.heap.size w6 (v 7) := hall 7 (by decide) (by decide) (hL 7 (by kernel_rfl))
      have h12 : v 12 = _ := hall 12 (by decide) (by decide) (hL 12 (by kernel_rfl))
      have hz6 := hI.1.size
      have hlt : (ls.take (ls.length - 1)).length = hs.length - 1 := by rw [List.length_take]; have := HLn.out; omega
      obtain ⟨A1, c1, w7, hrun, s7, b7, t7⟩ := ap_full 22 w6 w2.heap.size x [0] bl ol d (ls.take (ls.length - 1)) sx (fun j hj => by
        have hj2 : j < ls.length := by rw [List.length_take] at hj; omega
        obtain ⟨b9, o9, e9, _, hc9⟩ := HRL.out.at hj2
        injection e9 with e9
        injection e9 with e9 e10
        subst e9 e10
        have := hI.1.cell hc9 (by simp; omega)
        rw [this]
        simp [nth, List.getElem?_eq_getElem hj2, show j < ls.length - 1 by rw [List.length_take] at hj; omega]) (by simp only [List.length_cons, List.length_nil, hlt]; omega) hI.1.size
      have hc : 1 + (hs.length - 1) = hs.length := by omega
      rw [hlt] at hrun
      simp only [List.length_cons, List.length_nil, Nat.zero_add, hc] at hrun
      have hs7 : Sl w7 w2.heap.size A1 c1 (sh ls) := s7
      have hE0 := hE
      have hA0 := hall
      have hL0 := hL
      have HA := Lib.hid hall
      have HEE := Lib.hid hE
      have HL7 := Lib.hid (hL 7 (by kernel_rfl))
      clear hall hE hL hE0 hA0 hL0
      go_light
      refine kept_ap _ _ _ rfl hrun (by simp only [fillL]; go_simp) (by simp only [fillL]; go_simp) ?_
      refine ⟨shR_of (by decide) b7, hI.below b7, ⟨A1, c1, rfl, (sh_len (by have := HLn.out; omega)).trans (by have := HLn.out; omega), hs7⟩, fun j hj hji hLj => ?_⟩
      rcases t7 with t | ⟨g, t, tl⟩
      · refine ⟨fun hp => ?_, fun hp => ?_⟩
        · intro A2 m2 c2 A3 m3 c3 k e1 e2 e3 e4
          injection e2 with e2
          subst e2
          refine HEE.out j 7 hj (by decide) (by omega) hji (by decide) hLj HL7.out (by omega) A2 m2 c2 _ _ _ k e1 hx e3 (t.symm.trans e4)
        · intro A2 m2 c2 A3 m3 c3 k e1 e2 e3 e4
          injection e1 with e1
          subst e1
          refine HEE.out 7 j (by decide) hj (by omega) (by decide) hji HL7.out hLj (by omega) _ _ _ A3 m3 c3 k hx e2 (t.symm.trans e3) e4
      · exact shE_new rfl (fun k hk => by rw [t] at hk; injection hk with hk; omega) (HA.out j hj hji hLj)
    · intro L' v w6 hI hL hall hE
      obtain ⟨A1, c1, h6, l6, s6⟩ : TLit w2.heap.size hs.length (sh hs) w6 (v 6) := hall 6 (by decide) (by decide) (hL 6 (by kernel_rfl))
      obtain ⟨B1, d1, h13, l13, s13⟩ : TLit w2.heap.size hs.length (sh ls) w6 (v 13) := hall 13 (by decide) (by decide) (hL 13 (by kernel_rfl))
      have hap := hE 6 13 (by decide) (by decide) (by decide) (by decide) (by decide) (hL 6 (by kernel_rfl)) (hL 13 (by kernel_rfl)) (by omega)
      have HFS := Lib.hid (FrSl.mk s6 s13 (fun k hk => hap A1 _ _ B1 _ _ k h6 h13 hk))
      clear hap s6 s13 l6 l13
      have HA := Lib.hid hall
      have HEE := Lib.hid hE
      clear hall hE hL
      go_light
      refine ⟨?_⟩
      unfold Gives
      simp only [fillL]
      go_simp
      exact ⟨shR_of (by decide) (Below.refl _ _), hI, ⟨A1, c1, B1, d1, rfl, HFS.out⟩, fun j _ _ _ => ⟨fun h => by omega, fun h => by omega⟩⟩
    · intro L' v w6 hI hL hall hE
      obtain ⟨A1, c1, B1, d1, h14, s14⟩ : ∃ A1 c1 B1 d1, v 14 = .agg #[.slice A1 hs.length c1, .slice B1 hs.length d1] ∧ FrSl w6 w2.heap.size A1 B1 c1 d1 (sh hs) (sh ls) := hall 14 (by decide) (by decide) (hL 14 (by kernel_rfl))
      have HS14 := Lib.hid s14
      clear s14
      obtain ⟨g6, x6, y6, bx6⟩ := hI
      have HBX := Lib.hid (fun u v => box_two (u := u) (v := v) bx6)
      obtain ⟨k0, k1, f0, f1, kl⟩ := box_facts bx6
      have HG := Lib.hid (fun u v => grownBy_trans (grownBy_set w6 (w.heap.size + 1) 0 u) (grownBy_set _ (w.heap.size + 1) 1 v))
      have HG6 := Lib.hid g6
      clear g6
      have HA := Lib.hid hall
      have HEE := Lib.hid hE
      clear hall hE hL
      go_light
      refine ⟨?_⟩
      unfold Gives
      simp only [fillL]
      go_simp
      exact ⟨HG.out _ _, ⟨grownBy_trans HG6.out (HG.out _ _), _, _, HBX.out _ _⟩, ⟨A1, c1, B1, d1, HBX.out _ _, HS14.out.grownR z3 (HG.out _ _)⟩, fun j _ _ _ => ⟨fun h => by omega, fun h => by omega⟩⟩
    · intro L' v w6 hI hL hall hE
      have HA := Lib.hid hall
      have HEE := Lib.hid hE
      clear hall hE hL
      go_light
      refine ⟨?_⟩
      unfold Gives
      simp only [fillL]
      go_simp
      exact ⟨shR_of (by decide) (Below.refl _ _), hI, rfl, fun j _ _ _ => ⟨fun h => by omega, fun h => by omega⟩⟩
  intro v w6 hI hall
  obtain ⟨A1, c1, B1, d1, hbx, hfs⟩ : ∃ A1 c1 B1 d1, w6.heap[w.heap.size + 1]? = some (.cells #[.slice A1 hs.length c1, .slice B1 hs.length d1] 27 (0, 0)) ∧ FrSl w6 w2.heap.size A1 B1 c1 d1 (sh hs) (sh ls) := hall 15 (by decide)
  have h16 : v 16 = .bool true := hall 16 (by decide)
  obtain ⟨k0, k1, _, _, kl⟩ := box_facts hbx
  have HFS := Lib.hid hfs
  have HB6 := Lib.hid (HB2.out.grown hI.1 HB2.out.size (fun k hk => by injection hk with hk; omega))
  clear hall hI hbx hfs
  refine ⟨?_⟩
  simp only [fillL]
  go_simp
  clear h16
  go_wp2_with fail
  refine bodyPost_ret (v := .tuple #[.agg #[.slice A1 hs.length c1, .slice B1 hs.length d1], .bool true]) (by simp [results, Try.results28, go_sem, *]) rfl ?_
  refine ⟨A1, B1, c1, d1, ?_, HFS.out.down HB2.out.size, HB6.out⟩
  rw [sh_len n1, sh_len (by have := HLn.out; omega), ← HLn.out]

set_option maxRecDepth 100000 in
theorem spec_FrameShift_n (A B : Option Addr) (c d : Nat) (hs ls : List Int) (w : World) (hr : FrRd w A B hs ls) (hh : hs.length ≤ 4194304) (hl : ls.length ≤ 4194304) (hbad : frB hs ls = false) :
    Calls Try.prog 28 #[.agg #[.slice A hs.length c, .slice B ls.length d]] w (NoFr w) := by
  have hb0 := ((Below.refl w.heap.size w).alloc (Nat.le_refl _) (.cells #[.slice A hs.length c, .slice B ls.length d] 27)).alloc (by simp) (.cells #[.slice none 0 0, .slice none 0 0] 27)
  have hr0 := hr.below hb0
  go_enter Try.func28, Try.ntmps28
  go_wp2_with fail
  refine (spec_FrameValid_b _ _ _ _ _ _ _ hr0 hh hl).mono ?_
  rintro e w1 ⟨rfl, q1⟩
  rw [hbad]
  obtain ⟨x0, x1, f0, f1, xl⟩ := box_facts (box_second q1)
  have hb1 := Lib.hid (bstep hb0 q1)
  go_wp2_with fail
  refine bodyPost_ret (v := .tuple #[.agg #[.slice none 0 0, .slice none 0 0], .bool false]) (by simp [results, Try.results28, go_sem, *]) rfl ?_
  exact ⟨rfl, (hb1.out.setCell (by simp) _).setCell (by simp) _⟩

set_option maxRecDepth 100000 in
theorem spec_FrameShift_m (A B : Option Addr) (c d : Nat) (hs ls : List Int) (w : World) (hr : FrRd w A B hs ls) (ok : FrOk hs ls) (hz0 : fdig hs ls ((hs.length : Int) - 1) ≠ 0) :
    Calls Try.prog 28 #[.agg #[.slice A hs.length c, .slice B ls.length d]] w (NoFr w) := by
  have hb0 := ((Below.refl w.heap.size w).alloc (Nat.le_refl _) (.cells #[.slice A hs.length c, .slice B ls.length d] 27)).alloc (by simp) (.cells #[.slice none 0 0, .slice none 0 0] 27)
  have hr0 := hr.below hb0
  have n1 := ok.n1
  have n6 := ok.n6
  have hf := ok_frB ok
  have HLn := Lib.hid ok.len
  go_enter Try.func28, Try.ntmps28
  go_wp2_with fail
  refine (spec_FrameValid_b _ _ _ _ _ _ _ hr0 (by omega) (by have := HLn.out; omega)).mono ?_
  rintro e w1 ⟨rfl, q1⟩
  rw [hf]
  have hr1 := hr0.below q1
  obtain ⟨x0, x1, _, _, xl⟩ := box_facts (box_first q1)
  have G0 := Lib.hid (box_second q1)
  have hz1 := q1.size
  have HB1 := Lib.hid (bstep hb0 q1)
  have z2 : w.heap.size + 1 < w1.heap.size := by simp at hz1; omega
  clear q1 hb0 hr0 hr hz1 hf
  go_wp2_with fail
  refine (spec_FrameDigit _ _ _ _ hs ls _ _ hr1 (by omega) (by have := HLn.out; omega)).mono ?_
  rintro e w2 ⟨rfl, q2⟩
  have hne : (fdig hs ls ((hs.length : Int) - 1) != 0) = true := by simpa using hz0
  have F0 := (q2.block _ (by omega)).trans G0.out
  have HB2 := Lib.hid (bstep HB1.out q2)
  clear q2 hr1 x0 x1 xl G0 HB1 z2 hz0
  obtain ⟨x0, x1, f0, f1, xl⟩ := box_facts F0
  clear F0
  go_wp2_with fail
  refine bodyPost_ret (v := .tuple #[.agg #[.slice none 0 0, .slice none 0 0], .bool false]) (by simp [results, Try.results28, go_sem, *]) rfl ?_
  exact ⟨rfl, (HB2.out.setCell (by simp) _).setCell (by simp) _⟩

theorem shPost_no {hs ls : List Int} (hb : shB hs ls = false) {w : World} {e : Ending} {w' : World} (h : NoFr w e w') : FrPost w (shH hs ls) (shL hs ls) (shB hs ls) e w' :=
  FrPost.no (by simp [shH, hb]) (by simp [shL, hb]) hb h
theorem spec_FrameShift (A B : Option Addr) (c d : Nat) (hs ls : List Int) (w : World) (hr : FrRd w A B hs ls) (hh : hs.length ≤ 4194304) (hl : ls.length ≤ 4194304) (hc : hs.length ≤ c) (hd : ls.length ≤ d) :
    Calls Try.prog 28 #[.agg #[.slice A hs.length c, .slice B ls.length d]] w (FrPost w (shH hs ls) (shL hs ls) (shB hs ls)) := by
  cases hb : frB hs ls
  · exact (spec_FrameShift_n A B c d hs ls w hr hh hl hb).mono fun _ _ h => shPost_no (by simp [shB, hb]) h
  · by_cases hz : fdig hs ls ((hs.length : Int) - 1) = 0
    · have hS : shB hs ls = true := by simp [shB, hb, hz]
      rw [show shH hs ls = sh hs by simp [shH, hS], show shL hs ls = sh ls by simp [shL, hS], hS]
      exact spec_FrameShift_y A B c d hs ls w hr (frB_ok hb) hc hd hz
    · exact (spec_FrameShift_m A B c d hs ls w hr (frB_ok hb) hz).mono fun _ _ h => shPost_no (by simp [shB, hz]) h
end Go.Proofs.Ytfdbhaojdccomaa
