/- The law FnExactFramePushes returns true for every input: the program's FramePushes is the reference's, and its arguments are left as they were. No condition. -/
import Derived.Test.YtfdbhaojdccomaaPush2
import Derived.Deep.Light
namespace Go.Proofs.Ytfdbhaojdccomaa
open Go.ChangeShapes Go.WideShapes Go.ChangeAt Go.RowKit

/-- What the operations of the reference's call give. -/
def puT (X Y : Value) (hs ls hs' ls' : List Int) : Nat → World → Value → Prop
  | 0, _, v => v = X
  | 1, w, v => ∃ A B c d, v = .agg #[.slice A hs.length c, .slice B ls.length d] ∧ FrRd w A B hs ls
  | 2, _, v => v = Y
  | 3, w, v => ∃ A B c d, v = .agg #[.slice A hs'.length c, .slice B ls'.length d] ∧ FrRd w A B hs' ls'
  | _, _, v => v = .int .i64 (fpush hs ls hs' ls')
theorem puT_keep {X Y : Value} {hs ls hs' ls' : List Int} (i : Nat) (w1 w2 : World) (v : Value) (hR : Below w1.heap.size w1 w2) (h : puT X Y hs ls hs' ls' i w1 v) : puT X Y hs ls hs' ls' i w2 v := by
  match i, h with
  | 0, h => exact h
  | 1, ⟨A, B, c, d, h, h'⟩ => exact ⟨A, B, c, d, h, h'.below hR⟩
  | 2, h => exact h
  | 3, ⟨A, B, c, d, h, h'⟩ => exact ⟨A, B, c, d, h, h'.below hR⟩
  | _ + 4, h => exact h

set_option maxRecDepth 100000 in
set_option maxHeartbeats 2000000 in
theorem walk_FnExactFramePushes (A B : Option Addr) (c d : Nat) (hs ls : List Int) (A' B' : Option Addr) (c' d' : Nat) (hs' ls' : List Int) (w : World) (h0 : FrCame w A B c d hs ls) (h0' : FrCame w A' B' c' d' hs' ls') :
    Calls Try.prog 7 #[.agg #[.slice A hs.length c, .slice B ls.length d], .agg #[.slice A' hs'.length c', .slice B' ls'.length d']] w fun e w' => e = .returned (.bool true) ∧ Below w.heap.size w w' := by
  obtain ⟨mh, ml⟩ := h0.ml
  obtain ⟨mh', ml'⟩ := h0'.ml
  have hb0 := ((Below.refl w.heap.size w).alloc (Nat.le_refl _) (.cells #[.slice A hs.length c, .slice B ls.length d] 24)).alloc (by simp) (.cells #[.slice A' hs'.length c', .slice B' ls'.length d'] 24)
  have hr0 := h0.rd.below hb0
  have hr0' := h0'.rd.below hb0
  by_cases hbig : (hs.length : Int) + ls.length ≤ 1048576
  · by_cases hbig' : (hs'.length : Int) + ls'.length ≤ 1048576 - hs.length - ls.length
    · go_enter Try.func7, Try.ntmps7
      go_wp2_with fail
      refine (szFrame _ _ _ _ _ _ _ _ mh ml (by omega) (by omega)).mono ?_
      rintro e w1 ⟨rfl, q1⟩
      rw [if_pos hbig]
      obtain ⟨x1, x2, x3, x4, z1, z2⟩ := box22 q1
      go_wp2_with fail
      refine (szFrame _ _ _ _ _ _ _ _ mh' ml' (by omega) (by omega)).mono ?_
      rintro e w2 ⟨rfl, b2⟩
      rw [if_pos hbig']
      have q2 := bstep q1 b2
      clear x1 x2 x3 x4 z1 z2
      obtain ⟨x1, x2, x3, x4, z1, z2⟩ := box22 q2
      have s1 := hr0.below q2
      have s2 := hr0'.below q2
      go_wp2_with fail
      refine wp_region_lawful (fun w1 w2 => Below w1.heap.size w1 w2) (fun _ w1 => Below w2.heap.size w2 w1) (puT (.agg #[.slice A hs.length c, .slice B ls.length d]) (.agg #[.slice A' hs'.length c', .slice B' ls'.length d']) hs ls hs' ls') (by kernel_rfl) (by kernel_rfl) puT_keep ?_ ?_ ?_
      · exact (Below.refl _ _).drew
      · refine lawsFrom_cons rfl ?_ (lawsFrom_cons rfl ?_ (lawsFrom_cons rfl ?_ (lawsFrom_cons rfl ?_ (lawsFrom_cons rfl ?_ (lawsFrom_cons rfl ?_ lawsFrom_nil)))))
        · intro f v w6 hI _
          have e0 := cell_later x1 hI
          have e1 := cell_later x2 hI
          go_light
          refine ⟨?_⟩
          unfold Gives
          simp only [fillL]
          go_simp
          exact ⟨Below.refl _ _, hI, rfl⟩
        · intro f v w6 hI hd
          have h1 : v 0 = _ := hd 0 (by kernel_rfl)
          clear hd
          go_light
          refine ⟨?_⟩
          unfold Gives
          simp only [fillL]
          go_simp
          refine (toFrame A B c d hs ls w6 (s1.below hI) (by omega) (by omega)).mono ?_
          rintro e w7 ⟨A7, B7, c7, d7, rfl, s7, b7⟩
          exact ⟨_, rfl, b7, bstep hI b7, A7, B7, c7, d7, rfl, s7.rd⟩
        · intro f v w6 hI _
          have e0 := cell_later x3 hI
          have e1 := cell_later x4 hI
          go_light
          refine ⟨?_⟩
          unfold Gives
          simp only [fillL]
          go_simp
          exact ⟨Below.refl _ _, hI, rfl⟩
        · intro f v w6 hI hd
          have h1 : v 2 = _ := hd 2 (by kernel_rfl)
          clear hd
          go_light
          refine ⟨?_⟩
          unfold Gives
          simp only [fillL]
          go_simp
          refine (toFrame A' B' c' d' hs' ls' w6 (s2.below hI) (by omega) (by omega)).mono ?_
          rintro e w7 ⟨A7, B7, c7, d7, rfl, s7, b7⟩
          exact ⟨_, rfl, b7, bstep hI b7, A7, B7, c7, d7, rfl, s7.rd⟩
        · intro f v w6 hI hd
          obtain ⟨A7, B7, c7, d7, h1, s7⟩ := hd 1 (by kernel_rfl)
          obtain ⟨A8, B8, c8, d8, h2, s8⟩ := hd 3 (by kernel_rfl)
          clear hd
          go_light
          refine ⟨?_⟩
          unfold Gives
          simp only [fillL]
          go_simp
          refine (spec_FramePushes A7 B7 A8 B8 c7 d7 c8 d8 hs ls hs' ls' w6 s7 s8 (by omega) (by omega) (by omega) (by omega)).mono ?_
          rintro e w7 ⟨rfl, b7⟩
          exact ⟨_, rfl, b7, bstep hI b7, rfl⟩
        · intro f v w6 hI hd
          have h1 : v 4 = _ := hd 4 (by kernel_rfl)
          clear hd
          go_light
          refine ⟨?_⟩
          unfold Gives
          simp only [fillL]
          go_simp
          exact ⟨Below.refl _ _, hI, rfl⟩
      intro f v w3 b3 hall
      have h4 : v 5 = .int .i64 (fpush hs ls hs' ls') := hall 5 (by decide)
      clear hall
      refine ⟨?_⟩
      simp only [fillL]
      go_simp
      clear h4 x1 x2 x3 x4 z1 z2
      have q3 := bstep q2 b3
      obtain ⟨x1, x2, x3, x4, z1, z2⟩ := box22 q3
      go_wp2_with fail
      refine (toFrame _ _ _ _ _ _ _ (hr0.below q3) (by omega) (by omega)).mono ?_
      rintro e w4 ⟨A4, B4, c4, d4, rfl, s4, b4⟩
      have q4 := (bstep q3 b4).alloc (bstep q3 b4).size (.cells #[.slice A4 hs.length c4, .slice B4 ls.length d4] 27)
      clear x1 x2 x3 x4 z1 z2
      obtain ⟨x1, x2, x3, x4, z1, z2⟩ := box22 q4
      go_wp2_with fail
      refine (toFrame _ _ _ _ _ _ _ (hr0'.below q4) (by omega) (by omega)).mono ?_
      rintro e w5 ⟨A5, B5, c5, d5, rfl, s5, b5⟩
      clear x1 x2 x3 x4 z1 z2
      have q5 := (bstep q4 b5).alloc (bstep q4 b5).size (.cells #[.slice A5 hs'.length c5, .slice B5 ls'.length d5] 27)
      have b5' := b5.alloc b5.size (.cells #[.slice A5 hs'.length c5, .slice B5 ls'.length d5] 27)
      have t4 := (s4.rd.alloc (.cells #[.slice A4 hs.length c4, .slice B4 ls.length d4] 27)).below b5'
      have t5 := s5.rd.alloc (.cells #[.slice A5 hs'.length c5, .slice B5 ls'.length d5] 27)
      obtain ⟨y0, y1, zy⟩ := box2 b5'
      have zz : w4.heap.size < w5.heap.size + 1 := by simpa using zy
      go_wp2_with fail
      refine (impl_FramePushes _ _ _ _ _ _ _ _ _ _ _ _ _ t4 t5 (by omega) (by omega) (by omega) (by omega)).mono ?_
      rintro e w6 ⟨rfl, b6⟩
      have q6 := bstep q5 b6
      have t4' := t4.below b6
      have t5' := t5.below b6
      have y0' := cell_later y0 b6
      have y1' := cell_later y1 b6
      obtain ⟨y2, y3, zy3⟩ := box2 b6
      obtain ⟨x1, x2, x3, x4, z1, z2⟩ := box22 q6
      have s6 := hr0.below q6
      have s6' := hr0'.below q6
      clear y0 y1
      go_wp2_with fail
      refine wp_region_lawful (fun w1 w2 => Below w1.heap.size w1 w2) (fun _ w1 => Below w6.heap.size w6 w1) (eqT (.agg #[.slice A4 hs.length c4, .slice B4 ls.length d4]) (.agg #[.slice A hs.length c, .slice B ls.length d]) hs ls) (by kernel_rfl) (by kernel_rfl) eqT_keep ?_ ?_ ?_
      · exact (Below.refl _ _).drew
      · refine lawsFrom_cons rfl ?_ (lawsFrom_cons rfl ?_ (lawsFrom_cons rfl ?_ (lawsFrom_cons rfl ?_ (lawsFrom_cons rfl ?_ lawsFrom_nil))))
        · intro f v w6 hI _
          have e0 := cell_later y0' hI
          have e1 := cell_later y1' hI
          go_light
          refine ⟨?_⟩
          unfold Gives
          simp only [fillL]
          go_simp
          exact ⟨Below.refl _ _, hI, rfl⟩
        · intro f v w6 hI _
          have e0 := cell_later x1 hI
          have e1 := cell_later x2 hI
          go_light
          refine ⟨?_⟩
          unfold Gives
          simp only [fillL]
          go_simp
          exact ⟨Below.refl _ _, hI, rfl⟩
        · intro f v w6 hI hd
          have h1 : v 1 = _ := hd 1 (by kernel_rfl)
          clear hd
          go_light
          refine ⟨?_⟩
          unfold Gives
          simp only [fillL]
          go_simp
          refine (toFrame A B c d hs ls w6 (s6.below hI) (by omega) (by omega)).mono ?_
          rintro e w7 ⟨A7, B7, c7, d7, rfl, s7, b7⟩
          exact ⟨_, rfl, b7, bstep hI b7, A7, B7, c7, d7, rfl, s7.rd⟩
        · intro f v w6 hI hd
          have h1 : v 0 = _ := hd 0 (by kernel_rfl)
          obtain ⟨A7, B7, c7, d7, h2, s7⟩ := hd 2 (by kernel_rfl)
          clear hd
          go_light
          refine ⟨?_⟩
          unfold Gives
          simp only [fillL]
          go_simp
          refine (eqFrame_same A4 B4 A7 B7 c4 d4 c7 d7 hs ls w6 (t4'.below hI) s7 (by omega) (by omega)).mono ?_
          rintro e w7 ⟨rfl, b7⟩
          exact ⟨_, rfl, b7, bstep hI b7, rfl⟩
        · intro f v w6 hI hd
          have h1 : v 3 = _ := hd 3 (by kernel_rfl)
          clear hd
          go_light
          refine ⟨?_⟩
          unfold Gives
          simp only [fillL]
          go_simp
          exact ⟨Below.refl _ _, hI, rfl⟩
      intro f v w8 b8 hall
      have h4 : v 4 = .bool false := hall 4 (by decide)
      clear hall
      refine ⟨?_⟩
      simp only [fillL]
      go_simp
      clear h4
      have q8 := bstep q6 b8
      have t8 := t5'.below b8
      have s8 := s6'.below b8
      have y2' := cell_later y2 b8
      have y3' := cell_later y3 b8
      clear x1 x2 x3 x4 z1 z2 y0' y1' y2 y3
      obtain ⟨x1, x2, x3, x4, z1, z2⟩ := box22 q8
      go_wp2_with fail
      refine wp_region_lawful (fun w1 w2 => Below w1.heap.size w1 w2) (fun _ w1 => Below w8.heap.size w8 w1) (eqT (.agg #[.slice A5 hs'.length c5, .slice B5 ls'.length d5]) (.agg #[.slice A' hs'.length c', .slice B' ls'.length d']) hs' ls') (by kernel_rfl) (by kernel_rfl) eqT_keep ?_ ?_ ?_
      · exact (Below.refl _ _).drew
      · refine lawsFrom_cons rfl ?_ (lawsFrom_cons rfl ?_ (lawsFrom_cons rfl ?_ (lawsFrom_cons rfl ?_ (lawsFrom_cons rfl ?_ lawsFrom_nil))))
        · intro f v w6 hI _
          have e0 := cell_later y2' hI
          have e1 := cell_later y3' hI
          go_light
          refine ⟨?_⟩
          unfold Gives
          simp only [fillL]
          go_simp
          exact ⟨Below.refl _ _, hI, rfl⟩
        · intro f v w6 hI _
          have e0 := cell_later x3 hI
          have e1 := cell_later x4 hI
          go_light
          refine ⟨?_⟩
          unfold Gives
          simp only [fillL]
          go_simp
          exact ⟨Below.refl _ _, hI, rfl⟩
        · intro f v w6 hI hd
          have h1 : v 1 = _ := hd 1 (by kernel_rfl)
          clear hd
          go_light
          refine ⟨?_⟩
          unfold Gives
          simp only [fillL]
          go_simp
          refine (toFrame A' B' c' d' hs' ls' w6 (s8.below hI) (by omega) (by omega)).mono ?_
          rintro e w7 ⟨A7, B7, c7, d7, rfl, s7, b7⟩
          exact ⟨_, rfl, b7, bstep hI b7, A7, B7, c7, d7, rfl, s7.rd⟩
        · intro f v w6 hI hd
          have h1 : v 0 = _ := hd 0 (by kernel_rfl)
          obtain ⟨A7, B7, c7, d7, h2, s7⟩ := hd 2 (by kernel_rfl)
          clear hd
          go_light
          refine ⟨?_⟩
          unfold Gives
          simp only [fillL]
          go_simp
          refine (eqFrame_same A5 B5 A7 B7 c5 d5 c7 d7 hs' ls' w6 (t8.below hI) s7 (by omega) (by omega)).mono ?_
          rintro e w7 ⟨rfl, b7⟩
          exact ⟨_, rfl, b7, bstep hI b7, rfl⟩
        · intro f v w6 hI hd
          have h1 : v 3 = _ := hd 3 (by kernel_rfl)
          clear hd
          go_light
          refine ⟨?_⟩
          unfold Gives
          simp only [fillL]
          go_simp
          exact ⟨Below.refl _ _, hI, rfl⟩
      intro f v w9 b9 hall
      have h4 : v 4 = .bool false := hall 4 (by decide)
      clear hall
      refine ⟨?_⟩
      simp only [fillL]
      go_simp
      clear h4
      go_wp2_with fail
      go_ret
      exact ⟨rfl, bstep hb0 (bstep q8 b9)⟩
    · go_enter Try.func7, Try.ntmps7
      go_wp2_with fail
      refine (szFrame _ _ _ _ _ _ _ _ mh ml (by omega) (by omega)).mono ?_
      rintro e w1 ⟨rfl, q1⟩
      rw [if_pos hbig]
      obtain ⟨x1, x2, x3, x4, z1, z2⟩ := box22 q1
      go_wp2_with fail
      refine (szFrame _ _ _ _ _ _ _ _ mh' ml' (by omega) (by omega)).mono ?_
      rintro e w2 ⟨rfl, b2⟩
      rw [if_neg (by omega)]
      clear x1 x2 x3 x4
      go_wp2_with fail
      go_ret
      exact ⟨rfl, bstep hb0 (bstep q1 b2)⟩
  · go_enter Try.func7, Try.ntmps7
    go_wp2_with fail
    refine (szFrame _ _ _ _ _ _ _ _ mh ml (by omega) (by omega)).mono ?_
    rintro e w1 ⟨rfl, q1⟩
    rw [if_neg (by omega)]
    go_wp2_with fail
    go_ret
    exact ⟨rfl, bstep hb0 q1⟩

/-! The row's step, after the kit's own shell of such a proof. -/
set_option linter.unusedVariables false in
set_option maxRecDepth 100000 in
theorem lifted_FnExactFramePushes (os : Os) (started : os.Started) (H : Type) (enc : TypeId × Value → H) :
    ReturnsInHanded {} Try.checked os 7 .any (Rows.fnExactFramePushesSpec.pre6 enc Try.prog Try.f7 Rows.fnExactFramePushesRow.domain false) (Rows.fnExactFramePushesSpec.post enc Try.prog Try.f7 false true false false) := by
  refine returnsInHanded_of_change (C := Try.checked) own started (by kernel_rfl) Try.func7
    (ChangeSpec.witness6 (enc := enc) (C := Try.checked) false ⟨#[], #[.agg #[.slice none 0 0, .slice none 0 0], .agg #[.slice none 0 0, .slice none 0 0]], []⟩ 8 (by kernel_rfl) (by kernel_rfl) (by kernel_rfl) (by kernel_rfl)) ?_
  intro W base args ds gs before hval0 hW hcnd _
  have hval : ∀ (j : Nat) t v, Try.f7.params[j]? = some t → args[j]? = some v → Value.okWide Try.prog W .any base t v := hval0
  have hW' := hW
  obtain ⟨p, q, hA0, hV, rfl, hfz, hnd⟩ := hW
  have hA : DataW.TrodAll enc Try.prog W 0 (fun _ => true) true Try.f7.params.toList args.toList ds p := hA0
  rw [Try.params7] at hA hval
  obtain ⟨v0, vs0, d0, ds0, p0, q0, hargs, rfl, rfl, h0, r0⟩ := trodAll_cons hA
  obtain ⟨v1, vs1, d1, ds1, p1, q1, rfl, rfl, rfl, h1, r1⟩ := trodAll_cons r0
  obtain ⟨rfl, rfl, rfl⟩ := trodAll_nil r1
  obtain rfl : args = #[v0, v1] := by cases args; simp_all
  obtain ⟨rfl, rfl⟩ := trodVars_none hV
  have k0 := h0
  have lt0 : ∀ x ∈ p0, x.block < W.heap.size := by obtain ⟨m, hm⟩ := k0; exact DataW.trod_lt m _ _ _ hm
  obtain ⟨A0, c0, hs0, B0, e0, ls0, rfl, w0⟩ := open_frame (hval 0 24 v0 rfl rfl) h0
  have k1 := h1
  have lt1 : ∀ x ∈ p1, x.block < W.heap.size := by obtain ⟨m, hm⟩ := k1; exact DataW.trod_lt m _ _ _ hm
  obtain ⟨A1, c1, hs1, B1, e1, ls1, rfl, w1⟩ := open_frame (hval 1 24 v1 rfl rfl) h1
  clear hA0 hval0
  refine (walk_FnExactFramePushes A0 B0 c0 e0 hs0 ls0 A1 B1 c1 e1 hs1 ls1 W w0 w1).mono fun e W' ⟨he, bel⟩ => ?_
  subst he
  exact ⟨_, rfl, _, _, _, [], _, [], hW', trodAll_mk1 (shut_bool Try.underlying4 _), (trodAll_cons_mk (Below.trod laidOut (by kernel_rfl) (of_decide_eq_true (by kernel_rfl)) k0 bel lt0) (trodAll_cons_mk (Below.trod laidOut (by kernel_rfl) (of_decide_eq_true (by kernel_rfl)) k1 bel lt1) trodAll_mk0)), rfl, bel.frame _, fun h => by cases h⟩

theorem over_FnExactFramePushes : Rows.fnExactFramePushesRow.holds Try.pinned (OpenSpec.ofChange Rows.fnExactFramePushesSpec) :=
  OpenClaim.holds_of_wide 7 Try.f7 rfl rfl rfl rfl rfl rfl rfl ⟨rfl, rfl, rfl, rfl, rfl⟩ rfl rfl rfl rfl rfl (by kernel_rfl) Try.func7 (by kernel_rfl)
    (of_decide_eq_true (by kernel_rfl)) (by unfold Func.isWrapper; first | (rw [if_pos (by decide +kernel)]; kernel_rfl) | (rw [if_neg (by decide +kernel)]; exact ⟨rfl, rfl⟩))
    (fun os started H enc _ => lifted_FnExactFramePushes os started H enc)

/-- The statement. -/
theorem holds_FnExactFramePushes : Rows.FnExactFramePushesSaid := over_FnExactFramePushes
#print axioms holds_FnExactFramePushes
end Go.Proofs.Ytfdbhaojdccomaa
