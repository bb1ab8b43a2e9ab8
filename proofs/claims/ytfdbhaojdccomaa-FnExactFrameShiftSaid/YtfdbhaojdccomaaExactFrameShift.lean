/- The law FnExactFrameShift returns true for every input: the program's FrameShift is the reference's, its result is its own, and its argument is left as it was. No condition. -/
import Derived.Test.YtfdbhaojdccomaaShI
import Derived.Test.YtfdbhaojdccomaaFrEnd
namespace Go.Proofs.Ytfdbhaojdccomaa
open Go.ChangeShapes Go.WideShapes Go.ChangeAt Go.RowKit

theorem sh_lens (hs ls : List Int) : (shH hs ls).length ≤ 6 ∧ (shL hs ls).length ≤ 6 := by
  unfold shH shL
  cases h : shB hs ls
  · simp
  · have hf : frB hs ls = true := by
      simp only [shB, Bool.and_eq_true] at h
      exact h.1
    have ok := frB_ok hf
    have := ok.n1
    have := ok.n6
    have := ok.len
    simp only [if_true]
    rw [sh_len (by omega), sh_len (by omega)]
    omega

set_option maxRecDepth 100000 in
set_option maxHeartbeats 2000000 in
theorem walk_FnExactFrameShift (A B : Option Addr) (c d : Nat) (hs ls : List Int) (w : World) (h0 : FrCame w A B c d hs ls) :
    Calls Try.prog 8 #[.agg #[.slice A hs.length c, .slice B ls.length d]] w fun e w' => e = .returned (.bool true) ∧ Below w.heap.size w w' := by
  obtain ⟨mh, ml⟩ := h0.ml
  have hb0 := below_alloc w (.cells #[.slice A hs.length c, .slice B ls.length d] 24)
  have hr0 := h0.rd.below hb0
  by_cases hbig : (hs.length : Int) + ls.length ≤ 1048576
  · obtain ⟨lh, ll⟩ := sh_lens hs ls
    have spec := fun A B c d w hr hc hd => spec_FrameShift A B c d hs ls w hr (by omega) (by omega) hc hd
    have impl := fun A B c d w hr => impl_FrameShift A B c d hs ls w hr (by omega) (by omega)
    generalize shH hs ls = hs' at *
    generalize shL hs ls = ls' at *
    generalize shB hs ls = ok at *
    have HSP := Lib.hid spec
    have HIM := Lib.hid impl
    clear spec impl
    go_enter Try.func8, Try.ntmps8
    go_wp2_with fail
    refine (szFrame _ _ _ _ _ _ _ _ mh ml (by omega) (by omega)).mono ?_
    rintro e w1 ⟨rfl, q1⟩
    rw [if_pos hbig]
    have AX1 := Bx.after q1
    have AR1 := hr0.below q1
    have r1 := bstep hb0 q1
    clear hb0 hr0 q1
    obtain ⟨x0, x1, xl⟩ := AX1.facts
    go_wp2_with fail
    refine (toFrame _ _ _ _ _ _ _ AR1 (by omega) (by omega)).mono ?_
    rintro e w2 ⟨A2, B2, c2, d2, rfl, s2, b2⟩
    have AX2 := AX1.below b2
    have AR2 := AR1.below b2
    have r2 := bstep r1 b2
    clear x0 x1 xl
    go_wp2_with fail
    refine (HSP.out _ _ _ _ _ s2.rd s2.hi.le s2.lo.le).mono ?_
    rintro e w3 ⟨A3, B3, c3, d3, rfl, s3, b3⟩
    have AX3 := AX2.below b3
    have AR3 := AR2.below b3
    have r3 := bstep r2 b3
    clear AX1 AX2 AR1 AR2 s2 b3 b2
    obtain ⟨x0, x1, xl⟩ := AX3.facts
    go_wp2_with fail
    -- x0 := toFrame(aF); the reference's frame lies in the box w3.heap.size
    have HAR3 := Lib.hid AR3
    refine (toFrame _ _ _ _ _ _ _ (AR3.below (below_alloc _ _)) (by omega) (by omega)).mono ?_
    rintro e w4 ⟨A4, B4, c4, d4, rfl, s4, b4⟩
    have q4 := bstep (below_alloc w3 (.cells #[.slice A3 hs'.length c3, .slice B3 ls'.length d3] 27)) b4
    have AX4 := AX3.below q4
    have AR4 := AR3.below q4
    have r4 := bstep r3 q4
    have WX4 := Bx.after b4
    have WS4 := s3.below q4
    have hz34 : w3.heap.size + 1 ≤ w4.heap.size := by have := b4.size; simpa using this
    have xb4 : (w3.alloc (.cells #[.slice A3 hs'.length c3, .slice B3 ls'.length d3] 27)).heap.size = w3.heap.size + 1 := by simp
    rw [xb4] at s4
    have hA3 := s3.ltA
    have hB3 := s3.ltB
    have hz3 := r3.size
    clear AX3 AR3 HAR3 s3 b4 q4 x0 x1 xl xb4
    go_wp2_with fail
    -- g0 := F(x0)
    refine (HIM.out _ _ _ _ _ (s4.rd.alloc _)).mono ?_
    rintro e w5 ⟨A5, B5, c5, d5, rfl, s5, b5⟩
    have q5 := bstep (below_alloc w4 (.cells #[.slice A4 hs.length c4, .slice B4 ls.length d4] 27)) b5
    have AX5 := AX4.below q5
    have AR5 := AR4.below q5
    have r5 := bstep r4 q5
    have WX5 := WX4.below q5
    have WS5 := WS4.below q5
    have XX5 := Bx.after b5
    have XS5 := s4.below q5
    have hz45 : w4.heap.size + 1 ≤ w5.heap.size := by have := b5.size; simpa using this
    have xb5 : (w4.alloc (.cells #[.slice A4 hs.length c4, .slice B4 ls.length d4] 27)).heap.size = w4.heap.size + 1 := by simp
    rw [xb5] at s5
    have hz4 := r4.size
    clear AX4 AR4 WX4 WS4 b5 q5 xb5
    obtain ⟨y0, y1, yl⟩ := WX5.facts
    go_wp2_with fail
    -- g0 = w0
    refine (eqFrame_same A5 B5 A3 B3 c5 d5 c3 d3 hs' ls' _ (s5.rd.alloc _) (WS5.rd.alloc _) (by omega) (by omega)).mono ?_
    rintro e w6 ⟨rfl, b6⟩
    have q6 := bstep (below_alloc w5 (.cells #[.slice A5 hs'.length c5, .slice B5 ls'.length d5] 27)) b6
    have AX6 := AX5.below q6
    have AR6 := AR5.below q6
    have r6 := bstep r5 q6
    have WX6 := WX5.below q6
    have WS6 := WS5.below q6
    have XX6 := XX5.below q6
    have XS6 := XS5.below q6
    have GX6 := Bx.after b6
    have GS6 := s5.below q6
    have hz56 : w5.heap.size + 1 ≤ w6.heap.size := by have := b6.size; simpa using this
    have hz5 := r5.size
    clear AX5 AR5 WX5 WS5 XX5 XS5 b6 q6 y0 y1 yl
    obtain ⟨x0, x1, xl⟩ := AX6.facts
    obtain ⟨y0, y1, yl⟩ := XX6.facts
    have t6 := XS6.rd
    go_wp2_with fail
    refine wp_region_lawful (fun w1 w2 => Below w1.heap.size w1 w2) (fun _ w1 => Below w6.heap.size w6 w1) (eqT (.agg #[.slice A4 hs.length c4, .slice B4 ls.length d4]) (.agg #[.slice A hs.length c, .slice B ls.length d]) hs ls) (by kernel_rfl) (by kernel_rfl) eqT_keep ?_ ?_ ?_
    · exact (Below.refl _ _).drew
    · refine lawsFrom_cons rfl ?_ (lawsFrom_cons rfl ?_ (lawsFrom_cons rfl ?_ (lawsFrom_cons rfl ?_ (lawsFrom_cons rfl ?_ lawsFrom_nil))))
      · intro f v w6 hI _
        have e0 := cell_later y0 hI
        have e1 := cell_later y1 hI
        go_light
        refine ⟨?_⟩
        unfold Gives
        simp only [fillL]
        go_simp
        exact ⟨Below.refl _ _, hI, rfl⟩
      · intro f v w6 hI _
        have e0 := cell_later x0 hI
        have e1 := cell_later x1 hI
        go_light
        refine ⟨?_⟩
        unfold Gives
        simp only [fillL]
        go_simp
        exact ⟨Below.refl _ _, hI, rfl⟩
      · intro f v w6 hI hd
        have h1 : v 1 = _ := hd 1 (by kernel_rfl)
        clear hd
        go_light
        refine ⟨?_⟩
        unfold Gives
        simp only [fillL]
        go_simp
        refine (toFrame A B c d hs ls w6 (AR6.below hI) (by omega) (by omega)).mono ?_
        rintro e w7 ⟨A7, B7, c7, d7, rfl, s7, b7⟩
        exact ⟨_, rfl, b7, bstep hI b7, A7, B7, c7, d7, rfl, s7.rd⟩
      · intro f v w6 hI hd
        have h1 : v 0 = _ := hd 0 (by kernel_rfl)
        obtain ⟨A7, B7, c7, d7, h2, s7⟩ := hd 2 (by kernel_rfl)
        clear hd
        go_light
        refine ⟨?_⟩
        unfold Gives
        simp only [fillL]
        go_simp
        refine (eqFrame_same A4 B4 A7 B7 c4 d4 c7 d7 hs ls w6 (t6.below hI) s7 (by omega) (by omega)).mono ?_
        rintro e w7 ⟨rfl, b7⟩
        exact ⟨_, rfl, b7, bstep hI b7, rfl⟩
      · intro f v w6 hI hd
        have h1 : v 3 = _ := hd 3 (by kernel_rfl)
        clear hd
        go_light
        refine ⟨?_⟩
        unfold Gives
        simp only [fillL]
        go_simp
        exact ⟨Below.refl _ _, hI, rfl⟩
    intro f v w7 b7 hall
    have h4 : v 4 = .bool false := hall 4 (by decide)
    clear hall
    refine ⟨?_⟩
    simp only [fillL]
    go_simp
    clear h4
    have AX7 := AX6.below b7
    have AR7 := AR6.below b7
    have r7 := bstep r6 b7
    have WX7 := WX6.below b7
    have WS7 := WS6.below b7
    have XX7 := XX6.below b7
    have XS7 := XS6.below b7
    have GX7 := GX6.below b7
    have GS7 := GS6.below b7
    have hz67 := b7.size
    clear AX6 AR6 WX6 WS6 XX6 XS6 GX6 GS6 b7 x0 x1 xl y0 y1 yl t6
    obtain ⟨y0, y1, yl⟩ := XX7.facts
    go_wp2_with fail
    -- x0 is marked
    refine (markFrame A4 B4 c4 d4 _ hs ls 1 w7 XS7 (by omega) (by omega) (by omega) (by omega) (by omega)).mono ?_
    rintro e w8 ⟨rfl, M⟩
    have AX8 := M.bx_lo AX7 (by omega)
    have AR8 := h0.rd.came r7 M.bel (by omega)
    have r8 := r7.trans (M.bel.mono (by omega))
    have WX8 := M.bx_lo WX7 (by omega)
    have WS8 := WS7.rd.belowB M.bel (fun j hj => by have := hA3 j hj; omega) (fun j hj => by have := hB3 j hj; omega)
    have GX8 := M.bx_hi GX7 s4 (by omega)
    have GS8 := M.fr_hi GS7 s4 (by omega)
    have hz78 := M.bel.size
    clear AX7 AR7 WX7 WS7 XX7 XS7 GX7 GS7 y0 y1 yl M
    obtain ⟨y0, y1, yl⟩ := WX8.facts
    obtain ⟨x0, x1, xl⟩ := GX8.facts
    go_wp2_with fail
    -- g0 is as it was
    refine (eqFrame_same A5 B5 A3 B3 c5 d5 c3 d3 hs' ls' w8 GS8.rd WS8 (by omega) (by omega)).mono ?_
    rintro e w9 ⟨rfl, b9⟩
    have AX9 := AX8.below b9
    have AR9 := AR8.below b9
    have r9 := bstep r8 b9
    have WX9 := WX8.below b9
    have WS9 := WS8.below b9
    have GX9 := GX8.below b9
    have GS9 := GS8.below b9
    have hz89 := b9.size
    clear AX8 AR8 WX8 WS8 GX8 GS8 b9 y0 y1 yl x0 x1 xl
    obtain ⟨x0, x1, xl⟩ := GX9.facts
    go_wp2_with fail
    -- g0 is marked
    refine (markFrame A5 B5 c5 d5 _ hs' ls' 1 w9 GS9 (by omega) (by omega) (by omega) (by omega) (by omega)).mono ?_
    rintro e w10 ⟨rfl, M⟩
    have AX10 := M.bx_lo AX9 (by omega)
    have AR10 := h0.rd.came r9 M.bel (by omega)
    have r10 := r9.trans (M.bel.mono (by omega))
    have WX10 := M.bx_lo WX9 (by omega)
    have WS10 := WS9.belowB M.bel (fun j hj => by have := hA3 j hj; omega) (fun j hj => by have := hB3 j hj; omega)
    have GX10 := M.bx_hi GX9 s5 (by omega)
    have GR10 := M.fr.rd
    clear AX9 AR9 WX9 WS9 GX9 GS9 x0 x1 xl M
    obtain ⟨x0, x1, xl⟩ := GX10.facts
    go_wp2_with fail
    refine (heldFrame A5 B5 c5 d5 hs'.length ls'.length 1 w10 GR10 (by omega) (by omega) (by omega) (by omega)).mono ?_
    rintro e w11 ⟨rfl, b11⟩
    have AX11 := AX10.below b11
    have AR11 := AR10.below b11
    have r11 := bstep r10 b11
    have WX11 := WX10.below b11
    have WS11 := WS10.below b11
    have GX11 := GX10.below b11
    have GR11 := GR10.below b11
    clear AX10 AR10 WX10 WS10 GX10 GR10 b11 x0 x1 xl
    obtain ⟨x0, x1, xl⟩ := AX11.facts
    go_wp2_with fail
    -- another call
    refine (toFrame _ _ _ _ _ _ _ AR11 (by omega) (by omega)).mono ?_
    rintro e w12 ⟨A12, B12, c12, d12, rfl, s12, b12⟩
    clear x0 x1 xl
    go_wp2_with fail
    refine (HIM.out _ _ _ _ _ s12.rd).mono ?_
    rintro e w13 ⟨A13, B13, c13, d13, rfl, s13, b13⟩
    have q13 := bstep b12 b13
    have r13 := bstep r11 q13
    have WX13 := WX11.below q13
    have WS13 := WS11.below q13
    have GX13 := GX11.below q13
    have GR13 := GR11.below q13
    clear AX11 AR11 WX11 WS11 GX11 GR11 b12 b13 q13 s12
    obtain ⟨x0, x1, xl⟩ := WX13.facts
    go_wp2_with fail
    refine (eqFrame_same A13 B13 A3 B3 c13 d13 c3 d3 hs' ls' _ (s13.rd.alloc _) (WS13.alloc _) (by omega) (by omega)).mono ?_
    rintro e w14 ⟨rfl, b14⟩
    have q14 := bstep (below_alloc w13 (.cells #[.slice A13 hs'.length c13, .slice B13 ls'.length d13] 27)) b14
    have r14 := bstep r13 q14
    have GX14 := GX13.below q14
    have GR14 := GR13.below q14
    clear WX13 WS13 GX13 GR13 b14 q14 x0 x1 xl
    obtain ⟨x0, x1, xl⟩ := GX14.facts
    go_wp2_with fail
    refine (heldFrame A5 B5 c5 d5 hs'.length ls'.length 1 w14 GR14 (by omega) (by omega) (by omega) (by omega)).mono ?_
    rintro e w15 ⟨rfl, b15⟩
    clear x0 x1 xl
    go_wp2_with fail
    go_ret
    exact ⟨rfl, bstep r14 b15⟩
  · go_enter Try.func8, Try.ntmps8
    go_wp2_with fail
    refine (szFrame _ _ _ _ _ _ _ _ mh ml (by omega) (by omega)).mono ?_
    rintro e w1 ⟨rfl, q1⟩
    rw [if_neg (by omega)]
    go_wp2_with fail
    go_ret
    exact ⟨rfl, bstep hb0 q1⟩

/-! The row's step, after the kit's own shell of such a proof. -/
set_option linter.unusedVariables false in
set_option maxRecDepth 100000 in
theorem lifted_FnExactFrameShift (os : Os) (started : os.Started) (H : Type) (enc : TypeId × Value → H) :
    ReturnsInHanded {} Try.checked os 8 .any (Rows.fnExactFrameShiftSpec.pre6 enc Try.prog Try.f8 Rows.fnExactFrameShiftRow.domain false) (Rows.fnExactFrameShiftSpec.post enc Try.prog Try.f8 false true false false) := by
  refine returnsInHanded_of_change (C := Try.checked) own started (by kernel_rfl) Try.func8
    (ChangeSpec.witness6 (enc := enc) (C := Try.checked) false ⟨#[], #[.agg #[.slice none 0 0, .slice none 0 0]], []⟩ 8 (by kernel_rfl) (by kernel_rfl) (by kernel_rfl) (by kernel_rfl)) ?_
  intro W base args ds gs before hval0 hW hcnd _
  have hval : ∀ (j : Nat) t v, Try.f8.params[j]? = some t → args[j]? = some v → Value.okWide Try.prog W .any base t v := hval0
  have hW' := hW
  obtain ⟨p, q, hA0, hV, rfl, hfz, hnd⟩ := hW
  have hA : DataW.TrodAll enc Try.prog W 0 (fun _ => true) true Try.f8.params.toList args.toList ds p := hA0
  rw [Try.params8] at hA hval
  obtain ⟨v0, vs0, d0, ds0, p0, q0, hargs, rfl, rfl, h0, r0⟩ := trodAll_cons hA
  obtain ⟨rfl, rfl, rfl⟩ := trodAll_nil r0
  obtain rfl : args = #[v0] := by cases args; simp_all
  obtain ⟨rfl, rfl⟩ := trodVars_none hV
  have k0 := h0
  have lt0 : ∀ x ∈ p0, x.block < W.heap.size := by obtain ⟨m, hm⟩ := k0; exact DataW.trod_lt m _ _ _ hm
  obtain ⟨A0, c0, hs0, B0, e0, ls0, rfl, w0⟩ := open_frame (hval 0 24 v0 rfl rfl) h0
  clear hA0 hval0
  refine (walk_FnExactFrameShift A0 B0 c0 e0 hs0 ls0 W w0).mono fun e W' ⟨he, bel⟩ => ?_
  subst he
  exact ⟨_, rfl, _, _, _, [], _, [], hW', trodAll_mk1 (shut_bool Try.underlying4 _), (trodAll_cons_mk (Below.trod laidOut (by kernel_rfl) (of_decide_eq_true (by kernel_rfl)) k0 bel lt0) trodAll_mk0), rfl, bel.frame _, fun h => by cases h⟩

theorem over_FnExactFrameShift : Rows.fnExactFrameShiftRow.holds Try.pinned (OpenSpec.ofChange Rows.fnExactFrameShiftSpec) :=
  OpenClaim.holds_of_wide 8 Try.f8 rfl rfl rfl rfl rfl rfl rfl ⟨rfl, rfl, rfl, rfl, rfl⟩ rfl rfl rfl rfl rfl (by kernel_rfl) Try.func8 (by kernel_rfl)
    (of_decide_eq_true (by kernel_rfl)) (by unfold Func.isWrapper; first | (rw [if_pos (by decide +kernel)]; kernel_rfl) | (rw [if_neg (by decide +kernel)]; exact ⟨rfl, rfl⟩))
    (fun os started H enc _ => lifted_FnExactFrameShift os started H enc)

/-- The statement. -/
theorem holds_FnExactFrameShift : Rows.FnExactFrameShiftSaid := over_FnExactFrameShift
#print axioms holds_FnExactFrameShift
end Go.Proofs.Ytfdbhaojdccomaa
