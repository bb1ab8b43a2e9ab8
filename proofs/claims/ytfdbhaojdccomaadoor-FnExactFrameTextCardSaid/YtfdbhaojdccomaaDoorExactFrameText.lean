/- The law FnExactFrameText returns true for every input: the program's FrameText is the reference's, and its argument is left as it was. No condition. -/
import Derived.Test.YtfdbhaojdccomaaDoorTxt
import Derived.Deep.Light
import Derived.ProofKit
import Derived.LaidMore
import Derived.OpenShut
import Derived.Stop.Joined
import Derived.Test.YtfdbhaojdccomaaDoorCards
import Derived.Test.YtfdbhaojdccomaaDoorTie
namespace Go.Proofs.YtfdbhaojdccomaaDoor
open Go.ChangeShapes Go.WideShapes Go.ChangeAt Go.RowKit

set_option maxRecDepth 100000 in
set_option maxHeartbeats 1000000 in
theorem walk_FnExactFrameText (A B : Option Addr) (c d : Nat) (hs ls : List Int) (w : World) (h0 : FrCame w A B c d hs ls) :
    Calls Tryd.prog 3 #[.agg #[.slice A hs.length c, .slice B ls.length d]] w fun e w' => e = .returned (.bool true) ∧ Below w.heap.size w w' := by
  obtain ⟨mh, ml⟩ := h0.ml
  have hr := h0.rd
  have hb0 := (Below.refl w.heap.size w).alloc (Nat.le_refl _) (.cells #[.slice A hs.length c, .slice B ls.length d] 24)
  have hr0 := hr.below hb0
  by_cases hbig : (hs.length : Int) + ls.length ≤ 1048576
  · go_enter Tryd.func3, Tryd.ntmps3
    go_wp2_with fail
    refine (szFrame _ _ _ _ _ _ _ _ mh ml (by omega) (by omega)).mono ?_
    rintro e w1 ⟨rfl, q1⟩
    rw [if_pos hbig]
    obtain ⟨x1, y1, z1⟩ := box2 q1
    go_wp2_with fail
    refine (toFrame _ _ _ _ _ _ _ (hr0.below q1) (by omega) (by omega)).mono ?_
    rintro e w2 ⟨A2, B2, c2, d2, rfl, s2, b2⟩
    have q2 := bstep q1 b2
    clear x1 y1
    go_wp2_with fail
    refine (spec_FrameText _ _ _ _ _ _ _ s2.rd (by omega) (by omega)).mono ?_
    rintro e w3 ⟨rfl, b3⟩
    have q3 := bstep q2 b3
    obtain ⟨x3, y3, z3⟩ := box2 q3
    go_wp2_with fail
    refine (toFrame _ _ _ _ _ _ _ (hr0.below q3) (by omega) (by omega)).mono ?_
    rintro e w4 ⟨A4, B4, c4, d4, rfl, s4, b4⟩
    have q4 := bstep q3 b4
    clear x3 y3
    go_wp2_with fail
    refine (impl_FrameText _ _ _ _ _ _ _ (s4.rd.alloc _) (by omega) (by omega)).mono ?_
    rintro e w5 ⟨rfl, b5⟩
    have q5 := bstep (q4.alloc q4.size _) b5
    have s5 := (s4.rd.alloc _).below b5
    obtain ⟨k0, k1, zk⟩ := box2 b5
    obtain ⟨k2, k3, z5⟩ := box2 q5
    go_wp2_with fail
    refine wp_region_lawful (fun w1 w2 => Below w1.heap.size w1 w2) (fun _ w1 => Below w5.heap.size w5 w1) (eqT (.agg #[.slice A4 hs.length c4, .slice B4 ls.length d4]) (.agg #[.slice A hs.length c, .slice B ls.length d]) hs ls) (by kernel_rfl) (by kernel_rfl) eqT_keep ?_ ?_ ?_
    · exact (Below.refl _ _).drew
    · refine lawsFrom_cons rfl ?_ (lawsFrom_cons rfl ?_ (lawsFrom_cons rfl ?_ (lawsFrom_cons rfl ?_ (lawsFrom_cons rfl ?_ lawsFrom_nil))))
      · intro f v w6 hI _
        have e0 := cell_later k0 hI
        have e1 := cell_later k1 hI
        clear k0 k1 k2 k3
        go_light
        refine ⟨?_⟩
        unfold Gives
        simp only [fillL]
        go_simp
        exact ⟨Below.refl _ _, hI, rfl⟩
      · intro f v w6 hI _
        have e0 := cell_later k2 hI
        have e1 := cell_later k3 hI
        clear k0 k1 k2 k3
        go_light
        refine ⟨?_⟩
        unfold Gives
        simp only [fillL]
        go_simp
        exact ⟨Below.refl _ _, hI, rfl⟩
      · intro f v w6 hI hd
        have h1 : v 1 = _ := hd 1 (by kernel_rfl)
        clear hd k0 k1 k2 k3
        go_light
        refine ⟨?_⟩
        unfold Gives
        simp only [fillL]
        go_simp
        refine (toFrame A B c d hs ls w6 (hr0.below (bstep q5 hI)) (by omega) (by omega)).mono ?_
        rintro e w7 ⟨A7, B7, c7, d7, rfl, s7, b7⟩
        exact ⟨_, rfl, b7, bstep hI b7, A7, B7, c7, d7, rfl, s7.rd⟩
      · intro f v w6 hI hd
        have h1 : v 0 = _ := hd 0 (by kernel_rfl)
        obtain ⟨A7, B7, c7, d7, h2, s7⟩ := hd 2 (by kernel_rfl)
        clear hd k0 k1 k2 k3
        go_light
        refine ⟨?_⟩
        unfold Gives
        simp only [fillL]
        go_simp
        refine (eqFrame_same A4 B4 A7 B7 c4 d4 c7 d7 hs ls w6 (s5.below hI) s7 (by omega) (by omega)).mono ?_
        rintro e w7 ⟨rfl, b7⟩
        exact ⟨_, rfl, b7, bstep hI b7, rfl⟩
      · intro f v w6 hI hd
        have h1 : v 3 = _ := hd 3 (by kernel_rfl)
        clear hd k0 k1 k2 k3
        go_light
        refine ⟨?_⟩
        unfold Gives
        simp only [fillL]
        go_simp
        exact ⟨Below.refl _ _, hI, rfl⟩
    · intro f v w6 hI hall
      have h4 : v 4 = .bool false := hall 4 (by decide)
      clear hall k0 k1 k2 k3
      refine ⟨?_⟩
      simp only [fillL]
      go_simp
      go_wp2_with fail
      go_ret
      exact ⟨rfl, bstep hb0 (bstep q5 hI)⟩
  · go_enter Tryd.func3, Tryd.ntmps3
    go_wp2_with fail
    refine (szFrame _ _ _ _ _ _ _ _ mh ml (by omega) (by omega)).mono ?_
    rintro e w1 ⟨rfl, q1⟩
    rw [if_neg (by omega)]
    go_wp2_with fail
    go_ret
    exact ⟨rfl, bstep hb0 q1⟩
theorem door_FnExactFrameText (os : Os) (args : Array Value) : laidMetH Tryd.prog [("math/bits.deBruijn32tab", Rows.laid_math_bits_deBruijn32tab), ("math/bits.deBruijn64tab", Rows.laid_math_bits_deBruijn64tab), ("internal/strconv.uint64pow10", Rows.laid_internal_strconv_uint64pow10)] ((World.doorLaid Tryd.prog 400 os).forCall (fun _ _ => 0) ⟨#[], args, []⟩).memory :=
  laidMetH_of_parts3 (fuel := 8) (laidMet_of_run' 8 (by kernel_rfl) (by kernel_rfl)) (by kernel_rfl) (by kernel_rfl)
/-! The row's step, after the kit's own shell of such a proof. -/
set_option linter.unusedVariables false in
set_option maxRecDepth 100000 in
theorem lifted_FnExactFrameText (os : Os) (started : os.Started) (H : Type) (enc : TypeId × Value → H) :
    ReturnsInHanded {} Tryd.checked os 3 .any (fun w args => (Rows.fnExactFrameTextSpec.pre enc Tryd.prog Tryd.f3 [] false w args ∧ laidMetH Tryd.prog [("math/bits.deBruijn32tab", Rows.laid_math_bits_deBruijn32tab), ("math/bits.deBruijn64tab", Rows.laid_math_bits_deBruijn64tab), ("internal/strconv.uint64pow10", Rows.laid_internal_strconv_uint64pow10)] w) ∧ sizedMet enc Tryd.prog Tryd.f3 (OpenSpec.ofChange Rows.fnExactFrameTextSpec) false w args) (Rows.fnExactFrameTextSpec.post enc Tryd.prog Tryd.f3 false true false false) := by
  refine returnsInHanded_of_change_and (C := Tryd.checked) (X := fun w _ => laidMetH Tryd.prog [("math/bits.deBruijn32tab", Rows.laid_math_bits_deBruijn32tab), ("math/bits.deBruijn64tab", Rows.laid_math_bits_deBruijn64tab), ("internal/strconv.uint64pow10", Rows.laid_internal_strconv_uint64pow10)] w) (fun _ _ _ hh h => h.of_heap hh) own started (by kernel_rfl) Tryd.func3
    (ChangeSpec.witness_shaped (enc := enc) (C := Tryd.checked) (os := os) (X := fun w _ => laidMetH Tryd.prog [("math/bits.deBruijn32tab", Rows.laid_math_bits_deBruijn32tab), ("math/bits.deBruijn64tab", Rows.laid_math_bits_deBruijn64tab), ("internal/strconv.uint64pow10", Rows.laid_internal_strconv_uint64pow10)] w) false (World.doorLaid Tryd.prog 400 os) #[.agg #[.slice none 0 0, .slice none 0 0]] 8 rfl (World.shaped_of_RefB (by kernel_rfl) (by kernel_rfl)) (by kernel_rfl) (by kernel_rfl) (by kernel_rfl) (door_FnExactFrameText os _)) ?_
  intro W base args ds gs before hval0 hW _ _ _ _
  have hval : ∀ (j : Nat) t v, Tryd.f3.params[j]? = some t → args[j]? = some v → Value.okWide Tryd.prog W .any base t v := hval0
  have hW' := hW
  obtain ⟨p, q, hA0, hV, rfl, hfz, hnd⟩ := hW
  have hA : DataW.TrodAll enc Tryd.prog W 0 (fun _ => true) true Tryd.f3.params.toList args.toList ds p := hA0
  rw [Tryd.params3] at hA hval
  obtain ⟨v0, vs0, d0, ds0, p0, q0, hargs, rfl, rfl, h0, r0⟩ := trodAll_cons hA
  obtain ⟨rfl, rfl, rfl⟩ := trodAll_nil r0
  obtain rfl : args = #[v0] := by cases args; simp_all
  obtain ⟨rfl, rfl⟩ := trodVars_none hV
  have k0 := h0
  have lt0 : ∀ x ∈ p0, x.block < W.heap.size := by obtain ⟨m, hm⟩ := k0; exact DataW.trod_lt m _ _ _ hm
  obtain ⟨A0, c0, hs0, B0, e0, ls0, rfl, w0⟩ := open_frame (hval 0 24 v0 rfl rfl) h0
  clear hA0 hval0
  refine (walk_FnExactFrameText A0 B0 c0 e0 hs0 ls0 W w0).mono fun e W' ⟨he, bel⟩ => ?_
  subst he
  exact ⟨_, rfl, _, _, _, [], _, [], hW', trodAll_mk1 (shut_bool Tryd.underlying4 _), (trodAll_cons_mk (Below.trod laidOut (by kernel_rfl) (of_decide_eq_true (by kernel_rfl)) k0 bel lt0) trodAll_mk0), rfl, bel.frame _, fun h => by cases h⟩

theorem over_FnExactFrameText : Rows.fnExactFrameTextRow.holds Tryd.pinned (OpenSpec.ofChange Rows.fnExactFrameTextSpec) :=
  OpenClaim.holds_of_wide 3 Tryd.f3 rfl rfl rfl rfl rfl rfl rfl ⟨rfl, rfl, rfl, rfl, rfl⟩ rfl rfl rfl rfl rfl (by kernel_rfl) Tryd.func3 (by kernel_rfl)
    (of_decide_eq_true (by kernel_rfl)) (by unfold Func.isWrapper; first | (rw [if_pos (by decide +kernel)]; kernel_rfl) | (rw [if_neg (by decide +kernel)]; exact ⟨rfl, rfl⟩))
    (fun os started H enc _ => lifted_FnExactFrameText os started H enc)

/-- The statement: the tied card. -/
theorem holds_FnExactFrameText : Rows.FnExactFrameTextCardSaid :=
  Claim7.holds_tied_plain_at .later [] [.data, .data, .data] true (true, "f36b6f2d1d0f9051407cfe688a354fb596cd1cc2b11c467f808d5a033451decc") false
    over_FnExactFrameText (fun _ h => by cases h) (by kernel_rfl) (fun _ h => by cases h) fnExactFrameText_row_tie rfl ⟨rfl, rfl⟩ (by kernel_rfl) rfl
    (fun f fn hf hfn => by
      obtain rfl : f = 3 := Option.some.inj ((show Tryd.prog.funcNamed "loop.example/countingboards/laws.FnExactFrameText" = some 3 by kernel_rfl).symm.trans hf) |>.symm
      obtain rfl : fn = Tryd.f3 := (Option.some.inj (Tryd.func3.symm.trans hfn)).symm
      exact ⟨by kernel_rfl, fun j t ht => by
        rw [Tryd.params3] at ht
        have hm : t ∈ [24] := by simpa using Array.mem_of_getElem? ht
        have hall : ([24].all fun u => !Tryd.prog.wantsStandIn u) = true := by kernel_rfl
        exact (show Tryd.prog.wantsStandIn t = false by simpa using List.all_eq_true.1 hall t hm)⟩)
    (by kernel_rfl)
#print axioms holds_FnExactFrameText
end Go.Proofs.YtfdbhaojdccomaaDoor
