/- The law FnPushes returns true for every input: pushes are a distance. No condition. -/
import Derived.Test.YtfdbhaojdccomaaSame
import Derived.Test.YtfdbhaojdccomaaDrawP
import Derived.Test.YtfdbhaojdccomaaPush2
namespace Go.Proofs.Ytfdbhaojdccomaa
open Go.ChangeShapes Go.WideShapes Go.ChangeAt Go.RowKit

set_option maxRecDepth 100000 in
set_option maxHeartbeats 2000000 in
theorem walk_FnPushes (A0 : Option Addr) (cap0 : Nat) (z0 : List Int) (w : World) (h0 : Came .u8 w A0 cap0 z0) :
    Calls Try.prog 10 #[.slice A0 z0.length cap0] w fun e w' => e = .returned (.bool true) ∧ Below w.heap.size w w' := by
  have hm := h0.ml
  by_cases hbig : 1048576 < z0.length
  · go_enter Try.func10, Try.ntmps10
    go_wp2
    go_ret
    exact ⟨rfl, Below.refl _ _⟩
  go_enter Try.func10, Try.ntmps10
  go_wp2_with fail
  refine (DrawFramePushes _ _ _ _ h0).mono ?_
  rintro e w1 ⟨A, B, c, d, hs, ls, A', B', c', d', hs', ls', rfl, r1, r1', lh, ll, lh', ll', b1⟩
  go_wp2_with fail
  have hb2 := (below_alloc w1 (.cells #[.slice A hs.length c, .slice B ls.length d] 27)).alloc (by simp) (.cells #[.slice A' hs'.length c', .slice B' ls'.length d'] 27)
  refine (impl_FramePushes _ _ _ _ _ _ _ _ _ _ _ _ _ (r1.below hb2) (r1'.below hb2) (by omega) (by omega) (by omega) (by omega)).mono ?_
  rintro e w2 ⟨rfl, b2⟩
  have q2 := bstep hb2 b2
  have X2 : Bx w2 w1.heap.size 27 (.slice A hs.length c) (.slice B ls.length d) := box_first b2
  have Y2 : Bx w2 (w1.heap.size + 1) 27 (.slice A' hs'.length c') (.slice B' ls'.length d') := box_second b2
  have R2 := r1.below q2
  have R2' := r1'.below q2
  have r2 := bstep b1 q2
  obtain ⟨x0, x1, xl⟩ := X2.facts
  obtain ⟨y0, y1, yl⟩ := Y2.facts
  clear b1 b2 q2 r1 r1' hb2
  go_wp2_with fail
  refine (spec_FramePushes _ _ _ _ _ _ _ _ _ _ _ _ _ R2 R2' (by omega) (by omega) (by omega) (by omega)).mono ?_
  rintro e w3 ⟨rfl, b3⟩
  have X3 := X2.below b3
  have Y3 := Y2.below b3
  have R3 := R2.below b3
  have R3' := R2'.below b3
  have r3 := bstep r2 b3
  clear x0 x1 xl y0 y1 yl X2 Y2 R2 R2' r2 b3
  by_cases hneg : fpush hs ls hs' ls' < 0
  · go_wp2_with fail
    go_ret
    exact ⟨rfl, r3⟩
  obtain ⟨ok, ok', hlen, hpv⟩ := fpush_ok (Int.not_lt.1 hneg)
  have hsame := fpush_same (Int.not_lt.1 hneg)
  have n6 := ok.n6
  have hbd := puU_bd hs ls hs' ls' hs.length
  have hsym : fpush hs' ls' hs ls = fpush hs ls hs' ls' := by rw [fpush_of ok' ok hlen.symm, hpv, puU_symm, hlen]
  have htri : fpush hs ls hs' ls' ≤ fpush hs ls (ninH hs) (ninL ls) + fpush (ninH hs) (ninL ls) hs' ls' := by
    rw [hpv, fpush_of ok ok.nin (ninH_len hs).symm, fpush_of ok.nin ok' (by rw [ninH_len]; exact hlen), ninH_len]
    exact puU_tri _ _ _ _ _ _ _
  have hb1 : fpush hs ls (ninH hs) (ninL ls) ≤ 12 ∧ 0 ≤ fpush hs ls (ninH hs) (ninL ls) := by
    rw [fpush_of ok ok.nin (ninH_len hs).symm]; have := puU_bd hs ls (ninH hs) (ninL ls) hs.length; omega
  have hb2 : fpush (ninH hs) (ninL ls) hs' ls' ≤ 12 ∧ 0 ≤ fpush (ninH hs) (ninL ls) hs' ls' := by
    rw [fpush_of ok.nin ok' (by rw [ninH_len]; exact hlen)]; have := puU_bd (ninH hs) (ninL ls) hs' ls' (ninH hs).length; rw [ninH_len] at *; omega
  rw [← hpv] at hbd
  have t0 : decide (fpush hs ls hs' ls' < 0) = false := by simpa using hneg
  have t1 : (fpush hs' ls' hs ls == fpush hs ls hs' ls') = true := by rw [beq_iff_eq]; exact hsym
  have t2 : ((fpush hs ls hs' ls' == 0) == eqF hs ls hs' ls') = true := by
    rw [beq_iff_eq, eqF, ← hsame]; rfl
  have t3 : decide (fpush hs ls hs' ls' ≤ 2 * (hs.length : Int)) = true := by simp; omega
  have t4 : IntKind.i64.wrap (2 * (hs.length : Int)) = 2 * (hs.length : Int) := IntWalk.i64_in _ (by omega)
  have t5 : IntKind.i64.wrap (fpush hs ls (ninH hs) (ninL ls) + fpush (ninH hs) (ninL ls) hs' ls') = fpush hs ls (ninH hs) (ninL ls) + fpush (ninH hs) (ninL ls) hs' ls' := IntWalk.i64_in _ (by omega)
  have t6 : decide (fpush hs ls hs' ls' ≤ fpush hs ls (ninH hs) (ninL ls) + fpush (ninH hs) (ninL ls) hs' ls') = true := by simp; exact htri
  have l1 : (ninH hs).length ≤ 8 := by rw [ninH_len]; exact lh
  have l2 : (ninL ls).length ≤ 8 := by rw [ninL_len]; exact ll
  clear hpv hsame hbd hsym htri hb1 hb2 hneg hlen
  obtain ⟨x0, x1, xl⟩ := X3.facts
  go_wp2_with fail
  refine (impl_FrameNines_y _ _ _ _ _ _ _ R3 ok).mono ?_
  rintro e w4 ⟨A4, B4, c4, d4, rfl, s4, b4⟩
  have b5 := below_alloc w4 (.cells #[.slice A4 (ninH hs).length c4, .slice B4 (ninL ls).length d4] 27)
  have q5 := bstep b4 b5
  have HX := Lib.hid (X3.below q5)
  have HY := Lib.hid (Y3.below q5)
  have HR := Lib.hid (R3.below q5)
  have HR' := Lib.hid (R3'.below q5)
  have HZ := Lib.hid (Bx.new w4 27 (.slice A4 (ninH hs).length c4) (.slice B4 (ninL ls).length d4))
  have HS := Lib.hid (s4.rd.below b5)
  have H5 := Lib.hid (bstep r3 q5)
  clear x0 x1 xl X3 Y3 R3 R3' r3 b4 s4 b5 q5
  go_wp2_with fail
  generalize w4.alloc (.cells #[.slice A4 (ninH hs).length c4, .slice B4 (ninL ls).length d4] 27) = w5 at *
  obtain ⟨x0, x1, xl⟩ := HX.out.facts
  obtain ⟨y0, y1, yl⟩ := HY.out.facts
  obtain ⟨v0, v1, vl⟩ := HZ.out.facts
  have e0 := later_cell x0
  have e1 := later_cell x1
  have e2 := later_cell y0
  have e3 := later_cell y1
  have e4 := later_cell v0
  have e5 := later_cell v1
  have hy := later_refl w5
  clear x0 x1 xl y0 y1 yl v0 v1 vl
  refine wp_region_later (by kernel_rfl) (by kernel_rfl) ?_
  iterate 4 quiet_step (fail)
  refine wpQuiet_step (fun K hK => ?_)
  go_simp
  refine ⟨.int .i64 (fpush hs' ls' hs ls), fun x => later_call (x := x) (impl_FramePushes A' B' A B c' d' c d hs' ls' hs ls x.val (HR'.out.below x.bel) (HR.out.below x.bel) (by omega) (by omega) (by omega) (by omega)), hK _ ?_⟩
  clear hK K
  iterate 8 quiet_step (fail)
  refine wpQuiet_step (fun K hK => ?_)
  go_simp
  refine ⟨.bool (eqF hs ls hs' ls'), fun x => later_call (x := x) (sameFrame A B A' B' c d c' d' hs ls hs' ls' x.val (HR.out.below x.bel) (HR'.out.below x.bel) (by omega) (by omega) (by omega) (by omega)), hK _ ?_⟩
  clear hK K
  iterate 14 quiet_step (fail)
  refine wpQuiet_step (fun K hK => ?_)
  go_simp
  refine ⟨.int .i64 (fpush hs ls (ninH hs) (ninL ls)), fun x => later_call (x := x) (impl_FramePushes A B A4 B4 c d c4 d4 hs ls (ninH hs) (ninL ls) x.val (HR.out.below x.bel) (HS.out.below x.bel) (by omega) (by omega) (by omega) (by omega)), hK _ ?_⟩
  clear hK K
  iterate 2 quiet_step (fail)
  refine wpQuiet_step (fun K hK => ?_)
  go_simp
  refine ⟨.int .i64 (fpush (ninH hs) (ninL ls) hs' ls'), fun x => later_call (x := x) (impl_FramePushes A4 B4 A' B' c4 d4 c' d' (ninH hs) (ninL ls) hs' ls' x.val (HS.out.below x.bel) (HR'.out.below x.bel) (by omega) (by omega) (by omega) (by omega)), hK _ ?_⟩
  clear hK K
  repeat quiet_step (fail)
  refine wpQuiet_nil ?_
  intro w' hw'
  obtain ⟨⟨w7, b7⟩, hw''⟩ := hw'
  obtain rfl : w' = w7 := hw''
  go_wp2_with fail
  go_ret
  exact ⟨rfl, bstep H5.out b7⟩

/-! The row's step, after the kit's own shell of such a proof. -/
set_option linter.unusedVariables false in
set_option maxRecDepth 100000 in
theorem lifted_FnPushes (os : Os) (started : os.Started) (H : Type) (enc : TypeId × Value → H) :
    ReturnsInHanded {} Try.checked os 10 .any (Rows.fnPushesSpec.pre6 enc Try.prog Try.f10 Rows.fnPushesRow.domain false) (Rows.fnPushesSpec.post enc Try.prog Try.f10 false true false false) := by
  refine returnsInHanded_of_change (C := Try.checked) own started (by kernel_rfl) Try.func10
    (ChangeSpec.witness6 (enc := enc) (C := Try.checked) false ⟨#[], #[.slice none 0 0], []⟩ 8 (by kernel_rfl) (by kernel_rfl) (by kernel_rfl) (by kernel_rfl)) ?_
  intro W base args ds gs before hval0 hW hcnd _
  have hval : ∀ (j : Nat) t v, Try.f10.params[j]? = some t → args[j]? = some v → Value.okWide Try.prog W .any base t v := hval0
  have hW' := hW
  obtain ⟨p, q, hA0, hV, rfl, hfz, hnd⟩ := hW
  have hA : DataW.TrodAll enc Try.prog W 0 (fun _ => true) true Try.f10.params.toList args.toList ds p := hA0
  rw [Try.params10] at hA hval
  obtain ⟨v0, vs0, d0, ds0, p0, q0, hargs, rfl, rfl, h0, r0⟩ := trodAll_cons hA
  obtain ⟨rfl, rfl, rfl⟩ := trodAll_nil r0
  obtain rfl : args = #[v0] := by cases args; simp_all
  obtain ⟨rfl, rfl⟩ := trodVars_none hV
  obtain ⟨A0, len0, cap0, rfl⟩ := okWide_slice Try.underlying40 (hval 0 40 v0 rfl rfl)
  have k0 := h0
  have lt0 : ∀ x ∈ p0, x.block < W.heap.size := by obtain ⟨m, hm⟩ := k0; exact DataW.trod_lt m _ _ _ hm
  obtain ⟨z0, rfl, w0⟩ := row_open Try.underlying40 Try.underlying5 (by kernel_rfl) h0
  clear hA0 hval0
  refine (walk_FnPushes A0 cap0 z0 W w0).mono fun e W' ⟨he, bel⟩ => ?_
  subst he
  exact ⟨_, rfl, _, _, _, [], _, [], hW', trodAll_mk1 (shut_bool Try.underlying4 _), (trodAll_cons_mk (Below.trod laidOut (by kernel_rfl) (of_decide_eq_true (by kernel_rfl)) k0 bel lt0) trodAll_mk0), rfl, bel.frame _, fun h => by cases h⟩

theorem over_FnPushes : Rows.fnPushesRow.holds Try.pinned (OpenSpec.ofChange Rows.fnPushesSpec) :=
  OpenClaim.holds_of_wide 10 Try.f10 rfl rfl rfl rfl rfl rfl rfl ⟨rfl, rfl, rfl, rfl, rfl⟩ rfl rfl rfl rfl rfl (by kernel_rfl) Try.func10 (by kernel_rfl)
    (of_decide_eq_true (by kernel_rfl)) (by unfold Func.isWrapper; first | (rw [if_pos (by decide +kernel)]; kernel_rfl) | (rw [if_neg (by decide +kernel)]; exact ⟨rfl, rfl⟩))
    (fun os started H enc _ => lifted_FnPushes os started H enc)

/-- The statement. -/
theorem holds_FnPushes : Rows.FnPushesSaid := over_FnPushes
#print axioms holds_FnPushes
end Go.Proofs.Ytfdbhaojdccomaa
