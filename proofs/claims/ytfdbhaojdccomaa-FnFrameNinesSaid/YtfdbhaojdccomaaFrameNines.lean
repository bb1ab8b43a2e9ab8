/- The law FnFrameNines returns true for every input: nines turn all beads. No condition. -/
import Derived.Test.YtfdbhaojdccomaaSame
import Derived.Test.YtfdbhaojdccomaaDrawG
import Derived.Test.YtfdbhaojdccomaaPush2
import Derived.Test.YtfdbhaojdccomaaNinesS
namespace Go.Proofs.Ytfdbhaojdccomaa
open Go.ChangeShapes Go.WideShapes Go.ChangeAt Go.RowKit

theorem FrameNines_back {hs ls : List Int} (ok : FrOk hs ls) (A B : Option Addr) (c d : Nat) (w : World) (hr : FrRd w A B (ninH hs) (ninL ls)) :
    Calls Try.prog 31 #[.agg #[.slice A (ninH hs).length c, .slice B (ninL ls).length d]] w (FrPost w hs ls true) := by
  have := impl_FrameNines_y A B c d (ninH hs) (ninL ls) w hr ok.nin
  rwa [nin_nin, nil_nil] at this

set_option maxRecDepth 100000 in
set_option maxHeartbeats 2000000 in
theorem walk_FnFrameNines (A0 : Option Addr) (cap0 : Nat) (z0 : List Int) (w : World) (h0 : Came .u8 w A0 cap0 z0) :
    Calls Try.prog 11 #[.slice A0 z0.length cap0] w fun e w' => e = .returned (.bool true) ∧ Below w.heap.size w w' := by
  have hm := h0.ml
  by_cases hbig : 1048576 < z0.length
  · go_enter Try.func11, Try.ntmps11
    go_wp2
    go_ret
    exact ⟨rfl, Below.refl _ _⟩
  go_enter Try.func11, Try.ntmps11
  go_wp2_with fail
  refine (DrawFrameNines _ _ _ _ h0).mono ?_
  rintro e w1 ⟨A, B, c, d, hs, ls, rfl, r1, lh, ll, b1⟩
  cases hb : frB hs ls
  · go_wp2_with fail
    refine (impl_FrameNines_n _ _ _ _ _ _ _ (r1.alloc _) (by omega) (by omega) hb).mono ?_
    rintro e w2 ⟨rfl, b2⟩
    have q2 := bstep (below_alloc w1 (.cells #[.slice A hs.length c, .slice B ls.length d] 27)) b2
    have X2 := Bx.after b2
    have R2 := r1.below q2
    have r2 := bstep b1 q2
    obtain ⟨x0, x1, xl⟩ := X2.facts
    clear b1 b2 q2 r1
    go_wp2_with fail
    refine (spec_FrameNines_n _ _ _ _ _ _ _ (R2.alloc _) (by omega) (by omega) hb).mono ?_
    rintro e w3 ⟨rfl, b3⟩
    have q3 := bstep (below_alloc w2 (.cells #[.slice none 0 0, .slice none 0 0] 27)) b3
    have Y3 := Bx.after b3
    have r3 := bstep r2 q3
    clear x0 x1 xl b3 X2 R2
    obtain ⟨x0, x1, xl⟩ := Y3.facts
    go_wp2_with fail
    have hE : FrRd (w3.alloc (.cells #[.slice none 0 0, .slice none 0 0] 27)) none none [] [] := ⟨Rd.nil_, Rd.nil_⟩
    refine (sameFrame none none none none 0 0 0 0 [] [] [] [] _ hE hE (by simp) (by simp) (by simp) (by simp)).mono ?_
    rintro e w4 ⟨rfl, b4⟩
    rw [eqF_self]
    have q4 := bstep (below_alloc w3 (.cells #[.slice none 0 0, .slice none 0 0] 27)) b4
    have Y4 := Y3.below q4
    have Z4 := Bx.after b4
    have r4 := bstep r3 q4
    clear x0 x1 xl Y3 b4 hE
    obtain ⟨x0, x1, xl⟩ := Y4.facts
    obtain ⟨y0, y1, yl⟩ := Z4.facts
    go_wp2_with fail
    have hE : FrRd w4 none none [] [] := ⟨Rd.nil_, Rd.nil_⟩
    refine (sameFrame none none none none 0 0 0 0 [] [] [] [] _ hE hE (by simp) (by simp) (by simp) (by simp)).mono ?_
    rintro e w5 ⟨rfl, b5⟩
    rw [eqF_self]
    have r5 := bstep r4 b5
    clear x0 x1 xl y0 y1 yl
    go_wp2_with fail
    go_ret
    exact ⟨rfl, r5⟩
  have ok := frB_ok hb
  have ok2 := ok.nin
  have n6 := ok.n6
  have l1 : (ninH hs).length ≤ 8 := by rw [ninH_len]; exact lh
  have l2 : (ninL ls).length ≤ 8 := by rw [ninL_len]; exact ll
  go_wp2_with fail
  refine (impl_FrameNines_y _ _ _ _ _ _ _ (r1.alloc _) ok).mono ?_
  rintro e w2 ⟨A2, B2, c2, d2, rfl, s2, b2⟩
  have q2 := bstep (below_alloc w1 (.cells #[.slice A hs.length c, .slice B ls.length d] 27)) b2
  have X2 := Bx.after b2
  have R2 := r1.below q2
  have r2 := bstep b1 q2
  obtain ⟨x0, x1, xl⟩ := X2.facts
  clear b1 b2 q2 r1
  go_wp2_with fail
  refine (spec_FrameNines_y _ _ _ _ _ _ _ (R2.alloc _) ok).mono ?_
  rintro e w3 ⟨A3, B3, c3, d3, rfl, s3, b3⟩
  have q3 := bstep (below_alloc w2 (.cells #[.slice A2 (ninH hs).length c2, .slice B2 (ninL ls).length d2] 27)) b3
  have X3 := X2.below q3
  have R3 := R2.below q3
  have Y3 := Bx.after b3
  have S3 := s2.rd.below q3
  have r3 := bstep r2 q3
  clear x0 x1 xl b3 X2 R2 s2 q3
  obtain ⟨x0, x1, xl⟩ := Y3.facts
  go_wp2_with fail
  refine (sameFrame A2 B2 A3 B3 c2 d2 c3 d3 (ninH hs) (ninL ls) (ninH hs) (ninL ls) _ (S3.alloc _) (s3.rd.alloc _) (by omega) (by omega) (by omega) (by omega)).mono ?_
  rintro e w4 ⟨rfl, b4⟩
  rw [eqF_self]
  have q4 := bstep (below_alloc w3 (.cells #[.slice A3 (ninH hs).length c3, .slice B3 (ninL ls).length d3] 27)) b4
  have X4 := X3.below q4
  have R4 := R3.below q4
  have Y4 := Y3.below q4
  have S4 := S3.below q4
  have r4 := bstep r3 q4
  clear x0 x1 xl X3 R3 Y3 S3 r3 b4 q4 s3
  obtain ⟨x0, x1, xl⟩ := Y4.facts
  go_wp2_with fail
  refine (FrameNines_back ok _ _ _ _ _ S4).mono ?_
  rintro e w5 ⟨A5, B5, c5, d5, rfl, s5, b5⟩
  have X5 := X4.below b5
  have R5 := R4.below b5
  have Y5 := Y4.below b5
  have S5 := S4.below b5
  have r5 := bstep r4 b5
  clear x0 x1 xl X4 R4 Y4 S4 r4 b5
  go_wp2_with fail
  have Z6 := Bx.new w5 27 (.slice A5 hs.length c5) (.slice B5 ls.length d5)
  have b6 := below_alloc w5 (.cells #[.slice A5 hs.length c5, .slice B5 ls.length d5] 27)
  have HX := Lib.hid (X5.below b6)
  have HR := Lib.hid (R5.below b6)
  have HY := Lib.hid (Y5.below b6)
  have HS := Lib.hid (S5.below b6)
  have HZ := Lib.hid Z6
  have HT := Lib.hid (s5.rd.below b6)
  have H6 := Lib.hid (bstep r5 b6)
  clear X5 R5 Y5 S5 r5 Z6 b6 s5
  generalize w5.alloc (.cells #[.slice A5 hs.length c5, .slice B5 ls.length d5] 27) = w6 at *
  obtain ⟨x0, x1, xl⟩ := HX.out.facts
  go_loop [10, 11] (fun q i => ∃ k : Nat, k ≤ hs.length ∧ i = .int .i64 k ∧ q = .int .i64 (dueU ls k)) (fun _ i => hs.length - (intOf i).toNat)
  case atStart => exact ⟨0, Nat.zero_le _, rfl, rfl⟩
  case round =>
    obtain ⟨k, hk, rfl, rfl⟩ := hrel
    have ⟨g0, g1⟩ := dueU_bd ls k
    by_cases hlt : k < hs.length
    · have k2 : k < ls.length := by have := ok.len; omega
      obtain ⟨b', off', rfl, hbl', hc'⟩ := HR.out.lo.at k2
      have u0 : 0 ≤ (k : Int) := by omega
      have u2 : (k : Int) < ls.length := by omega
      by_cases h2 : nth ls k = 2
      · have d2 : (nth ls k == 2) = true := by simp [h2]
        have HD : Hid (dueU ls (k + 1) = dueU ls k + 2 - 1) := Lib.hid (by simp only [dueU]; rw [if_pos h2]; omega)
        clear h2
        go_wp2_with fail
        go_round
        case rel => exact ⟨k + 1, by omega, by go_num, by rw [HD.out]⟩
        case measure => simp [intOf]; omega
      · have d2 : (nth ls k == 2) = false := by simp [h2]
        have HD : Hid (dueU ls (k + 1) = dueU ls k + 2) := Lib.hid (by simp only [dueU]; rw [if_neg h2])
        clear h2
        go_wp2_with fail
        go_round
        case rel => exact ⟨k + 1, by omega, by go_num, by rw [HD.out]⟩
        case measure => simp [intOf]; omega
    · obtain rfl : k = hs.length := by omega
      go_wp2_with fail
      obtain ⟨y0, y1, yl⟩ := HY.out.facts
      obtain ⟨v0, v1, vl⟩ := HZ.out.facts
      have e0 := later_cell x0
      have e1 := later_cell x1
      have e2 := later_cell y0
      have e3 := later_cell y1
      have e4 := later_cell v0
      have e5 := later_cell v1
      have hy := later_refl w6
      have fv1 := nin_val ok
      have fb1 : 0 ≤ fval hs ls ∧ fval hs ls < 1000000 := by
        have := ok.fvU (Nat.le_refl _)
        have := (p10_bd (k := hs.length) n6).2
        rw [fval, if_pos hb]; omega
      have pb := p10_bd (k := hs.length) n6
      have t1 : IntKind.i64.wrap (fval hs ls + fval (ninH hs) (ninL ls)) = fval hs ls + fval (ninH hs) (ninL ls) := IntWalk.i64_in _ (by omega)
      have t2 : IntKind.i64.wrap (p10 hs.length - 1) = p10 hs.length - 1 := IntWalk.i64_in _ (by omega)
      have t3 : (fval hs ls + fval (ninH hs) (ninL ls) == p10 hs.length - 1) = true := by rw [beq_iff_eq]; exact fv1
      have HP : Hid (fpush hs ls (ninH hs) (ninL ls) = dueU ls hs.length) := Lib.hid (nin_push ok)
      clear fv1 fb1 pb x0 x1 xl y0 y1 yl v0 v1 vl
      refine wp_region_later (by kernel_rfl) (by kernel_rfl) ?_
      iterate 4 quiet_step (fail)
      refine wpQuiet_step (fun K hK => ?_)
      go_simp
      refine ⟨.bool true, fun x => later_call (x := x) ((sameFrame A5 B5 A B c5 d5 c d hs ls hs ls x.val (HT.out.below x.bel) (HR.out.below x.bel) (by omega) (by omega) (by omega) (by omega)).mono fun e w' ⟨h, h'⟩ => ⟨by rw [h, eqF_self], h'⟩), hK _ ?_⟩
      clear hK K
      iterate 3 quiet_step (fail)
      refine wpQuiet_step (fun K hK => ?_)
      go_simp
      refine ⟨.int .i64 (fval hs ls), fun x => later_call (x := x) (impl_FrameValue A B c d hs ls x.val (HR.out.below x.bel) (by omega) (by omega)), hK _ ?_⟩
      clear hK K
      quiet_step (fail)
      refine wpQuiet_step (fun K hK => ?_)
      go_simp
      refine ⟨.int .i64 (fval (ninH hs) (ninL ls)), fun x => later_call (x := x) (impl_FrameValue A2 B2 c2 d2 (ninH hs) (ninL ls) x.val (HS.out.below x.bel) (by omega) (by omega)), hK _ ?_⟩
      clear hK K
      iterate 4 quiet_step (fail)
      refine wpQuiet_step (fun K hK => ?_)
      go_simp
      refine ⟨.int .i64 (p10 hs.length), fun x => later_same (x := x) (tenTo hs.length n6 x.val), hK _ ?_⟩
      clear hK K
      iterate 6 quiet_step (fail)
      refine wpQuiet_step (fun K hK => ?_)
      go_simp
      refine ⟨.int .i64 (dueU ls hs.length), fun x => later_call (x := x) ((impl_FramePushes A B A2 B2 c d c2 d2 hs ls (ninH hs) (ninL ls) x.val (HR.out.below x.bel) (HS.out.below x.bel) (by omega) (by omega) (by omega) (by omega)).mono fun e w' ⟨h, h'⟩ => ⟨by rw [h, HP.out], h'⟩), hK _ ?_⟩
      clear hK K
      repeat quiet_step (fail)
      refine wpQuiet_nil ?_
      intro w' hw'
      obtain ⟨⟨w7, b7⟩, hw''⟩ := hw'
      obtain rfl : w' = w7 := hw''
      go_wp2_with fail
      go_ret
      exact ⟨rfl, bstep H6.out b7⟩

/-! The row's step, after the kit's own shell of such a proof. -/
set_option linter.unusedVariables false in
set_option maxRecDepth 100000 in
theorem lifted_FnFrameNines (os : Os) (started : os.Started) (H : Type) (enc : TypeId × Value → H) :
    ReturnsInHanded {} Try.checked os 11 .any (Rows.fnFrameNinesSpec.pre6 enc Try.prog Try.f11 Rows.fnFrameNinesRow.domain false) (Rows.fnFrameNinesSpec.post enc Try.prog Try.f11 false true false false) := by
  refine returnsInHanded_of_change (C := Try.checked) own started (by kernel_rfl) Try.func11
    (ChangeSpec.witness6 (enc := enc) (C := Try.checked) false ⟨#[], #[.slice none 0 0], []⟩ 8 (by kernel_rfl) (by kernel_rfl) (by kernel_rfl) (by kernel_rfl)) ?_
  intro W base args ds gs before hval0 hW hcnd _
  have hval : ∀ (j : Nat) t v, Try.f11.params[j]? = some t → args[j]? = some v → Value.okWide Try.prog W .any base t v := hval0
  have hW' := hW
  obtain ⟨p, q, hA0, hV, rfl, hfz, hnd⟩ := hW
  have hA : DataW.TrodAll enc Try.prog W 0 (fun _ => true) true Try.f11.params.toList args.toList ds p := hA0
  rw [Try.params11] at hA hval
  obtain ⟨v0, vs0, d0, ds0, p0, q0, hargs, rfl, rfl, h0, r0⟩ := trodAll_cons hA
  obtain ⟨rfl, rfl, rfl⟩ := trodAll_nil r0
  obtain rfl : args = #[v0] := by cases args; simp_all
  obtain ⟨rfl, rfl⟩ := trodVars_none hV
  obtain ⟨A0, len0, cap0, rfl⟩ := okWide_slice Try.underlying40 (hval 0 40 v0 rfl rfl)
  have k0 := h0
  have lt0 : ∀ x ∈ p0, x.block < W.heap.size := by obtain ⟨m, hm⟩ := k0; exact DataW.trod_lt m _ _ _ hm
  obtain ⟨z0, rfl, w0⟩ := row_open Try.underlying40 Try.underlying5 (by kernel_rfl) h0
  clear hA0 hval0
  refine (walk_FnFrameNines A0 cap0 z0 W w0).mono fun e W' ⟨he, bel⟩ => ?_
  subst he
  exact ⟨_, rfl, _, _, _, [], _, [], hW', trodAll_mk1 (shut_bool Try.underlying4 _), (trodAll_cons_mk (Below.trod laidOut (by kernel_rfl) (of_decide_eq_true (by kernel_rfl)) k0 bel lt0) trodAll_mk0), rfl, bel.frame _, fun h => by cases h⟩

theorem over_FnFrameNines : Rows.fnFrameNinesRow.holds Try.pinned (OpenSpec.ofChange Rows.fnFrameNinesSpec) :=
  OpenClaim.holds_of_wide 11 Try.f11 rfl rfl rfl rfl rfl rfl rfl ⟨rfl, rfl, rfl, rfl, rfl⟩ rfl rfl rfl rfl rfl (by kernel_rfl) Try.func11 (by kernel_rfl)
    (of_decide_eq_true (by kernel_rfl)) (by unfold Func.isWrapper; first | (rw [if_pos (by decide +kernel)]; kernel_rfl) | (rw [if_neg (by decide +kernel)]; exact ⟨rfl, rfl⟩))
    (fun os started H enc _ => lifted_FnFrameNines os started H enc)

/-- The statement. -/
theorem holds_FnFrameNines : Rows.FnFrameNinesSaid := over_FnFrameNines
#print axioms holds_FnFrameNines
end Go.Proofs.Ytfdbhaojdccomaa
