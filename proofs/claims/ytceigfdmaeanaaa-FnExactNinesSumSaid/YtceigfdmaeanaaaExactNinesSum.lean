/- The law FnExactNinesSum returns true for every input: the program's NinesSum is the reference's, and its arguments are left as they were. No condition. -/
import Derived.Test.YtceigfdmaeanaaaPass
namespace Go.Proofs.Ytceigfdmaeanaaa
open Go.ChangeShapes Go.WideShapes Go.ChangeAt Go.RowKit
open Go.ChangeMaps (open_string shut_string)

set_option maxRecDepth 100000 in
set_option maxHeartbeats 1000000 in
theorem walk_FnExactNinesSum (A0 : Option Addr) (cap0 : Nat) (z0 : List Int) (A1 : Option Addr) (cap1 : Nat) (z1 : List Int) (A2 : Option Addr) (cap2 : Nat) (z2 : List Int) (w : World) (h0 : Came .i64 w A0 cap0 z0) (h1 : Came .i64 w A1 cap1 z1) (h2 : Came .i64 w A2 cap2 z2) :
    Calls Try.prog 8 #[.slice A0 z0.length cap0, .slice A1 z1.length cap1, .slice A2 z2.length cap2] w fun e w' => e = .returned (.bool true) ∧ Below w.heap.size w w' := by
  have hr := h0.2.2.1
  have hm := h0.ml
  have kr := h1.2.2.1
  have km := h1.ml
  have lr := h2.2.2.1
  have lm := h2.ml
  by_cases hbig : 1048576 < z0.length
  · go_enter Try.func8, Try.ntmps8
    go_wp2
    go_ret
    exact ⟨rfl, Below.refl _ _⟩
  by_cases kbig : 1048576 < z1.length
  · go_enter Try.func8, Try.ntmps8
    go_wp2
    go_ret
    exact ⟨rfl, Below.refl _ _⟩
  by_cases lbig : 1048576 < z2.length
  · go_enter Try.func8, Try.ntmps8
    go_wp2
    go_ret
    exact ⟨rfl, Below.refl _ _⟩
  go_enter Try.func8, Try.ntmps8
  go_wp2_with fail
  refine (toIntS _ _ _ _ hr (by omega)).mono ?_
  rintro e w1 ⟨B1, c1, rfl, s1, b1⟩
  go_wp2_with fail
  refine (toIntS _ _ _ _ (kr.below b1) (by omega)).mono ?_
  rintro e w2 ⟨B2, c2, rfl, s2, b2⟩
  have r2 := bstep b1 b2
  go_wp2_with fail
  refine (toIntS _ _ _ _ (lr.below r2) (by omega)).mono ?_
  rintro e w3 ⟨B3, c3, rfl, s3, b3⟩
  have r3 := bstep r2 b3
  go_wp2_with fail
  refine (spec_NinesSum _ _ _ _ _ _ _ _ _ _ ((s1.below b2).below b3).rd (s2.below b3).rd s3.rd (by omega) (by omega) (by omega)).mono ?_
  rintro e w' ⟨rfl, rfl⟩
  clear s1 s2 s3 b1 b2 b3 r2
  go_wp2_with fail
  refine (toIntS _ _ _ _ (hr.below r3) (by omega)).mono ?_
  rintro e w4 ⟨B4, c4, rfl, s4, b4⟩
  have r4 := bstep r3 b4
  go_wp2_with fail
  refine (toIntS _ _ _ _ (kr.below r4) (by omega)).mono ?_
  rintro e w5 ⟨B5, c5, rfl, s5, b5⟩
  have r5 := bstep r4 b5
  have t4 := s4.below b5
  go_wp2_with fail
  refine (toIntS _ _ _ _ (lr.below r5) (by omega)).mono ?_
  rintro e w6 ⟨B6, c6, rfl, s6, b6⟩
  have r6 := bstep r5 b6
  have u4 := t4.below b6
  have u5 := s5.below b6
  clear s4 s5 t4 b4 b5 b6 r3 r4 r5
  go_wp2_with fail
  refine (impl_NinesSum _ _ _ _ _ _ _ _ _ _ u4.rd u5.rd s6.rd (by omega) (by omega) (by omega)).mono ?_
  rintro e w7 ⟨rfl, b7⟩
  have r7 := bstep r6 b7
  have v4 := u4.below b7
  have v5 := u5.below b7
  have v6 := s6.below b7
  clear u4 u5 s6 b7 r6
  go_wp2_with fail
  refine (toIntS _ _ _ _ (hr.below r7) (by omega)).mono ?_
  rintro e w8 ⟨B8, c8, rfl, s8, b8⟩
  have r8 := bstep r7 b8
  go_wp2_with fail
  refine (eqIntS_same _ _ _ _ _ _ (v4.below b8).rd s8.rd (by omega)).mono ?_
  rintro e w' ⟨rfl, n8, rfl⟩
  have r9 := r8.drewN n8
  have x5 := (v5.below b8).drewN n8
  have x6 := (v6.below b8).drewN n8
  clear s8 v4 v5 v6 b8 r7 r8
  go_wp2_with fail
  refine (toIntS _ _ _ _ (kr.below r9) (by omega)).mono ?_
  rintro e w10 ⟨B10, c10, rfl, s10, b10⟩
  have r10 := bstep r9 b10
  go_wp2_with fail
  refine (eqIntS_same _ _ _ _ _ _ (x5.below b10).rd s10.rd (by omega)).mono ?_
  rintro e w' ⟨rfl, n10, rfl⟩
  have r11 := r10.drewN n10
  have y6 := (x6.below b10).drewN n10
  clear s10 x5 x6 b10 r9 r10
  go_wp2_with fail
  refine (toIntS _ _ _ _ (lr.below r11) (by omega)).mono ?_
  rintro e w12 ⟨B12, c12, rfl, s12, b12⟩
  have r12 := bstep r11 b12
  go_wp2_with fail
  refine (eqIntS_same _ _ _ _ _ _ (y6.below b12).rd s12.rd (by omega)).mono ?_
  rintro e w' ⟨rfl, n12, rfl⟩
  go_wp2_with fail
  go_ret
  exact ⟨rfl, r12.drewN n12⟩

/-! The row's step, after the kit's own shell of such a proof. -/
set_option linter.unusedVariables false in
set_option maxRecDepth 100000 in
theorem lifted_FnExactNinesSum (os : Os) (started : os.Started) (H : Type) (enc : TypeId × Value → H) :
    ReturnsInHanded {} Try.checked os 8 .any (Rows.fnExactNinesSumSpec.pre6 enc Try.prog Try.f8 Rows.fnExactNinesSumRow.domain false) (Rows.fnExactNinesSumSpec.post enc Try.prog Try.f8 false true false false) := by
  refine returnsInHanded_of_change (C := Try.checked) own started (by kernel_rfl) Try.func8
    (ChangeSpec.witness6 (enc := enc) (C := Try.checked) false ⟨#[], #[.slice none 0 0, .slice none 0 0, .slice none 0 0], []⟩ 8 (by kernel_rfl) (by kernel_rfl) (by kernel_rfl) (by kernel_rfl)) ?_
  intro W base args ds gs before hval0 hW hcnd _
  have hval : ∀ (j : Nat) t v, Try.f8.params[j]? = some t → args[j]? = some v → Value.okWide Try.prog W .any base t v := hval0
  have hW' := hW
  obtain ⟨p, q, hA0, hV, rfl, hfz, hnd⟩ := hW
  have hA : DataW.TrodAll enc Try.prog W 0 (fun _ => true) true Try.f8.params.toList args.toList ds p := hA0
  rw [Try.params8] at hA hval
  obtain ⟨v0, vs0, d0, ds0, p0, q0, hargs, rfl, rfl, h0, r0⟩ := trodAll_cons hA
  obtain ⟨v1, vs1, d1, ds1, p1, q1, rfl, rfl, rfl, h1, r1⟩ := trodAll_cons r0
  obtain ⟨v2, vs2, d2, ds2, p2, q2, rfl, rfl, rfl, h2, r2⟩ := trodAll_cons r1
  obtain ⟨rfl, rfl, rfl⟩ := trodAll_nil r2
  obtain rfl : args = #[v0, v1, v2] := by cases args; simp_all
  obtain ⟨rfl, rfl⟩ := trodVars_none hV
  obtain ⟨A0, len0, cap0, rfl⟩ := okWide_slice Try.underlying22 (hval 0 22 v0 rfl rfl)
  have k0 := h0
  have lt0 : ∀ x ∈ p0, x.block < W.heap.size := by obtain ⟨m, hm⟩ := k0; exact DataW.trod_lt m _ _ _ hm
  obtain ⟨z0, rfl, w0⟩ := row_open Try.underlying22 Try.underlying3 (by kernel_rfl) h0
  obtain ⟨A1, len1, cap1, rfl⟩ := okWide_slice Try.underlying22 (hval 1 22 v1 rfl rfl)
  have k1 := h1
  have lt1 : ∀ x ∈ p1, x.block < W.heap.size := by obtain ⟨m, hm⟩ := k1; exact DataW.trod_lt m _ _ _ hm
  obtain ⟨z1, rfl, w1⟩ := row_open Try.underlying22 Try.underlying3 (by kernel_rfl) h1
  obtain ⟨A2, len2, cap2, rfl⟩ := okWide_slice Try.underlying22 (hval 2 22 v2 rfl rfl)
  have k2 := h2
  have lt2 : ∀ x ∈ p2, x.block < W.heap.size := by obtain ⟨m, hm⟩ := k2; exact DataW.trod_lt m _ _ _ hm
  obtain ⟨z2, rfl, w2⟩ := row_open Try.underlying22 Try.underlying3 (by kernel_rfl) h2
  clear hA0 hval0
  refine (walk_FnExactNinesSum A0 cap0 z0 A1 cap1 z1 A2 cap2 z2 W w0 w1 w2).mono fun e W' ⟨he, bel⟩ => ?_
  subst he
  exact ⟨_, rfl, _, _, _, [], _, [], hW', trodAll_mk1 (shut_bool Try.underlying4 _), (trodAll_cons_mk (Below.trod laidOut (by kernel_rfl) (of_decide_eq_true (by kernel_rfl)) k0 bel lt0) (trodAll_cons_mk (Below.trod laidOut (by kernel_rfl) (of_decide_eq_true (by kernel_rfl)) k1 bel lt1) (trodAll_cons_mk (Below.trod laidOut (by kernel_rfl) (of_decide_eq_true (by kernel_rfl)) k2 bel lt2) trodAll_mk0))), rfl, bel.frame _, fun h => by cases h⟩

theorem over_FnExactNinesSum : Rows.fnExactNinesSumRow.holds Try.pinned (OpenSpec.ofChange Rows.fnExactNinesSumSpec) :=
  OpenClaim.holds_of_wide 8 Try.f8 rfl rfl rfl rfl rfl rfl rfl ⟨rfl, rfl, rfl, rfl, rfl⟩ rfl rfl rfl rfl rfl (by kernel_rfl) Try.func8 (by kernel_rfl)
    (of_decide_eq_true (by kernel_rfl)) (by unfold Func.isWrapper; first | (rw [if_pos (by decide +kernel)]; kernel_rfl) | (rw [if_neg (by decide +kernel)]; exact ⟨rfl, rfl⟩))
    (fun os started H enc _ => lifted_FnExactNinesSum os started H enc)

/-- The statement. -/
theorem holds_FnExactNinesSum : Rows.FnExactNinesSumSaid := over_FnExactNinesSum
#print axioms holds_FnExactNinesSum
end Go.Proofs.Ytceigfdmaeanaaa
