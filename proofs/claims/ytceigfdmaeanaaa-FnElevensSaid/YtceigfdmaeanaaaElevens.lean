/- The law FnElevens returns true for every input: elevens are rests by eleven. No condition. -/
import Derived.Test.YtceigfdmaeanaaaNinL
import Derived.Test.YtceigfdmaeanaaaDrawN
namespace Go.Proofs.Ytceigfdmaeanaaa
open Go.ChangeShapes Go.WideShapes Go.ChangeAt Go.RowKit

set_option maxRecDepth 100000 in
set_option maxHeartbeats 1000000 in
theorem walk_FnElevens (A0 : Option Addr) (cap0 : Nat) (z0 : List Int) (A1 : Option Addr) (cap1 : Nat) (z1 : List Int) (w : World) (h0 : Came .u8 w A0 cap0 z0) (h1 : Came .u8 w A1 cap1 z1) :
    Calls Try.prog 12 #[.slice A0 z0.length cap0, .slice A1 z1.length cap1] w fun e w' => e = .returned (.bool true) ∧ Below w.heap.size w w' := by
  have hm := h0.ml
  have hm1 := h1.ml
  by_cases hbig : 1048576 < z0.length
  · go_enter Try.func12, Try.ntmps12
    go_wp2
    go_ret
    exact ⟨rfl, Below.refl _ _⟩
  by_cases hbig1 : 1048576 < z1.length
  · have d0 : decide ((1048576 : Int) < (z0.length : Int)) = false := by simp; omega
    go_enter Try.func12, Try.ntmps12
    go_wp2
    go_ret
    exact ⟨rfl, Below.refl _ _⟩
  have d0 : decide ((1048576 : Int) < (z0.length : Int)) = false := by simp; omega
  have d1 : decide ((1048576 : Int) < (z1.length : Int)) = false := by simp; omega
  go_enter Try.func12, Try.ntmps12
  go_wp2_with fail
  refine (DrawElevensOf _ _ _ _ h0).mono ?_
  rintro e w1 ⟨A, c, zs, rfl, s1, lz, b1⟩
  go_wp2_with fail
  refine (impl_ElevensOf _ _ _ _ s1.rd (by omega)).mono ?_
  rintro e w2 ⟨rfl, b2⟩
  have s2 := s1.below b2
  have r2 := bstep b1 b2
  clear s1 b1 b2
  go_wp2_with fail
  refine (spec_ElevensOf _ _ _ _ s2.rd (by omega)).mono ?_
  rintro e w' ⟨rfl, rfl⟩
  cases hn : numB zs
  · have HV : Hid (elevV zs = -1) := Lib.hid (elevV_no hn)
    rw [HV.out]
    go_wp2_with fail
    go_ret
    exact ⟨rfl, r2⟩
  have ⟨n0, n8⟩ := elev_bd hn
  have l6 := (numB_t hn).2.1
  have hvb : 0 ≤ numV zs ∧ numV zs < 1000000 := by rw [numV, if_pos hn]; exact valTo_bd6 hn l6
  have t0 : decide (elevV zs < 0) = false := by simp; omega
  have t1 : (elevV zs == numV zs % 11) = true := by rw [beq_iff_eq]; exact elev_val hn
  have HX : Hid (exchB zs ((z1.length : Int) % 6) = true → elevV (exchL zs ((z1.length : Int) % 6)) ≠ elevV zs) := Lib.hid exch_elev
  have HY : Hid (slipB zs ((z1.length : Int) % 6) ((z1.length : Int) / 6 % 10) = true → elevV (slipL zs ((z1.length : Int) % 6) ((z1.length : Int) / 6 % 10)) ≠ elevV zs) := Lib.hid slip_elev
  have ll := exchL_le zs ((z1.length : Int) % 6) (by omega)
  have ll2 := slipL_le zs ((z1.length : Int) % 6) ((z1.length : Int) / 6 % 10) (by omega)
  go_wp2_with fail
  refine (impl_NumeralExchange _ _ _ _ _ s2.rd (by omega)).mono ?_
  rintro e w4 ⟨A4, c4, rfl, s4, b4⟩
  have r4 := bstep r2 b4
  have s5 := s2.below b4
  clear s2 r2
  go_wp2_with fail
  refine (impl_NumeralSlip _ _ _ _ _ _ s5.rd (by omega)).mono ?_
  rintro e w5 ⟨A5, c5, rfl, y5, b5⟩
  have r5 := bstep r4 b5
  have s6 := s5.below b5
  have x6 := s4.below b5
  clear s5 s4 b4 b5 r4
  cases hx : exchB zs ((z1.length : Int) % 6)
  · cases hy : slipB zs ((z1.length : Int) % 6) ((z1.length : Int) / 6 % 10)
    · go_wp2_with fail
      refine (impl_NumeralValue _ _ _ _ s6.rd (by omega)).mono ?_
      rintro e w7 ⟨rfl, b7⟩
      go_wp2_with fail
      go_ret
      exact ⟨rfl, bstep r5 b7⟩
    · have t5 : (elevV (slipL zs ((z1.length : Int) % 6) ((z1.length : Int) / 6 % 10)) != elevV zs) = true := by rw [bne_iff_ne]; exact HY.out hy
      go_wp2_with fail
      refine (impl_NumeralValue _ _ _ _ s6.rd (by omega)).mono ?_
      rintro e w7 ⟨rfl, b7⟩
      go_wp2_with fail
      refine (impl_ElevensOf _ _ _ _ (y5.below b7).rd ll2).mono ?_
      rintro e w8 ⟨rfl, b8⟩
      go_wp2_with fail
      go_ret
      exact ⟨rfl, bstep r5 (bstep b7 b8)⟩
  · have t4 : (elevV (exchL zs ((z1.length : Int) % 6)) != elevV zs) = true := by rw [bne_iff_ne]; exact HX.out hx
    cases hy : slipB zs ((z1.length : Int) % 6) ((z1.length : Int) / 6 % 10)
    · go_wp2_with fail
      refine (impl_NumeralValue _ _ _ _ s6.rd (by omega)).mono ?_
      rintro e w7 ⟨rfl, b7⟩
      go_wp2_with fail
      refine (impl_ElevensOf _ _ _ _ (x6.below b7).rd ll).mono ?_
      rintro e w8 ⟨rfl, b8⟩
      go_wp2_with fail
      go_ret
      exact ⟨rfl, bstep r5 (bstep b7 b8)⟩
    · have t5 : (elevV (slipL zs ((z1.length : Int) % 6) ((z1.length : Int) / 6 % 10)) != elevV zs) = true := by rw [bne_iff_ne]; exact HY.out hy
      go_wp2_with fail
      refine (impl_NumeralValue _ _ _ _ s6.rd (by omega)).mono ?_
      rintro e w7 ⟨rfl, b7⟩
      go_wp2_with fail
      refine (impl_ElevensOf _ _ _ _ (x6.below b7).rd ll).mono ?_
      rintro e w8 ⟨rfl, b8⟩
      go_wp2_with fail
      refine (impl_ElevensOf _ _ _ _ ((y5.below b7).below b8).rd ll2).mono ?_
      rintro e w9 ⟨rfl, b9⟩
      go_wp2_with fail
      go_ret
      exact ⟨rfl, bstep r5 (bstep b7 (bstep b8 b9))⟩

/-! The row's step, after the kit's own shell of such a proof. -/
set_option linter.unusedVariables false in
set_option maxRecDepth 100000 in
theorem lifted_FnElevens (os : Os) (started : os.Started) (H : Type) (enc : TypeId × Value → H) :
    ReturnsInHanded {} Try.checked os 12 .any (Rows.fnElevensSpec.pre6 enc Try.prog Try.f12 Rows.fnElevensRow.domain false) (Rows.fnElevensSpec.post enc Try.prog Try.f12 false true false false) := by
  refine returnsInHanded_of_change (C := Try.checked) own started (by kernel_rfl) Try.func12
    (ChangeSpec.witness6 (enc := enc) (C := Try.checked) false ⟨#[], #[.slice none 0 0, .slice none 0 0], []⟩ 8 (by kernel_rfl) (by kernel_rfl) (by kernel_rfl) (by kernel_rfl)) ?_
  intro W base args ds gs before hval0 hW hcnd _
  have hval : ∀ (j : Nat) t v, Try.f12.params[j]? = some t → args[j]? = some v → Value.okWide Try.prog W .any base t v := hval0
  have hW' := hW
  obtain ⟨p, q, hA0, hV, rfl, hfz, hnd⟩ := hW
  have hA : DataW.TrodAll enc Try.prog W 0 (fun _ => true) true Try.f12.params.toList args.toList ds p := hA0
  rw [Try.params12] at hA hval
  obtain ⟨v0, vs0, d0, ds0, p0, q0, hargs, rfl, rfl, h0, r0⟩ := trodAll_cons hA
  obtain ⟨v1, vs1, d1, ds1, p1, q1, rfl, rfl, rfl, h1, r1⟩ := trodAll_cons r0
  obtain ⟨rfl, rfl, rfl⟩ := trodAll_nil r1
  obtain rfl : args = #[v0, v1] := by cases args; simp_all
  obtain ⟨rfl, rfl⟩ := trodVars_none hV
  obtain ⟨A0, len0, cap0, rfl⟩ := okWide_slice Try.underlying35 (hval 0 35 v0 rfl rfl)
  have k0 := h0
  have lt0 : ∀ x ∈ p0, x.block < W.heap.size := by obtain ⟨m, hm⟩ := k0; exact DataW.trod_lt m _ _ _ hm
  obtain ⟨z0, rfl, w0⟩ := row_open Try.underlying35 Try.underlying5 (by kernel_rfl) h0
  obtain ⟨A1, len1, cap1, rfl⟩ := okWide_slice Try.underlying35 (hval 1 35 v1 rfl rfl)
  have k1 := h1
  have lt1 : ∀ x ∈ p1, x.block < W.heap.size := by obtain ⟨m, hm⟩ := k1; exact DataW.trod_lt m _ _ _ hm
  obtain ⟨z1, rfl, w1⟩ := row_open Try.underlying35 Try.underlying5 (by kernel_rfl) h1
  clear hA0 hval0
  refine (walk_FnElevens A0 cap0 z0 A1 cap1 z1 W w0 w1).mono fun e W' ⟨he, bel⟩ => ?_
  subst he
  exact ⟨_, rfl, _, _, _, [], _, [], hW', trodAll_mk1 (shut_bool Try.underlying4 _), (trodAll_cons_mk (Below.trod laidOut (by kernel_rfl) (of_decide_eq_true (by kernel_rfl)) k0 bel lt0) (trodAll_cons_mk (Below.trod laidOut (by kernel_rfl) (of_decide_eq_true (by kernel_rfl)) k1 bel lt1) trodAll_mk0)), rfl, bel.frame _, fun h => by cases h⟩

theorem over_FnElevens : Rows.fnElevensRow.holds Try.pinned (OpenSpec.ofChange Rows.fnElevensSpec) :=
  OpenClaim.holds_of_wide 12 Try.f12 rfl rfl rfl rfl rfl rfl rfl ⟨rfl, rfl, rfl, rfl, rfl⟩ rfl rfl rfl rfl rfl (by kernel_rfl) Try.func12 (by kernel_rfl)
    (of_decide_eq_true (by kernel_rfl)) (by unfold Func.isWrapper; first | (rw [if_pos (by decide +kernel)]; kernel_rfl) | (rw [if_neg (by decide +kernel)]; exact ⟨rfl, rfl⟩))
    (fun os started H enc _ => lifted_FnElevens os started H enc)

/-- The statement. -/
theorem holds_FnElevens : Rows.FnElevensSaid := over_FnElevens
#print axioms holds_FnElevens
end Go.Proofs.Ytceigfdmaeanaaa
