/- The law FnSlip returns true for every input: a slip changes one digit. No condition. -/
import Derived.Test.YtceigfdmaeanaaaNinM
import Derived.Test.YtceigfdmaeanaaaDrawM
namespace Go.Proofs.Ytceigfdmaeanaaa
open Go.ChangeShapes Go.WideShapes Go.ChangeAt Go.RowKit

set_option maxRecDepth 100000 in
set_option maxHeartbeats 1000000 in
theorem walk_FnSlip (A0 : Option Addr) (cap0 : Nat) (z0 : List Int) (w : World) (h0 : Came .u8 w A0 cap0 z0) :
    Calls Try.prog 13 #[.slice A0 z0.length cap0] w fun e w' => e = .returned (.bool true) ∧ Below w.heap.size w w' := by
  have hm := h0.ml
  by_cases hbig : 1048576 < z0.length
  · go_enter Try.func13, Try.ntmps13
    go_wp2
    go_ret
    exact ⟨rfl, Below.refl _ _⟩
  go_enter Try.func13, Try.ntmps13
  go_wp2_with fail
  refine (DrawNumeralSlip _ _ _ _ h0).mono ?_
  rintro e w1 ⟨A, c, zs, i, d, rfl, s1, lz, _, _, _, _, b1⟩
  have impl := fun A c w hr => impl_NumeralSlip A c zs i d w hr (by omega)
  have spec := fun A c w hr hz => spec_NumeralSlip A c zs i d w hr hz (by omega)
  cases hx : slipB zs i d
  · rw [slip_no hx, hx] at impl spec
    have HIM := Lib.hid impl
    have HSP := Lib.hid spec
    clear impl spec
    go_wp2_with fail
    refine (HIM.out _ _ _ s1.rd).mono ?_
    rintro e w2 ⟨A2, c2, rfl, s2, b2⟩
    go_wp2_with fail
    refine (HSP.out _ _ _ (s1.below b2).rd (s1.below b2).nz).mono ?_
    rintro e w3 ⟨A3, c3, rfl, s3, b3⟩
    have r3 := bstep b1 (bstep b2 b3)
    go_wp2_with fail
    refine (sameInts_same A2 A3 c2 c3 [] _ Rd.nil_ Rd.nil_ (by simp)).mono ?_
    rintro e w' ⟨rfl, n4, rfl⟩
    go_wp2_with fail
    refine (sameInts_same A2 A3 c2 c3 [] _ Rd.nil_ Rd.nil_ (by simp)).mono ?_
    rintro e w' ⟨rfl, n5, rfl⟩
    go_wp2_with fail
    go_ret
    exact ⟨rfl, r3.drewN _⟩
  · obtain ⟨h1, i0, i1, d0, d9, hne⟩ := slipB_t hx
    obtain ⟨I, rfl⟩ := Int.eq_ofNat_of_zero_le i0
    obtain ⟨x1, x2⟩ := slip_slip hx
    have lo := slip_len hx
    have hnth := slip_nth hx (j := I) i1
    have hnin := slip_nines hx
    have hfar := slip_far hx
    rw [if_pos (Int.toNat_natCast I)] at hnth
    rw [Int.toNat_natCast] at i1 x1 x2 hnin
    have impl2 := fun A c w hr => impl_NumeralSlip A c (slipL zs (I : Int) d) (I : Int) (nth zs I) w hr (by omega)
    rw [x1, x2] at impl2
    rw [hx] at impl spec
    have hz := numB_digit h1 I
    clear x1 x2 hx hne i0
    generalize slipL zs (I : Int) d = ys at *
    have HIM := Lib.hid impl
    have HIM2 := Lib.hid impl2
    have HSP := Lib.hid spec
    have ly : ys.length ≤ 7 := by omega
    have iy : I < ys.length := by omega
    have t1 : (farV zs ys == 1) = true := by rw [beq_iff_eq]; exact hfar
    have u0 : 0 ≤ (I : Int) := by omega
    have u1 : (I : Int) < zs.length := by omega
    have u2 : (I : Int) < ys.length := by omega
    have HN := Lib.hid hnin
    have HT := Lib.hid hnth
    obtain ⟨a, rfl, _, _⟩ := s1.addr (by intro h; rw [h] at i1; simp at i1)
    clear impl spec impl2 lo hfar hnin hnth
    go_wp2_with fail
    refine (HIM.out _ _ _ s1.rd).mono ?_
    rintro e w2 ⟨A2, c2, rfl, s2, b2⟩
    have z2 := s1.below b2
    have r2 := bstep b1 b2
    clear s1 b1 b2
    go_wp2_with fail
    refine (HSP.out _ _ _ z2.rd z2.nz).mono ?_
    rintro e w3 ⟨A3, c3, rfl, s3, b3⟩
    have z3 := z2.below b3
    have y3 := s2.below b3
    have r3 := bstep r2 b3
    clear z2 s2 r2 b3
    go_wp2_with fail
    refine (sameInts_same A2 A3 c2 c3 ys _ y3.rd s3.rd (by omega)).mono ?_
    rintro e w' ⟨rfl, n4, rfl⟩
    have r4 := r3.drewN n4
    have z4 := z3.drewN n4
    have y4 := y3.drewN n4
    have hz4 := z4.cell (j := I) i1
    have hl4 := (z4.lt a rfl).2
    clear s3 z3 y3 r3
    go_wp2_with fail
    refine (HIM2.out _ _ _ y4.rd).mono ?_
    rintro e w5 ⟨A5, c5, rfl, s5, b5⟩
    have r5 := bstep r4 b5
    have z5 := z4.below b5
    have y5 := y4.below b5
    clear z4 y4 r4 b5 hz4 hl4
    go_wp2_with fail
    refine (impl_NinesOf _ _ _ _ y5.rd (by omega)).mono ?_
    rintro e w6 ⟨rfl, b6⟩
    have r6 := bstep r5 b6
    have z6 := z5.below b6
    have y6 := y5.below b6
    have s6 := s5.below b6
    clear z5 y5 r5 s5 b6
    go_wp2_with fail
    refine (impl_NinesOf _ _ _ _ z6.rd (by omega)).mono ?_
    rintro e w7 ⟨rfl, b7⟩
    have r7 := bstep r6 b7
    have z7 := z6.below b7
    have y7 := y6.below b7
    have s7 := s6.below b7
    clear z6 y6 r6 s6 b7
    obtain ⟨g, rfl, _, _⟩ := y7.addr (by intro h; rw [h] at iy; simp at iy)
    have hz7 := z7.cell (j := I) i1
    have hy7 := y7.cell (j := I) iy
    rw [HT.out] at hy7
    have v1 : IntKind.i64.wrap (d - nth zs I) = d - nth zs I := IntWalk.i64_in _ (by omega)
    have HS := Lib.hid s7
    have HZ := Lib.hid z7
    have HY := Lib.hid y7
    have H7 := Lib.hid r7
    clear s7 z7 y7 r7
    go_wp2_with fail
    go_quiet (fail)
    clear v1 hz7 hy7
    have Z8 := HZ.out.drewN nq
    by_cases e9 : d - nth zs I = 9
    · have t2 : (d - nth zs I == 9) = true := by rw [beq_iff_eq]; exact e9
      have t3 : ((ninesV ys == ninesV zs) == true) = true := by rw [HN.out, t2]; rfl
      have t4 : (ninesV ys == ninesV zs) = true := by rw [HN.out, t2]; rfl
      clear e9
      go_wp2_with fail
      refine (sameInts_same A5 _ c5 c zs _ (HS.out.drewN nq).rd Z8.rd (by omega)).mono ?_
      rintro e w' ⟨rfl, n9, rfl⟩
      go_wp2_with fail
      refine (impl_NumeralFar _ _ _ _ _ _ _ (HZ.out.drewN (nq + n9)).rd (HY.out.drewN (nq + n9)).rd (by omega) (by omega)).mono ?_
      rintro e w10 ⟨rfl, b10⟩
      go_wp2_with fail
      go_ret
      exact ⟨rfl, bstep (H7.out.drewN (nq + n9)) b10⟩
    · have t2 : (d - nth zs I == 9) = false := beq_eq_false_iff_ne.2 e9
      have t4 : (ninesV ys == ninesV zs) = (d - nth zs I == -9) := by rw [HN.out, t2]; rfl
      clear e9
      go_wp2_with fail
      refine (sameInts_same A5 _ c5 c zs _ (HS.out.drewN nq).rd Z8.rd (by omega)).mono ?_
      rintro e w' ⟨rfl, n9, rfl⟩
      go_wp2_with fail
      refine (impl_NumeralFar _ _ _ _ _ _ _ (HZ.out.drewN (nq + n9)).rd (HY.out.drewN (nq + n9)).rd (by omega) (by omega)).mono ?_
      rintro e w10 ⟨rfl, b10⟩
      go_wp2_with fail
      go_ret
      exact ⟨rfl, bstep (H7.out.drewN (nq + n9)) b10⟩

/-! The row's step, after the kit's own shell of such a proof. -/
set_option linter.unusedVariables false in
set_option maxRecDepth 100000 in
theorem lifted_FnSlip (os : Os) (started : os.Started) (H : Type) (enc : TypeId × Value → H) :
    ReturnsInHanded {} Try.checked os 13 .any (Rows.fnSlipSpec.pre6 enc Try.prog Try.f13 Rows.fnSlipRow.domain false) (Rows.fnSlipSpec.post enc Try.prog Try.f13 false true false false) := by
  refine returnsInHanded_of_change (C := Try.checked) own started (by kernel_rfl) Try.func13
    (ChangeSpec.witness6 (enc := enc) (C := Try.checked) false ⟨#[], #[.slice none 0 0], []⟩ 8 (by kernel_rfl) (by kernel_rfl) (by kernel_rfl) (by kernel_rfl)) ?_
  intro W base args ds gs before hval0 hW hcnd _
  have hval : ∀ (j : Nat) t v, Try.f13.params[j]? = some t → args[j]? = some v → Value.okWide Try.prog W .any base t v := hval0
  have hW' := hW
  obtain ⟨p, q, hA0, hV, rfl, hfz, hnd⟩ := hW
  have hA : DataW.TrodAll enc Try.prog W 0 (fun _ => true) true Try.f13.params.toList args.toList ds p := hA0
  rw [Try.params13] at hA hval
  obtain ⟨v0, vs0, d0, ds0, p0, q0, hargs, rfl, rfl, h0, r0⟩ := trodAll_cons hA
  obtain ⟨rfl, rfl, rfl⟩ := trodAll_nil r0
  obtain rfl : args = #[v0] := by cases args; simp_all
  obtain ⟨rfl, rfl⟩ := trodVars_none hV
  obtain ⟨A0, len0, cap0, rfl⟩ := okWide_slice Try.underlying35 (hval 0 35 v0 rfl rfl)
  have k0 := h0
  have lt0 : ∀ x ∈ p0, x.block < W.heap.size := by obtain ⟨m, hm⟩ := k0; exact DataW.trod_lt m _ _ _ hm
  obtain ⟨z0, rfl, w0⟩ := row_open Try.underlying35 Try.underlying5 (by kernel_rfl) h0
  clear hA0 hval0
  refine (walk_FnSlip A0 cap0 z0 W w0).mono fun e W' ⟨he, bel⟩ => ?_
  subst he
  exact ⟨_, rfl, _, _, _, [], _, [], hW', trodAll_mk1 (shut_bool Try.underlying4 _), (trodAll_cons_mk (Below.trod laidOut (by kernel_rfl) (of_decide_eq_true (by kernel_rfl)) k0 bel lt0) trodAll_mk0), rfl, bel.frame _, fun h => by cases h⟩

theorem over_FnSlip : Rows.fnSlipRow.holds Try.pinned (OpenSpec.ofChange Rows.fnSlipSpec) :=
  OpenClaim.holds_of_wide 13 Try.f13 rfl rfl rfl rfl rfl rfl rfl ⟨rfl, rfl, rfl, rfl, rfl⟩ rfl rfl rfl rfl rfl (by kernel_rfl) Try.func13 (by kernel_rfl)
    (of_decide_eq_true (by kernel_rfl)) (by unfold Func.isWrapper; first | (rw [if_pos (by decide +kernel)]; kernel_rfl) | (rw [if_neg (by decide +kernel)]; exact ⟨rfl, rfl⟩))
    (fun os started H enc _ => lifted_FnSlip os started H enc)

/-- The statement. -/
theorem holds_FnSlip : Rows.FnSlipSaid := over_FnSlip
#print axioms holds_FnSlip
end Go.Proofs.Ytceigfdmaeanaaa
