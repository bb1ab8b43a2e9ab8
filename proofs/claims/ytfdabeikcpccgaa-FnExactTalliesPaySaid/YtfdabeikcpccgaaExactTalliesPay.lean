/- The law FnExactTalliesPay returns true for every input: the program's TalliesPay is the reference's, its result is its own, and its argument is left as it was. No condition. -/
import Derived.Test.YtfdabeikcpccgaaTsS
import Derived.Test.YtfdabeikcpccgaaTsK
namespace Go.Proofs.Ytfdabeikcpccgaa
open Go.ChangeShapes Go.WideShapes Go.ChangeAt Go.RowKit

theorem payL_len (ts : List Tl) (k : Int) : (payL ts k).length ≤ ts.length := by
  unfold payL
  split
  · exact List.length_eraseIdx_le _ _
  · simp

theorem ne_blk {A : Option Addr} {r : Option Nat} (h : ∀ j, blk A = some j → some j ≠ r) : blk A = none ∨ blk A ≠ r := by
  rcases hA : blk A with _ | j
  · exact .inl rfl
  · exact .inr (h j hA)

set_option maxRecDepth 100000 in
set_option maxHeartbeats 1000000 in
theorem walk_FnExactTalliesPay (A : Option Addr) (cap : Nat) (ts : List Tl) (k : Int) (w : World) (h0 : TCame w A cap ts) (_ : (Lit.int .i64 k).wf = true) :
    Calls Try.prog 12 #[.slice A ts.length cap, .int .i64 k] w fun e w' => e = .returned (.bool true) ∧ Below w.heap.size w w' := by
  go_enter Try.func12, Try.ntmps12
  go_wp2_with fail
  refine (szTallyS A cap ts w h0).mono ?_
  rintro e w1 ⟨b1, rfl | ⟨L, hL, rfl, hn, hs⟩⟩
  · go_wp2_with fail
    go_ret
    exact ⟨rfl, b1⟩
  have spec := fun A c w hA hc => spec_TalliesPay A c ts k w hA hc hn hs
  have impl := fun A c w hA => impl_TalliesPay A c ts k w hA hn hs
  have hul := payL_len ts k
  have HR := Lib.hid h0.2.2.1
  clear hs h0
  generalize payL ts k = us at *
  generalize payB ts k = ok at *
  have HSP := Lib.hid spec
  have HIM := Lib.hid impl
  clear spec impl
  have hun : us.length ≤ 1048576 := by omega
  have d1 : decide (1 + 4 * (ts.length : Int) < 0) = false := by simp; omega
  have d2 : decide (1 + 4 * (us.length : Int) < 0) = false := by simp; omega
  clear hul
  go_wp2_with fail
  refine (toTallyS A cap ts w1 (HR.out.below b1) hn).mono ?_
  rintro e w2 ⟨rfl, s2, b2⟩
  have r2 := bstep b1 b2
  clear b1 b2
  go_wp2_with fail
  refine (HSP.out _ _ w2 s2.rd (Nat.le_refl _)).mono ?_
  rintro e w3 ⟨A3, c3, rfl, s3, b3⟩
  have r3 := bstep r2 b3
  clear s2 r2 b3
  go_wp2_with fail
  refine (toTallyS A cap ts w3 (HR.out.below r3) hn).mono ?_
  rintro e w4 ⟨rfl, s4, b4⟩
  have r4 := bstep r3 b4
  have s43 := s3.below b4
  have l3 := s3.lt
  have hx4 : w3.heap.size < w4.heap.size := (s4.lt w3.heap.size rfl).2
  have hz3 := r3.size
  clear s3 r3 b4
  go_wp2_with fail
  refine (HIM.out _ _ w4 s4.rd).mono ?_
  rintro e w5 ⟨A5, c5, rfl, s5, b5⟩
  have r5 := bstep r4 b5
  have s53 := s43.below b5
  have s54 := s4.below b5
  have l5 := s5.lt
  have HL3 := Lib.hid l3
  have HL5 := Lib.hid l5
  clear s43 s4 r4 b5 l3 l5
  go_wp2_with fail
  refine (eqTallyS A5 A3 c5 c3 us w5 s5.rd s53.rd hun).mono ?_
  rintro e w6 ⟨rfl, b6⟩
  have r6 := bstep r5 b6
  have s63 := s53.below b6
  have s64 := s54.below b6
  have s65 := s5.below b6
  clear s53 s54 s5 r5 b6
  go_wp2_with fail
  refine (toTallyS A cap ts w6 (HR.out.below r6) hn).mono ?_
  rintro e w7 ⟨rfl, s77, b7⟩
  have r7 := bstep r6 b7
  have s73 := s63.below b7
  have s74 := s64.below b7
  have s75 := s65.below b7
  clear s63 s64 s65 r6 b7
  go_wp2_with fail
  refine (eqTallyS _ _ _ _ ts w7 s74.rd s77.rd hn).mono ?_
  rintro e w8 ⟨rfl, b8⟩
  have r8 := bstep r7 b8
  have s83 := s73.below b8
  have s84 := s74.below b8
  have s85 := s75.below b8
  clear s73 s74 s75 s77 r7 b8
  go_wp2_with fail
  -- x0 is marked
  refine (markTallyS _ _ _ ts w8 s84 hn).mono ?_
  rintro e w9 ⟨xs, _, rfl, _, g9⟩
  have r9 := r8.grown g9 r8.size (fun j hj => by simp [blk] at hj; omega)
  have s93 := s83.grown g9 (ne_blk (fun j hj => by have := (HL3.out j hj).2; simp [blk]; omega))
  have s95 := s85.grown g9 (ne_blk (fun j hj => by have := (HL5.out j hj).1; simp [blk]; omega))
  clear s83 s84 s85 r8 g9
  go_wp2_with fail
  refine (eqTallyS A5 A3 c5 c3 us w9 s95.rd s93.rd hun).mono ?_
  rintro e w10 ⟨rfl, b10⟩
  have r10 := bstep r9 b10
  have s103 := s93.below b10
  have s105 := s95.below b10
  clear s93 s95 r9 b10
  go_wp2_with fail
  -- g0 is marked
  refine (markTallyS A5 c5 _ us w10 s105 hun).mono ?_
  rintro e w11 ⟨ys, hys, rfl, s11, g11⟩
  have r11 := r10.grown g11 r10.size (fun j hj => by have := (HL5.out j hj).1; omega)
  have s113 := s103.grown g11 (ne_blk (fun j hj => fun e => by have := (HL3.out j hj).2; have := (HL5.out j e.symm).1; omega))
  have HYS := Lib.hid hys
  clear s103 s105 r10 g11 hys
  go_wp2_with fail
  refine (heldTallyS A5 c5 us.length ys w11 s11.rd HYS.out hun).mono ?_
  rintro e w12 ⟨rfl, b12⟩
  have r12 := bstep r11 b12
  have s123 := s113.below b12
  have s125 := s11.below b12
  clear s113 s11 r11 b12
  go_wp2_with fail
  -- another call
  refine (toTallyS A cap ts w12 (HR.out.below r12) hn).mono ?_
  rintro e w13 ⟨rfl, s13, b13⟩
  have r13 := bstep r12 b13
  have s133 := s123.below b13
  have s135 := s125.below b13
  clear s123 s125 r12 b13
  go_wp2_with fail
  refine (HIM.out _ _ w13 s13.rd).mono ?_
  rintro e w14 ⟨A14, c14, rfl, s14, b14⟩
  have r14 := bstep r13 b14
  have s143 := s133.below b14
  have s145 := s135.below b14
  clear s133 s135 s13 r13 b14
  go_wp2_with fail
  refine (eqTallyS A14 A3 c14 c3 us w14 s14.rd s143.rd hun).mono ?_
  rintro e w15 ⟨rfl, b15⟩
  have r15 := bstep r14 b15
  have s155 := s145.below b15
  clear s143 s145 s14 r14 b15
  go_wp2_with fail
  refine (heldTallyS A5 c5 us.length ys w15 s155.rd HYS.out hun).mono ?_
  rintro e w16 ⟨rfl, b16⟩
  have r16 := bstep r15 b16
  clear s155 r15 b16
  go_wp2_with fail
  go_ret
  exact ⟨rfl, r16⟩

/-! The row's step, after the kit's own shell of such a proof. -/
set_option linter.unusedVariables false in
set_option maxRecDepth 100000 in
theorem lifted_FnExactTalliesPay (os : Os) (started : os.Started) (H : Type) (enc : TypeId × Value → H) :
    ReturnsInHanded {} Try.checked os 12 .any (Rows.fnExactTalliesPaySpec.pre6 enc Try.prog Try.f12 Rows.fnExactTalliesPayRow.domain false) (Rows.fnExactTalliesPaySpec.post enc Try.prog Try.f12 false true false false) := by
  refine returnsInHanded_of_change (C := Try.checked) own started (by kernel_rfl) Try.func12
    (ChangeSpec.witness6 (enc := enc) (C := Try.checked) false ⟨#[], #[.slice none 0 0, .int .i64 0], []⟩ 8 (by kernel_rfl) (by kernel_rfl) (by kernel_rfl) (by kernel_rfl)) ?_
  intro W base args ds gs before hval0 hW hcnd _
  have hval : ∀ (j : Nat) t v, Try.f12.params[j]? = some t → args[j]? = some v → Value.okWide Try.prog W .any base t v := hval0
  have hW' := hW
  obtain ⟨p, q, hA0, hV, rfl, hfz, hnd⟩ := hW
  have hA : DataW.TrodAll enc Try.prog W 0 (fun _ => true) true Try.f12.params.toList args.toList ds p := hA0
  rw [Try.params12] at hA hval
  obtain ⟨v0, vs0, d0, ds0, p0, q0, hargs, rfl, rfl, h0, r0⟩ := trodAll_cons hA
  obtain ⟨v1, vs1, d1, ds1, p1, q1, rfl, rfl, rfl, h1, r1⟩ := trodAll_cons r0
  obtain ⟨rfl, rfl, rfl⟩ := trodAll_nil r1
  obtain rfl : args = #[v0, v1] := by cases args; simp_all
  obtain ⟨rfl, rfl⟩ := trodVars_none hV
  obtain ⟨A0, len0, cap0, rfl⟩ := okWide_slice Try.underlying32 (hval 0 32 v0 rfl rfl)
  have k0 := h0
  have lt0 : ∀ x ∈ p0, x.block < W.heap.size := by obtain ⟨m, hm⟩ := k0; exact DataW.trod_lt m _ _ _ hm
  obtain ⟨z0, rfl, w0⟩ := open_tallies h0
  obtain ⟨a1, rfl, rfl, rfl, w1⟩ := open_int Try.underlying3 (hval 1 3 v1 rfl rfl) h1
  clear hA0 hval0
  refine (walk_FnExactTalliesPay A0 cap0 z0 a1 W w0 w1).mono fun e W' ⟨he, bel⟩ => ?_
  subst he
  exact ⟨_, rfl, _, _, _, [], _, [], hW', trodAll_mk1 (shut_bool Try.underlying4 _), (trodAll_cons_mk (Below.trod laidOut (by kernel_rfl) (of_decide_eq_true (by kernel_rfl)) k0 bel lt0) (trodAll_cons_mk (shut_int Try.underlying3 w1) trodAll_mk0)), rfl, bel.frame _, fun h => by cases h⟩

theorem over_FnExactTalliesPay : Rows.fnExactTalliesPayRow.holds Try.pinned (OpenSpec.ofChange Rows.fnExactTalliesPaySpec) :=
  OpenClaim.holds_of_wide 12 Try.f12 rfl rfl rfl rfl rfl rfl rfl ⟨rfl, rfl, rfl, rfl, rfl⟩ rfl rfl rfl rfl rfl (by kernel_rfl) Try.func12 (by kernel_rfl)
    (of_decide_eq_true (by kernel_rfl)) (by unfold Func.isWrapper; first | (rw [if_pos (by decide +kernel)]; kernel_rfl) | (rw [if_neg (by decide +kernel)]; exact ⟨rfl, rfl⟩))
    (fun os started H enc _ => lifted_FnExactTalliesPay os started H enc)

/-- The statement. -/
theorem holds_FnExactTalliesPay : Rows.FnExactTalliesPaySaid := over_FnExactTalliesPay
#print axioms holds_FnExactTalliesPay
end Go.Proofs.Ytfdabeikcpccgaa
