/- The law FnExactFrameOf returns true for every input: the program's FrameOf is the reference's, and its result is its own. No condition. -/
import Derived.Test.YtfdbhaojdccomaaFrOfS
import Derived.Test.YtfdbhaojdccomaaFrEnd
namespace Go.Proofs.Ytfdbhaojdccomaa
open Go.ChangeShapes Go.WideShapes Go.ChangeAt Go.RowKit
open Go.ChangeMaps (open_string shut_string)

theorem ofHs_len (n v : Int) : (ofHs n v).length ≤ 6 := by
  unfold ofHs
  split
  · rename_i h
    simp only [ofB, Bool.and_eq_true] at h
    have := inB_t h.1
    rw [ofH_len]; omega
  · simp
theorem ofLs_len (n v : Int) : (ofLs n v).length ≤ 6 := by
  unfold ofLs
  split
  · rename_i h
    simp only [ofB, Bool.and_eq_true] at h
    have := inB_t h.1
    rw [ofL_len]; omega
  · simp

set_option maxRecDepth 100000 in
set_option maxHeartbeats 1000000 in
theorem walk_FnExactFrameOf (n v : Int) (w : World) (_ : (Lit.int .i64 n).wf = true) (_ : (Lit.int .i64 v).wf = true) :
    Calls Try.prog 6 #[.int .i64 n, .int .i64 v] w fun e w' => e = .returned (.bool true) ∧ Below w.heap.size w w' := by
  have spec := spec_FrameOf n v
  have impl := impl_FrameOf n v
  have lh := ofHs_len n v
  have ll := ofLs_len n v
  generalize ofHs n v = hs at *
  generalize ofLs n v = ls at *
  generalize ofB n v = ok at *
  have HSP := Lib.hid spec
  have HIM := Lib.hid impl
  clear spec impl
  go_enter Try.func6, Try.ntmps6
  go_wp2_with fail
  refine (HSP.out _).mono ?_
  rintro e w1 ⟨A1, B1, c1, d1, rfl, s1, b1⟩
  go_wp2_with fail
  refine (HIM.out _).mono ?_
  rintro e w2 ⟨A2, B2, c2, d2, rfl, s2, b2⟩
  have r2 := bstep (bstep b1 (below_alloc _ _)) b2
  have S1 := (s1.below (below_alloc w1 (.cells #[.slice A1 hs.length c1, .slice B1 ls.length d1] 27))).below b2
  obtain ⟨x0, x1, xz⟩ := box2 b2
  go_wp2_with fail
  refine (eqFrame_same A2 B2 A1 B1 c2 d2 c1 d1 hs ls _ (s2.rd.alloc _) (S1.rd.alloc _) (by omega) (by omega)).mono ?_
  rintro e w3 ⟨rfl, b3⟩
  have r3 := bstep (bstep r2 (below_alloc _ _)) b3
  have q3 := bstep (below_alloc w2 (.cells #[.slice A2 hs.length c2, .slice B2 ls.length d2] 27)) b3
  have X0 := cell_later x0 q3
  have X1 := cell_later x1 q3
  obtain ⟨y0, y1, yz⟩ := box2 b3
  have T1 := S1.below q3
  have T2 := s2.below q3
  clear x0 x1 xz
  go_wp2_with fail
  refine (markFrame A2 B2 c2 d2 _ hs ls 1 w3 T2 (by have := b2.size; have := q3.size; omega) (by omega) (by omega) (by omega) (by omega)).mono ?_
  rintro e w4 ⟨rfl, M⟩
  have r4 := r3.trans (M.bel.mono (by have := b1.size; simp; omega))
  have U1 : FrRd w4 A1 B1 hs ls := T1.rd.belowB M.bel (fun j hj => by have := s1.ltA j hj; simp; omega) (fun j hj => by have := s1.ltB j hj; simp; omega)
  have U2 := M.fr
  have Z0 := M.cell_ X0 (by simp)
  have Z1 := M.cell_ X1 (by simp)
  have yy0 := M.box_ y0 s2 (by simp)
  have yy1 := M.box_ y1 s2 (by simp)
  have zl1 := World.block_lt_of_cell? w4 _ Z0
  have zl2 := World.block_lt_of_cell? w4 _ yy0
  have HM := Lib.hid M
  clear X0 X1 y0 y1 yz M
  simp only at zl1 zl2
  go_wp2_with fail
  refine (heldFrame A2 B2 c2 d2 hs.length ls.length 1 w4 U2.rd (by omega) (by omega) (by omega) (by omega)).mono ?_
  rintro e w5 ⟨rfl, b5⟩
  have r5 := r4.trans (b5.mono (by have := r4.size; omega))
  have U5 := U1.below b5
  have V5 := U2.below b5
  have Y0 := cell_later Z0 b5
  have Y1 := cell_later Z1 b5
  have x0 := cell_later yy0 b5
  have x1 := cell_later yy1 b5
  clear Z0 Z1 yy0 yy1 zl1 zl2
  go_wp2_with fail
  refine (HIM.out _).mono ?_
  rintro e w6 ⟨A6, B6, c6, d6, rfl, s6, b6⟩
  have r6 := bstep r5 b6
  have U6 := U5.below b6
  have V6 := V5.below b6
  have Z0 := cell_later Y0 b6
  have Z1 := cell_later Y1 b6
  have yy0 := cell_later x0 b6
  have yy1 := cell_later x1 b6
  have zl1 := World.block_lt_of_cell? w6 _ Z0
  have zl2 := World.block_lt_of_cell? w6 _ yy0
  simp only at zl1 zl2
  clear Y0 Y1 x0 x1
  go_wp2_with fail
  refine (eqFrame_same A6 B6 A1 B1 c6 d6 c1 d1 hs ls _ (s6.rd.alloc _) (U6.alloc _) (by omega) (by omega)).mono ?_
  rintro e w7 ⟨rfl, b7⟩
  have q7 := bstep (below_alloc w6 (.cells #[.slice A6 hs.length c6, .slice B6 ls.length d6] 27)) b7
  have r7 := bstep r6 q7
  have V7 := V6.below q7
  have x0 := cell_later yy0 q7
  have x1 := cell_later yy1 q7
  clear Z0 Z1 yy0 yy1 zl1 zl2
  go_wp2_with fail
  refine (heldFrame A2 B2 c2 d2 hs.length ls.length 1 w7 V7.rd (by omega) (by omega) (by omega) (by omega)).mono ?_
  rintro e w8 ⟨rfl, b8⟩
  have r8 := bstep r7 b8
  go_wp2_with fail
  go_ret
  exact ⟨rfl, r8⟩

/-! The row's step, after the kit's own shell of such a proof. -/
set_option linter.unusedVariables false in
set_option maxRecDepth 100000 in
theorem lifted_FnExactFrameOf (os : Os) (started : os.Started) (H : Type) (enc : TypeId × Value → H) :
    ReturnsInHanded {} Try.checked os 6 .any (Rows.fnExactFrameOfSpec.pre6 enc Try.prog Try.f6 Rows.fnExactFrameOfRow.domain false) (Rows.fnExactFrameOfSpec.post enc Try.prog Try.f6 false true false false) := by
  refine returnsInHanded_of_change (C := Try.checked) own started (by kernel_rfl) Try.func6
    (ChangeSpec.witness6 (enc := enc) (C := Try.checked) false ⟨#[], #[.int .i64 0, .int .i64 0], []⟩ 8 (by kernel_rfl) (by kernel_rfl) (by kernel_rfl) (by kernel_rfl)) ?_
  intro W base args ds gs before hval0 hW hcnd _
  have hval : ∀ (j : Nat) t v, Try.f6.params[j]? = some t → args[j]? = some v → Value.okWide Try.prog W .any base t v := hval0
  have hW' := hW
  obtain ⟨p, q, hA0, hV, rfl, hfz, hnd⟩ := hW
  have hA : DataW.TrodAll enc Try.prog W 0 (fun _ => true) true Try.f6.params.toList args.toList ds p := hA0
  rw [Try.params6] at hA hval
  obtain ⟨v0, vs0, d0, ds0, p0, q0, hargs, rfl, rfl, h0, r0⟩ := trodAll_cons hA
  obtain ⟨v1, vs1, d1, ds1, p1, q1, rfl, rfl, rfl, h1, r1⟩ := trodAll_cons r0
  obtain ⟨rfl, rfl, rfl⟩ := trodAll_nil r1
  obtain rfl : args = #[v0, v1] := by cases args; simp_all
  obtain ⟨rfl, rfl⟩ := trodVars_none hV
  obtain ⟨a0, rfl, rfl, rfl, w0⟩ := open_int Try.underlying3 (hval 0 3 v0 rfl rfl) h0
  obtain ⟨a1, rfl, rfl, rfl, w1⟩ := open_int Try.underlying3 (hval 1 3 v1 rfl rfl) h1
  clear hA0 hval0
  refine (walk_FnExactFrameOf a0 a1 W w0 w1).mono fun e W' ⟨he, bel⟩ => ?_
  subst he
  exact ⟨_, rfl, _, _, _, [], _, [], hW', trodAll_mk1 (shut_bool Try.underlying4 _), (trodAll_cons_mk (shut_int Try.underlying3 w0) (trodAll_cons_mk (shut_int Try.underlying3 w1) trodAll_mk0)), rfl, bel.frame _, fun h => by cases h⟩

theorem over_FnExactFrameOf : Rows.fnExactFrameOfRow.holds Try.pinned (OpenSpec.ofChange Rows.fnExactFrameOfSpec) :=
  OpenClaim.holds_of_wide 6 Try.f6 rfl rfl rfl rfl rfl rfl rfl ⟨rfl, rfl, rfl, rfl, rfl⟩ rfl rfl rfl rfl rfl (by kernel_rfl) Try.func6 (by kernel_rfl)
    (of_decide_eq_true (by kernel_rfl)) (by unfold Func.isWrapper; first | (rw [if_pos (by decide +kernel)]; kernel_rfl) | (rw [if_neg (by decide +kernel)]; exact ⟨rfl, rfl⟩))
    (fun os started H enc _ => lifted_FnExactFrameOf os started H enc)

/-- The statement. -/
theorem holds_FnExactFrameOf : Rows.FnExactFrameOfSaid := over_FnExactFrameOf
#print axioms holds_FnExactFrameOf
end Go.Proofs.Ytfdbhaojdccomaa
