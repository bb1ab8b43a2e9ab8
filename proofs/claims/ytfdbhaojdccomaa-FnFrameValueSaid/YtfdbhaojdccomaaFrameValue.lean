/- The law FnFrameValue returns true for every input: a frame is the sum of its digits. No condition. -/
import Derived.Test.YtfdbhaojdccomaaSame
import Derived.Test.YtfdbhaojdccomaaDrawG
import Derived.Test.YtfdbhaojdccomaaVal
import Derived.Test.YtfdbhaojdccomaaFrOfS
namespace Go.Proofs.Ytfdbhaojdccomaa
open Go.ChangeShapes Go.WideShapes Go.ChangeAt Go.RowKit

theorem fdig_dg {hs ls : List Int} (ok : FrOk hs ls) {k : Nat} (h : k < hs.length) : fdig hs ls (k : Int) = dg hs ls k := by
  unfold fdig
  rw [ok_frB ok, inB_of (by omega) (by omega)]
  simp
theorem FrameOf_back {hs ls : List Int} (ok : FrOk hs ls) (w : World) : Calls Try.prog 23 #[.int .i64 (hs.length : Int), .int .i64 (fvU hs ls hs.length)] w (FrPost w hs ls true) := by
  have n1 := ok.n1; have n6 := ok.n6
  obtain ⟨f0, f1⟩ := ok.fvU (Nat.le_refl _)
  have hb : ofB (hs.length : Int) (fvU hs ls hs.length) = true := ofB_y (inB_of (by omega) (by omega)) (inB_of f0 (by rw [Int.toNat_natCast]; omega))
  have h := impl_FrameOf (hs.length : Int) (fvU hs ls hs.length) w
  obtain ⟨e1, e2⟩ := ofV_val ok
  rw [show ofHs (hs.length : Int) (fvU hs ls hs.length) = hs by rw [ofHs, if_pos hb, Int.toNat_natCast]; exact e1, show ofLs (hs.length : Int) (fvU hs ls hs.length) = ls by rw [ofLs, if_pos hb, Int.toNat_natCast]; exact e2, hb] at h
  exact h

set_option maxRecDepth 100000 in
set_option maxHeartbeats 1000000 in
theorem walk_FnFrameValue (A0 : Option Addr) (cap0 : Nat) (z0 : List Int) (w : World) (h0 : Came .u8 w A0 cap0 z0) :
    Calls Try.prog 12 #[.slice A0 z0.length cap0] w fun e w' => e = .returned (.bool true) ∧ Below w.heap.size w w' := by
  have hm := h0.ml
  by_cases hbig : 1048576 < z0.length
  · go_enter Try.func12, Try.ntmps12
    go_wp2
    go_ret
    exact ⟨rfl, Below.refl _ _⟩
  go_enter Try.func12, Try.ntmps12
  go_wp2_with fail
  refine (DrawFrameValue _ _ _ _ h0).mono ?_
  rintro e w1 ⟨A, B, c, d, hs, ls, rfl, r1, lh, ll, b1⟩
  go_wp2_with fail
  refine (impl_FrameValue _ _ _ _ _ _ _ (r1.alloc _) (by omega) (by omega)).mono ?_
  rintro e w2 ⟨rfl, b2⟩
  have q2 := bstep (below_alloc w1 (.cells #[.slice A hs.length c, .slice B ls.length d] 27)) b2
  have X2 := Bx.after b2
  have R2 := r1.below q2
  have r2 := bstep b1 q2
  obtain ⟨x0, x1, xl⟩ := X2.facts
  clear b1 b2 q2 r1
  go_wp2_with fail
  refine (spec_FrameValue _ _ _ _ _ _ _ R2 (by omega) (by omega)).mono ?_
  rintro e w3 ⟨rfl, b3⟩
  have X3 := X2.below b3
  have R3 := R2.below b3
  have r3 := bstep r2 b3
  clear x0 x1 xl X2 R2 r2 b3
  by_cases hneg : fval hs ls < 0
  · go_wp2_with fail
    go_ret
    exact ⟨rfl, r3⟩
  have hval : frB hs ls = true := by
    cases hb : frB hs ls
    · simp [fval, hb] at hneg
    · rfl
  have ok := frB_ok hval
  have n6 := ok.n6
  have HV : Hid (fval hs ls = fvU hs ls hs.length) := Lib.hid (by simp [fval, hval])
  obtain ⟨f0, f1⟩ := ok.fvU (Nat.le_refl _)
  clear hneg hval
  rw [HV.out]
  have hneg' : decide (fvU hs ls hs.length < 0) = false := by simp; omega
  have x3 := X3.facts
  obtain ⟨x0, x1, xl⟩ := x3
  go_wp2_with fail
  have HX := Lib.hid X3
  have HR := Lib.hid R3
  have H3 := Lib.hid r3
  clear x0 x1 xl X3 R3 r3
  go_loopw [6, 7] (fun q i wr => ∃ k : Nat, k ≤ hs.length ∧ i = .int .i64 k ∧ q = .int .i64 (fvU hs ls k) ∧ Below w3.heap.size w3 wr) (fun _ i _ => hs.length - (intOf i).toNat)
  case atStart => exact ⟨0, Nat.zero_le _, rfl, rfl, Below.refl _ _⟩
  case round =>
    obtain ⟨k, hk, rfl, rfl, bw⟩ := hrel
    obtain ⟨x0, x1, xl⟩ := (HX.out.below bw).facts
    have R4 := HR.out.below bw
    have ⟨g0, g1⟩ := ok.fvU hk
    have pk := p10_mono (i := k) (j := 6) (by omega)
    rw [show p10 6 = 1000000 from rfl] at pk
    by_cases hlt : k < hs.length
    · have ⟨a0, a1⟩ := ok.dg hlt
      have pp := p10_pos k
      have m0 : 0 ≤ dg hs ls k * p10 k := Int.mul_nonneg (by omega) (by omega)
      have m1 : dg hs ls k * p10 k ≤ 9 * 1000000 := Int.mul_le_mul (by omega) (by omega) (by omega) (by omega)
      have HS : Hid (fvU hs ls (k + 1) = fvU hs ls k + dg hs ls k * p10 k) := Lib.hid rfl
      go_wp2_with fail
      refine (impl_FrameDigit _ _ _ _ _ _ (k : Int) _ R4 (by omega) (by omega)).mono ?_
      rintro e w4 ⟨rfl, b4⟩
      rw [fdig_dg ok hlt]
      have bw4 := bstep bw b4
      clear x0 x1 xl R4 b4
      go_wp2_with fail
      refine (tenTo k (by omega) _).mono ?_
      rintro e w' ⟨rfl, rfl⟩
      go_wp2_with fail
      go_roundw
      case rel => exact ⟨k + 1, by omega, by go_num, by rw [HS.out], bw4⟩
      case measure => simp [intOf]; omega
    · obtain rfl : k = hs.length := by omega
      go_wp2_with fail
      refine (FrameOf_back ok _).mono ?_
      rintro e w5 ⟨A5, B5, c5, d5, rfl, s5, b5⟩
      have bw5 := bstep bw b5
      clear x0 x1 xl R4
      obtain ⟨x0, x1, xl⟩ := (HX.out.below bw5).facts
      have R5 := HR.out.below bw5
      have hee : (fvU hs ls hs.length == fvU hs ls hs.length) = true := by simp
      go_wp2_with fail
      refine (sameFrame A5 B5 A B c5 d5 c d hs ls hs ls _ (s5.rd.alloc _) (R5.alloc _) (by omega) (by omega) (by omega) (by omega)).mono ?_
      rintro e w6 ⟨rfl, b6⟩
      rw [eqF_self]
      have H6 := Lib.hid (bstep H3.out (bstep bw5 (bstep (below_alloc w5 (.cells #[.slice A5 hs.length c5, .slice B5 ls.length d5] 27)) b6)))
      clear x0 x1 xl R5 b6
      go_wp2_with fail
      go_ret
      exact ⟨rfl, H6.out⟩

/-! The row's step, after the kit's own shell of such a proof. -/
set_option linter.unusedVariables false in
set_option maxRecDepth 100000 in
theorem lifted_FnFrameValue (os : Os) (started : os.Started) (H : Type) (enc : TypeId × Value → H) :
    ReturnsInHanded {} Try.checked os 12 .any (Rows.fnFrameValueSpec.pre6 enc Try.prog Try.f12 Rows.fnFrameValueRow.domain false) (Rows.fnFrameValueSpec.post enc Try.prog Try.f12 false true false false) := by
  refine returnsInHanded_of_change (C := Try.checked) own started (by kernel_rfl) Try.func12
    (ChangeSpec.witness6 (enc := enc) (C := Try.checked) false ⟨#[], #[.slice none 0 0], []⟩ 8 (by kernel_rfl) (by kernel_rfl) (by kernel_rfl) (by kernel_rfl)) ?_
  intro W base args ds gs before hval0 hW hcnd _
  have hval : ∀ (j : Nat) t v, Try.f12.params[j]? = some t → args[j]? = some v → Value.okWide Try.prog W .any base t v := hval0
  have hW' := hW
  obtain ⟨p, q, hA0, hV, rfl, hfz, hnd⟩ := hW
  have hA : DataW.TrodAll enc Try.prog W 0 (fun _ => true) true Try.f12.params.toList args.toList ds p := hA0
  rw [Try.params12] at hA hval
  obtain ⟨v0, vs0, d0, ds0, p0, q0, hargs, rfl, rfl, h0, r0⟩ := trodAll_cons hA
  obtain ⟨rfl, rfl, rfl⟩ := trodAll_nil r0
  obtain rfl : args = #[v0] := by cases args; simp_all
  obtain ⟨rfl, rfl⟩ := trodVars_none hV
  obtain ⟨A0, len0, cap0, rfl⟩ := okWide_slice Try.underlying40 (hval 0 40 v0 rfl rfl)
  have k0 := h0
  have lt0 : ∀ x ∈ p0, x.block < W.heap.size := by obtain ⟨m, hm⟩ := k0; exact DataW.trod_lt m _ _ _ hm
  obtain ⟨z0, rfl, w0⟩ := row_open Try.underlying40 Try.underlying5 (by kernel_rfl) h0
  clear hA0 hval0
  refine (walk_FnFrameValue A0 cap0 z0 W w0).mono fun e W' ⟨he, bel⟩ => ?_
  subst he
  exact ⟨_, rfl, _, _, _, [], _, [], hW', trodAll_mk1 (shut_bool Try.underlying4 _), (trodAll_cons_mk (Below.trod laidOut (by kernel_rfl) (of_decide_eq_true (by kernel_rfl)) k0 bel lt0) trodAll_mk0), rfl, bel.frame _, fun h => by cases h⟩

theorem over_FnFrameValue : Rows.fnFrameValueRow.holds Try.pinned (OpenSpec.ofChange Rows.fnFrameValueSpec) :=
  OpenClaim.holds_of_wide 12 Try.f12 rfl rfl rfl rfl rfl rfl rfl ⟨rfl, rfl, rfl, rfl, rfl⟩ rfl rfl rfl rfl rfl (by kernel_rfl) Try.func12 (by kernel_rfl)
    (of_decide_eq_true (by kernel_rfl)) (by unfold Func.isWrapper; first | (rw [if_pos (by decide +kernel)]; kernel_rfl) | (rw [if_neg (by decide +kernel)]; exact ⟨rfl, rfl⟩))
    (fun os started H enc _ => lifted_FnFrameValue os started H enc)

/-- The statement. -/
theorem holds_FnFrameValue : Rows.FnFrameValueSaid := over_FnFrameValue
#print axioms holds_FnFrameValue
end Go.Proofs.Ytfdbhaojdccomaa
