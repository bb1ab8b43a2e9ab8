/- The law FnFrameOf returns true for every input: a value has one frame. No condition beyond the card's. -/
import Derived.Test.YtfdbhaojdccomaaDoorFoLaw
import Derived.Test.YtfdbhaojdccomaaDoorDrawFO
import Derived.Test.YtfdbhaojdccomaaDoorSame
import Derived.Test.YtfdbhaojdccomaaDoorVal
import Derived.Test.YtfdbhaojdccomaaDoorTxt
import Derived.Deep.Light
import Derived.ProofKit
import Derived.LaidMore
import Derived.OpenShut
import Derived.Stop.Joined
import Derived.Test.YtfdbhaojdccomaaDoorCards
import Derived.Test.YtfdbhaojdccomaaDoorTie
namespace Go.Proofs.YtfdbhaojdccomaaDoor
open Go.ChangeShapes Go.WideShapes Go.ChangeAt Go.RowKit

theorem ftx_at (hs ls : List Int) (n : Nat) : ∀ (j i : Nat), i < j → (ftx hs ls n j)[i]? = some (dlt (dg hs ls (n - 1 - i)).toNat)
  | 0, i, h => by omega
  | j + 1, i, h => by
    rw [ftx]
    rcases Nat.lt_or_ge i j with h1 | h1
    · rw [List.getElem?_append_left (by rw [ftx_len]; exact h1)]
      exact ftx_at hs ls n j i h1
    · obtain rfl : i = j := by omega
      rw [List.getElem?_append_right (by rw [ftx_len]; omega), ftx_len, Nat.sub_self]
      rfl
theorem stx_at {l : List UInt8} {i : Nat} {c : UInt8} (h : l[i]? = some c) (hi : i < (stx l).size) : (stx l)[i] = c := by
  have h2 : i < l.length := (List.getElem?_eq_some_iff.1 h).1
  have : (stx l)[i] = l[i] := rfl
  refine this.trans ?_
  rw [List.getElem?_eq_getElem h2] at h
  injection h

/-- What is known of a valid value's frame. -/
structure FoOk (m : Nat) (v : Int) (hs ls : List Int) : Prop where
  m1 : 1 ≤ m
  m6 : m ≤ 6
  v0 : 0 ≤ v
  v1 : v < 1000000
  hl : hs.length = m
  ll : ls.length = m
  ok : FrOk hs ls
  val : fval hs ls = v
  dg : ∀ k, k < m → dg hs ls k = v / p10 k % 10
theorem foOk {n v : Int} (h : ofB n v = true) : ∃ m : Nat, n = (m : Int) ∧ FoOk m v (ofHs n v) (ofLs n v) := by
  have h2 := h
  simp only [ofB, Bool.and_eq_true] at h2
  have ⟨n1, n6⟩ := inB_t h2.1
  have ⟨v0, v1⟩ := inB_t h2.2
  obtain ⟨m, rfl⟩ : ∃ m : Nat, n = (m : Int) := ⟨n.toNat, by omega⟩
  rw [Int.toNat_natCast] at v1
  have m1 : 1 ≤ m := by omega
  have m6 : m ≤ 6 := by omega
  have hp := p10_bd m6
  rw [show ofHs (m : Int) v = ofH v m by rw [ofHs, if_pos h, Int.toNat_natCast], show ofLs (m : Int) v = ofL v m by rw [ofLs, if_pos h, Int.toNat_natCast]]
  exact ⟨m, rfl, m1, m6, v0, by omega, ofH_len v m, ofL_len v m, ofV_ok v m1 m6, fval_of m1 m6 v0 (by omega), fun k hk => dg_of v hk⟩
theorem ofHs_le (n v : Int) : (ofHs n v).length ≤ 6 ∧ (ofLs n v).length ≤ 6 := by
  cases h : ofB n v
  · simp [ofHs, ofLs, h]
  · obtain ⟨m, _, f⟩ := foOk h
    have := f.hl
    have := f.ll
    have := f.m6
    omega

set_option maxRecDepth 100000 in
set_option maxHeartbeats 2000000 in
theorem walk_FnFrameOf (A0 : Option Addr) (cap0 : Nat) (z0 : List Int) (w : World) (h0 : Came .u8 w A0 cap0 z0) :
    Calls Tryd.prog 4 #[.slice A0 z0.length cap0] w fun e w' => e = .returned (.bool true) ∧ Below w.heap.size w w' := by
  have hm := h0.ml
  by_cases hbig : 1048576 < z0.length
  · go_enter Tryd.func4, Tryd.ntmps4
    go_wp2
    go_ret
    exact ⟨rfl, Below.refl _ _⟩
  go_enter Tryd.func4, Tryd.ntmps4
  go_wp2_with fail
  refine (DrawFrameOf _ _ _ _ h0).mono ?_
  rintro e w1 ⟨n, v, n0, n7, v0, v6, rfl, b1⟩
  obtain ⟨lh, ll⟩ := ofHs_le n v
  have impl := fun w => impl_FrameOf n v w
  have spec := fun w => spec_FrameOf n v w
  have HOK := Lib.hid (fun h => foOk (n := n) (v := v) h)
  generalize ofHs n v = hs at *
  generalize ofLs n v = ls at *
  cases hok : ofB n v
  · rw [hok] at impl spec
    have HIM := Lib.hid impl
    have HSP := Lib.hid spec
    clear impl spec hok HOK
    go_wp2_with fail
    refine (HIM.out _).mono ?_
    rintro e w2 ⟨A2, B2, c2, d2, rfl, s2, b2⟩
    have r2 := bstep b1 b2
    go_wp2_with fail
    refine (HSP.out _).mono ?_
    rintro e w3 ⟨A3, B3, c3, d3, rfl, s3, b3⟩
    have q3 := bstep (below_alloc w2 (.cells #[.slice A2 hs.length c2, .slice B2 ls.length d2] 27)) b3
    have r3 := bstep r2 q3
    have X3 := Bx.after b3
    have R3 := s2.rd.below q3
    obtain ⟨x0, x1, xl⟩ := X3.facts
    clear b1 b2 b3 q3 r2 s2
    go_wp2_with fail
    refine (sameFrame A2 B2 A3 B3 c2 d2 c3 d3 hs ls hs ls _ (R3.alloc _) (s3.rd.alloc _) (by omega) (by omega) (by omega) (by omega)).mono ?_
    rintro e w4 ⟨rfl, b4⟩
    rw [eqF_self]
    have q4 := bstep (below_alloc w3 (.cells #[.slice A3 hs.length c3, .slice B3 ls.length d3] 27)) b4
    have r4 := bstep r3 q4
    have X4 := X3.below q4
    have Y4 := Bx.after b4
    have R4 := R3.below q4
    have S4 := s3.rd.below q4
    clear x0 x1 xl X3 R3 s3 r3 b4 q4
    obtain ⟨x0, x1, xl⟩ := X4.facts
    obtain ⟨y0, y1, yl⟩ := Y4.facts
    go_wp2_with fail
    refine (sameFrame A2 B2 A3 B3 c2 d2 c3 d3 hs ls hs ls _ R4 S4 (by omega) (by omega) (by omega) (by omega)).mono ?_
    rintro e w5 ⟨rfl, b5⟩
    rw [eqF_self]
    go_wp2_with fail
    go_ret
    exact ⟨rfl, bstep r4 b5⟩
  · obtain ⟨m, rfl, F⟩ := HOK.out hok
    rw [hok] at impl spec
    have HIM := Lib.hid impl
    have HSP := Lib.hid spec
    have m1 := F.m1
    have m6 := F.m6
    have HF := Lib.hid F
    have HT : Hid (ftxt hs ls = stx (ftx hs ls m m)) := Lib.hid (by rw [ftxt, if_pos (ok_frT F.ok), F.hl])
    clear impl spec hok HOK F
    go_wp2_with fail
    refine (HIM.out _).mono ?_
    rintro e w2 ⟨A2, B2, c2, d2, rfl, s2, b2⟩
    have r2 := bstep b1 b2
    go_wp2_with fail
    refine (HSP.out _).mono ?_
    rintro e w3 ⟨A3, B3, c3, d3, rfl, s3, b3⟩
    have q3 := bstep (below_alloc w2 (.cells #[.slice A2 hs.length c2, .slice B2 ls.length d2] 27)) b3
    have r3 := bstep r2 q3
    have X3 := Bx.after b3
    have R3 := s2.rd.below q3
    obtain ⟨x0, x1, xl⟩ := X3.facts
    clear b1 b2 b3 q3 r2 s2
    go_wp2_with fail
    refine (sameFrame A2 B2 A3 B3 c2 d2 c3 d3 hs ls hs ls _ (R3.alloc _) (s3.rd.alloc _) (by omega) (by omega) (by omega) (by omega)).mono ?_
    rintro e w4 ⟨rfl, b4⟩
    rw [eqF_self]
    have q4 := bstep (below_alloc w3 (.cells #[.slice A3 hs.length c3, .slice B3 ls.length d3] 27)) b4
    have r4 := bstep r3 q4
    have X4 := X3.below q4
    have R4 := R3.below q4
    clear x0 x1 xl X3 R3 s3 r3 b4 q4
    go_wp2_with fail
    refine (impl_NumeralOf v _ HF.out.v0 HF.out.v1).mono ?_
    rintro e w5 ⟨A5, c5, q, rfl, q1, q6, hq, s5, b5⟩
    have r5 := bstep r4 b5
    have X5 := X4.below b5
    have R5 := R4.below b5
    have HQ := Lib.hid hq
    clear X4 R4 r4 b5 hq
    obtain ⟨x0, x1, xl⟩ := X5.facts
    go_wp2_with fail
    refine (impl_FrameText A2 B2 c2 d2 hs ls _ R5 (by omega) (by omega)).mono ?_
    rintro e w6 ⟨rfl, b6⟩
    rw [HT.out]
    have r6 := bstep r5 b6
    have X6 := X5.below b6
    have R6 := R5.below b6
    have s6 := s5.below b6
    clear x0 x1 xl X5 R5 s5 r5 b6
    obtain ⟨x0, x1, xl⟩ := X6.facts
    obtain ⟨T, hT⟩ : ∃ T, stx (ftx hs ls m m) = T := ⟨_, rfl⟩
    rw [hT]
    have hTs : T.size = m := by rw [← hT, stx_size, ftx_len]
    have hTb : ((T.size : Int) != (m : Int)) = false := by rw [hTs]; simp
    have HTT := Lib.hid hT
    have HTS := Lib.hid hTs
    clear hT hTs
    go_wp2_with fail
    refine (impl_FrameValue A2 B2 c2 d2 hs ls _ R6 (by omega) (by omega)).mono ?_
    rintro e w7 ⟨rfl, b7⟩
    rw [HF.out.val]
    have r7 := bstep r6 b7
    have s7 := s6.below b7
    clear x0 x1 xl X6 R6 s6 r6 b7
    obtain ⟨g, rfl, _, hgl⟩ := s7.addr (by intro h; have := dl_len v q q; rw [h] at this; simp at this; omega)
    have HS7 := Lib.hid s7
    clear s7
    go_wp2_with fail
    go_loopw [12] (fun i wr => ∃ j : Nat, j ≤ m ∧ i = .int .i64 (j : Int) ∧ wr = w7) (fun i _ => m - (intOf i).toNat)
    case atStart => exact ⟨0, Nat.zero_le _, rfl, rfl⟩
    case round =>
      obtain ⟨j, hj, rfl, rfl⟩ := hrel
      by_cases hlt : j < m
      · obtain ⟨k, hk⟩ : ∃ k : Nat, (m : Int) - 1 - (j : Int) = (k : Int) := ⟨m - 1 - j, by omega⟩
        have hkn : m - 1 - j = k := by omega
        have hkm : k < m := by omega
        have hd := HF.out.dg k hkm
        obtain ⟨x, hx⟩ : ∃ x : Nat, v / p10 k % 10 = (x : Int) := ⟨(v / p10 k % 10).toNat, by omega⟩
        have x9 : x ≤ 9 := by omega
        have hjT : j < T.size := by rw [HTS.out]; exact hlt
        have htj : T[j].toNat = 48 + x := by
          have h1 := ftx_at hs ls m m j hlt
          rw [hkn, hd, hx, Int.toNat_natCast] at h1
          have h2 := HTT.out
          subst h2
          rw [stx_at h1 hjT, dlt_nat]
          omega
        have wA : IntKind.i64.wrap ((m : Int) - 1) = (m : Int) - 1 := IntWalk.i64_in _ (by omega)
        have wB : IntKind.i64.wrap (k : Int) = (k : Int) := IntWalk.i64_in _ (by omega)
        have HKM := Lib.hid hkm
        by_cases hkq : k < q
        · obtain ⟨K, hK⟩ : ∃ K : Nat, (q : Int) - 1 - (k : Int) = (K : Int) := ⟨q - 1 - k, by omega⟩
          have hcell := HS7.out.cell (j := K) (by rw [dl_len]; omega)
          have hKq : K < q := by omega
          rw [show K = q - 1 - k by omega, dl_at hkq, hx, show q - 1 - k = K by omega] at hcell
          have wC : IntKind.i64.wrap ((q : Int) - 1) = (q : Int) - 1 := IntWalk.i64_in _ (by omega)
          have wD : IntKind.i64.wrap (K : Int) = (K : Int) := IntWalk.i64_in _ (by omega)
          clear hd hx hkn
          go_wp2_with fail
          go_roundw
          case rel => exact ⟨j + 1, by omega, by go_num, by first | rfl | trivial⟩
          case measure => simp [intOf]; omega
        · have hz : x = 0 := by
            have := dig_zero HF.out.v0 HQ.out (Nat.le_of_not_lt hkq)
            omega
          subst hz
          clear hd hx hkn
          go_wp2_with fail
          go_roundw
          case rel => exact ⟨j + 1, by omega, by go_num, by first | rfl | trivial⟩
          case measure => simp [intOf]; omega
      · go_wp2_with fail
        go_ret
        exact ⟨rfl, r7⟩

theorem door_FnFrameOf (os : Os) (args : Array Value) : laidMetH Tryd.prog [("math/bits.deBruijn32tab", Rows.laid_math_bits_deBruijn32tab), ("math/bits.deBruijn64tab", Rows.laid_math_bits_deBruijn64tab), ("internal/strconv.uint64pow10", Rows.laid_internal_strconv_uint64pow10)] ((World.doorLaid Tryd.prog 400 os).forCall (fun _ _ => 0) ⟨#[], args, []⟩).memory :=
  laidMetH_of_parts3 (fuel := 8) (laidMet_of_run' 8 (by kernel_rfl) (by kernel_rfl)) (by kernel_rfl) (by kernel_rfl)
/-! The row's step, after the kit's own shell of such a proof. -/
set_option linter.unusedVariables false in
set_option maxRecDepth 100000 in
theorem lifted_FnFrameOf (os : Os) (started : os.Started) (H : Type) (enc : TypeId × Value → H) :
    ReturnsInHanded {} Tryd.checked os 4 .any (fun w args => (Rows.fnFrameOfSpec.pre enc Tryd.prog Tryd.f4 [] false w args ∧ laidMetH Tryd.prog [("math/bits.deBruijn32tab", Rows.laid_math_bits_deBruijn32tab), ("math/bits.deBruijn64tab", Rows.laid_math_bits_deBruijn64tab), ("internal/strconv.uint64pow10", Rows.laid_internal_strconv_uint64pow10)] w) ∧ sizedMet enc Tryd.prog Tryd.f4 (OpenSpec.ofChange Rows.fnFrameOfSpec) false w args) (Rows.fnFrameOfSpec.post enc Tryd.prog Tryd.f4 false true false false) := by
  refine returnsInHanded_of_change_and (C := Tryd.checked) (X := fun w _ => laidMetH Tryd.prog [("math/bits.deBruijn32tab", Rows.laid_math_bits_deBruijn32tab), ("math/bits.deBruijn64tab", Rows.laid_math_bits_deBruijn64tab), ("internal/strconv.uint64pow10", Rows.laid_internal_strconv_uint64pow10)] w) (fun _ _ _ hh h => h.of_heap hh) own started (by kernel_rfl) Tryd.func4
    (ChangeSpec.witness_shaped (enc := enc) (C := Tryd.checked) (os := os) (X := fun w _ => laidMetH Tryd.prog [("math/bits.deBruijn32tab", Rows.laid_math_bits_deBruijn32tab), ("math/bits.deBruijn64tab", Rows.laid_math_bits_deBruijn64tab), ("internal/strconv.uint64pow10", Rows.laid_internal_strconv_uint64pow10)] w) false (World.doorLaid Tryd.prog 400 os) #[.slice none 0 0] 8 rfl (World.shaped_of_RefB (by kernel_rfl) (by kernel_rfl)) (by kernel_rfl) (by kernel_rfl) (by kernel_rfl) (door_FnFrameOf os _)) ?_
  intro W base args ds gs before hval0 hW _ _ _ _
  have hval : ∀ (j : Nat) t v, Tryd.f4.params[j]? = some t → args[j]? = some v → Value.okWide Tryd.prog W .any base t v := hval0
  have hW' := hW
  obtain ⟨p, q, hA0, hV, rfl, hfz, hnd⟩ := hW
  have hA : DataW.TrodAll enc Tryd.prog W 0 (fun _ => true) true Tryd.f4.params.toList args.toList ds p := hA0
  rw [Tryd.params4] at hA hval
  obtain ⟨v0, vs0, d0, ds0, p0, q0, hargs, rfl, rfl, h0, r0⟩ := trodAll_cons hA
  obtain ⟨rfl, rfl, rfl⟩ := trodAll_nil r0
  obtain rfl : args = #[v0] := by cases args; simp_all
  obtain ⟨rfl, rfl⟩ := trodVars_none hV
  obtain ⟨A0, len0, cap0, rfl⟩ := okWide_slice Tryd.underlying31 (hval 0 31 v0 rfl rfl)
  have k0 := h0
  have lt0 : ∀ x ∈ p0, x.block < W.heap.size := by obtain ⟨m, hm⟩ := k0; exact DataW.trod_lt m _ _ _ hm
  obtain ⟨z0, rfl, w0⟩ := row_open Tryd.underlying31 Tryd.underlying5 (by kernel_rfl) h0
  clear hA0 hval0
  refine (walk_FnFrameOf A0 cap0 z0 W w0).mono fun e W' ⟨he, bel⟩ => ?_
  subst he
  exact ⟨_, rfl, _, _, _, [], _, [], hW', trodAll_mk1 (shut_bool Tryd.underlying4 _), (trodAll_cons_mk (Below.trod laidOut (by kernel_rfl) (of_decide_eq_true (by kernel_rfl)) k0 bel lt0) trodAll_mk0), rfl, bel.frame _, fun h => by cases h⟩

theorem over_FnFrameOf : Rows.fnFrameOfRow.holds Tryd.pinned (OpenSpec.ofChange Rows.fnFrameOfSpec) :=
  OpenClaim.holds_of_wide 4 Tryd.f4 rfl rfl rfl rfl rfl rfl rfl ⟨rfl, rfl, rfl, rfl, rfl⟩ rfl rfl rfl rfl rfl (by kernel_rfl) Tryd.func4 (by kernel_rfl)
    (of_decide_eq_true (by kernel_rfl)) (by unfold Func.isWrapper; first | (rw [if_pos (by decide +kernel)]; kernel_rfl) | (rw [if_neg (by decide +kernel)]; exact ⟨rfl, rfl⟩))
    (fun os started H enc _ => lifted_FnFrameOf os started H enc)

/-- The statement: the tied card. -/
theorem holds_FnFrameOf : Rows.FnFrameOfCardSaid :=
  Claim7.holds_tied_plain_at .later [] [.data, .data, .data] true (true, "f36b6f2d1d0f9051407cfe688a354fb596cd1cc2b11c467f808d5a033451decc") false
    over_FnFrameOf (fun _ h => by cases h) (by kernel_rfl) (fun _ h => by cases h) fnFrameOf_row_tie rfl ⟨rfl, rfl⟩ (by kernel_rfl) rfl
    (fun f fn hf hfn => by
      obtain rfl : f = 4 := Option.some.inj ((show Tryd.prog.funcNamed "loop.example/countingboards/laws.FnFrameOf" = some 4 by kernel_rfl).symm.trans hf) |>.symm
      obtain rfl : fn = Tryd.f4 := (Option.some.inj (Tryd.func4.symm.trans hfn)).symm
      exact ⟨by kernel_rfl, fun j t ht => by
        rw [Tryd.params4] at ht
        have hm : t ∈ [31] := by simpa using Array.mem_of_getElem? ht
        have hall : ([31].all fun u => !Tryd.prog.wantsStandIn u) = true := by kernel_rfl
        exact (show Tryd.prog.wantsStandIn t = false by simpa using List.all_eq_true.1 hall t hm)⟩)
    (by kernel_rfl)
#print axioms holds_FnFrameOf
end Go.Proofs.YtfdbhaojdccomaaDoor
