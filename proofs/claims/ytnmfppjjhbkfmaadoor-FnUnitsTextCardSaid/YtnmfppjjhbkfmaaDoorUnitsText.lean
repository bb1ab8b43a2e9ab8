/- The law FnUnitsText returns true for every input: units are written one by one. No condition beyond the card's. -/
import Derived.Test.YtnmfppjjhbkfmaaDoorUnI
import Derived.Test.YtnmfppjjhbkfmaaDoorUnD
import Derived.Deep.Light
import Derived.ProofKit
import Derived.LaidMore
import Derived.OpenShut
import Derived.Stop.Joined
import Derived.Stop.LaidErr
import Derived.Lib.LaidTab
import Derived.Test.YtnmfppjjhbkfmaaDoorCards
import Derived.Test.YtnmfppjjhbkfmaaDoorTie
namespace Go.Proofs.YtnmfppjjhbkfmaaDoor
open Go.ChangeShapes Go.WideShapes Go.ChangeAt Go.RowKit

theorem dtx_inj {a b : List UInt8} (h : dtx a = dtx b) : a = b := by
  have := congrArg (fun x : ByteArray => x.data.toList) h
  simpa [dtx] using this
theorem dtx_at (l : List UInt8) (T : ByteArray) (h : dtx l = T) (j : Nat) (hj : j < l.length) (hT : j < T.size) : T[j] = l[j] := by
  subst h
  rfl
theorem nth_set_ne {zs : List Int} {k i : Nat} {v : Int} (h : i ≠ k) : nth (zs.set k v) i = nth zs i := by
  unfold nth
  rw [List.getElem?_set_ne (fun e => h e.symm)]
theorem nth_set_eq {zs : List Int} {k : Nat} {v : Int} (h : k < zs.length) : nth (zs.set k v) k = v := by
  unfold nth
  rw [List.getElem?_set_self h]
  rfl
theorem decD_slash (m : Nat) : (Lib.decDigits m).count 47 = 0 := by
  rw [List.count_eq_zero]
  intro h
  have := decD_digit m _ h
  simp at this
theorem utx_slash (zs : List Int) : ∀ j, (utx zs j).count 47 = j
  | 0 => rfl
  | j + 1 => by
    rw [utx, List.count_append, List.count_append, List.count_append, utx_slash zs j, decD_slash]
    by_cases h : 0 < j
    · rw [if_pos h]; rfl
    · rw [if_neg h]; rfl
theorem utx_same {xs ys : List Int} {k : Nat} (h : ∀ i, i ≠ k → nth xs i = nth ys i) : ∀ j, j ≤ k → utx xs j = utx ys j
  | 0, _ => rfl
  | j + 1, hj => by rw [utx, utx, utx_same h j (by omega), h j (by omega)]
theorem utxt_ne {zs : List Int} {k : Nat} {v : Int} (hk : k + 1 = zs.length) (v0 : 0 ≤ v) (h0 : 0 ≤ nth zs k) (hne : v ≠ nth zs k) : utxt (zs.set k v) ≠ dtx (utx zs zs.length) := by
  intro he
  unfold utxt at he
  by_cases hu : untB (zs.set k v) = true
  · rw [if_pos hu, if_neg (fun h => by
      have := congrArg List.length h
      rw [List.length_set, ← hk] at this
      simp at this)] at he
    have := dtx_inj he
    rw [List.length_set, ← hk, utx, utx, utx_same (fun i hi => nth_set_ne hi) k (Nat.le_refl _), nth_set_eq (by omega)] at this
    have := decD_inj _ _ (List.append_cancel_left this)
    omega
  · rw [if_neg hu] at he
    have := congrArg (List.count 47) (dtx_inj he)
    rw [utx_slash] at this
    simp at this
    omega
theorem tab_of_laid {W : World} (h : laidMetH Tryd.prog [("math/bits.deBruijn32tab", Rows.laid_math_bits_deBruijn32tab), ("math/bits.deBruijn64tab", Rows.laid_math_bits_deBruijn64tab), ("internal/strconv.uint64pow10", Rows.laid_internal_strconv_uint64pow10)] W) : Tab W := by
  have h1 : laidMet Tryd.prog [("math/bits.deBruijn32tab", Rows.laid_math_bits_deBruijn32tab), ("math/bits.deBruijn64tab", Rows.laid_math_bits_deBruijn64tab), ("internal/strconv.uint64pow10", Rows.laid_internal_strconv_uint64pow10)] W := h
  have h2 := h1.tail.tail
  exact Lib.tabIs_of_head (P := Tryd.prog) (W := W) (name := "internal/strconv.uint64pow10") (k := .u64) (zs := Lib.pow10Tab) (rest := []) (g := (Tryd.prog.globalNamed "internal/strconv.uint64pow10").getD 0) (t := 72) (e := 63) (n := 20) (by kernel_rfl) (by kernel_rfl) (by kernel_rfl) (by kernel_rfl) (by kernel_rfl) (by kernel_rfl) h2

set_option maxRecDepth 100000 in
set_option maxHeartbeats 400000 in
theorem walk_FnUnitsText (A0 : Option Addr) (cap0 : Nat) (z0 : List Int) (w : World) (h0 : Came .u8 w A0 cap0 z0) (hTab : Tab w) :
    Calls Tryd.prog 3 #[.slice A0 z0.length cap0] w fun e w' => e = .returned (.bool true) ∧ Below w.heap.size w w' := by
  have hm0 := h0.ml
  by_cases hb0 : 1048576 < z0.length
  · go_enter Tryd.func3, Tryd.ntmps3
    go_wp2
    go_ret
    exact ⟨rfl, Below.refl _ _⟩
  have HTab := Lib.hid hTab
  clear hTab
  go_enter Tryd.func3, Tryd.ntmps3
  go_wp2_with fail
  refine (DrawUnitsText _ _ _ _ h0).mono ?_
  rintro e w1 ⟨A, c, zs, rfl, hnz, hl, r1, b1⟩
  clear h0
  go_wp2_with fail
  refine (impl_UnitsText A c zs w1 r1 (by omega) (HTab.out.below b1)).mono ?_
  rintro e w2 ⟨rfl, b2⟩
  have r2 := r1.below b2
  have q2 := bstep b1 b2
  clear b1 b2 r1
  go_wp2_with fail
  refine (spec_UnitsText A c zs w2 r2 (by omega)).mono ?_
  rintro e w3 ⟨rfl, b3⟩
  have r3 := r2.below b3
  have q3 := bstep q2 b3
  clear b3 r2 q2
  cases hf : untB zs
  · rw [show utxt zs = dtx [] by simp [utxt, hf], show dtx [] = { data := #[] } from rfl]
    go_wp2_with fail
    go_ret
    exact ⟨rfl, q3⟩
  by_cases hz : zs = []
  · subst hz
    rw [show utxt [] = dtx [48] by simp [utxt, hf], show dtx [48] = { data := #[48] } from rfl]
    clear hf
    have HQ3 := Lib.hid q3
    clear q3 r3 hnz
    go_wp2_with fail
    go_loopw [6, 7] (fun b i wr => ∃ j : Nat, j ≤ 1 ∧ i = .int .i64 (j : Int) ∧ b = .int .i64 0 ∧ wr = w3) (fun _ i _ => 1 - (intOf i).toNat)
    case atStart => exact ⟨0, Nat.zero_le _, rfl, rfl, rfl⟩
    case round =>
      obtain ⟨j, hj, rfl, rfl, rfl⟩ := hrel
      rcases (show j = 0 ∨ j = 1 by omega) with rfl | rfl
      · go_wp2_with fail
        go_roundw
        case rel => exact ⟨1, by omega, rfl, rfl, by first | rfl | trivial⟩
        case measure => simp [intOf]
      · go_wp2_with fail
        go_ret
        exact ⟨rfl, HQ3.out⟩
  · have hb8 : zs.length ≤ 8 ∧ ascTo zs zs.length = true := by simpa [untB] using hf
    have hok := asc_okI.1 hb8.2
    have hpos : 0 < zs.length := List.length_pos_iff.2 hz
    rw [show utxt zs = dtx (utx zs zs.length) by simp [utxt, hf, hz]]
    obtain ⟨K, hK⟩ : ∃ K : Nat, K + 1 = zs.length := ⟨zs.length - 1, by omega⟩
    have ⟨k2, k9, _⟩ := hok K (by omega)
    have hne := utxt_ne (zs := zs) (k := K) (v := nth zs K + 1) hK (by omega) (by omega) (by omega)
    have hLN := utx_slash zs zs.length
    have hTl : (utx zs zs.length).length ≤ 15 * zs.length := utx_len (fun k hk => (hok k hk).2.1) _ (Nat.le_refl _)
    obtain ⟨L, hL⟩ : ∃ L, utx zs zs.length = L := ⟨_, rfl⟩
    rw [hL] at hne hLN hTl ⊢
    obtain ⟨T, hT⟩ : ∃ T, dtx L = T := ⟨_, rfl⟩
    rw [hT] at hne ⊢
    have hTs : T.size = L.length := by rw [← hT, dtx_size]
    have hT0 : 0 < L.length := by
      have := List.count_le_length (a := (47 : UInt8)) (l := L)
      rw [hLN] at this
      omega
    have hTl0 : T.toList = L := by rw [Lib.toList_data, ← hT]; simp [dtx]
    have hTb : T.toList.isEmpty = false := by
      rw [hTl0]
      cases L with
      | nil => simp at hT0
      | cons x l => rfl
    have hT48 : (T.toList == [48]) = false := by
      rw [beq_eq_false_iff_ne, hTl0]
      intro e
      rw [e] at hLN
      simp at hLN
      omega
    have HTT := Lib.hid hT
    have HTS := Lib.hid hTs
    have HLN := Lib.hid hLN
    have HK := Lib.hid hK
    have HQ3 := Lib.hid q3
    have HR3 := Lib.hid r3
    have HNZ := Lib.hid hnz
    have HZN := Lib.hid hz
    have HNE := Lib.hid hne
    have hTsz : T.size ≤ 150 := by omega
    clear hLN hT hTs hf hok hb8 q3 r3 hnz hT0 hTl hTl0 hL hz hK hne
    go_wp2_with fail
    go_loopw [6, 7] (fun b i wr => ∃ j : Nat, j ≤ T.size ∧ i = .int .i64 (j : Int) ∧ b = .int .i64 (((L.take j).count 47 : Nat) : Int) ∧ wr = w3) (fun _ i _ => T.size - (intOf i).toNat)
    case atStart => exact ⟨0, Nat.zero_le _, rfl, rfl, rfl⟩
    case round =>
      obtain ⟨j, hj, rfl, rfl, rfl⟩ := hrel
      obtain ⟨n, hn⟩ : ∃ n, (L.take j).count 47 = n := ⟨_, rfl⟩
      have hnj : n ≤ 150 := by
        have := List.count_le_length (a := (47 : UInt8)) (l := L.take j)
        rw [List.length_take] at this
        have := HTS.out
        omega
      rw [hn]
      have HN := Lib.hid hn
      clear hn
      by_cases hlt : j < T.size
      · have hjl : j < L.length := by rw [← HTS.out]; exact hlt
        have htj : T[j] = L[j] := dtx_at _ T HTT.out j hjl hlt
        have HTK : Hid (L.take (j + 1) = L.take j ++ [T[j]]) := Lib.hid (by rw [htj, List.take_succ_eq_append_getElem hjl])
        obtain ⟨x, hx⟩ : ∃ x, T[j] = x := ⟨_, rfl⟩
        rw [hx] at HTK
        have hxn : T[j].toNat = x.toNat := by rw [hx]
        clear htj
        by_cases hxe : x = 47
        · subst hxe
          have hxn2 : T[j].toNat = 47 := hxn
          have HC : Hid ((L.take (j + 1)).count 47 = n + 1) := Lib.hid (by rw [HTK.out, List.count_append, HN.out]; rfl)
          clear hxn hx
          go_wp2_with fail
          go_roundw
          case rel => exact ⟨j + 1, by omega, by go_num, by rw [HC.out]; go_num, by first | rfl | trivial⟩
          case measure => simp [intOf]; omega
        · have hx47 : x.toNat ≠ 47 := fun h => hxe (UInt8.toNat_inj.1 h)
          have HC : Hid ((L.take (j + 1)).count 47 = n) := Lib.hid (by
            rw [HTK.out, List.count_append, HN.out, List.count_singleton]
            rw [if_neg (by simpa using hxe)]
            rfl)
          have hxb : (((x.toNat : Nat) : Int) == 47) = false := by
            rw [beq_eq_false_iff_ne]; omega
          clear hx hxe
          go_wp2_with fail
          go_roundw
          case rel => exact ⟨j + 1, by omega, by go_num, by rw [HC.out], by first | rfl | trivial⟩
          case measure => simp [intOf]; omega
      · obtain rfl : j = T.size := by omega
        obtain rfl : n = zs.length := by
          rw [← HN.out, HTS.out, List.take_length, HLN.out]
        clear hlt hj
        obtain ⟨v, hv⟩ : ∃ v : Int, nth zs K + 1 = v := ⟨_, rfl⟩
        have wv : IntKind.i64.wrap (nth zs K + 1) = v := by rw [← hv]; exact IntWalk.i64_in _ (by omega)
        have kI : (zs.length : Int) - 1 = (K : Int) := by have := HK.out; omega
        have wK : IntKind.i64.wrap ((zs.length : Int) - 1) = (K : Int) := by rw [kI]; exact IntWalk.i64_in _ (by have := HK.out; omega)
        have hkz : K < zs.length := by have := HK.out; omega
        have hl0 : ((zs.length : Int) == 0) = false := by
          rw [beq_eq_false_iff_ne]; omega
        rw [hv] at HNE
        have HS0 := Lib.hid (Sl.lit wr wr.heap.size (Nat.le_refl _) [] #[] rfl (by simp))
        have HRD := Lib.hid (HR3.out.alloc (.cells #[] 3))
        clear hv kI
        go_wp2_with (at_builtin; refine wp_apS _ _ rfl rfl _ wr.heap.size _ _ _ _ [] zs rfl rfl HS0.out HRD.out HNZ.out (by simp; omega) (by simp) ?_; intro A5 c5 w5 s5 g5 _; refine Hid.out ?_)
        have s5' : Sl w5 wr.heap.size A5 c5 zs := s5
        obtain ⟨a, rfl, al, au⟩ := s5'.addr HZN.out
        have hc := s5'.cell hkz
        have hfz := s5'.free K
        have HB5 := Lib.hid ((below_new wr (.cells #[] 3)).grown g5 (by simp) (fun j hj => by simp [blk] at hj; omega))
        have HS5 := Lib.hid (s5'.set_ K v)
        have HQ5 := Lib.hid ((bstep HQ3.out HB5.out).setCell (p := ⟨a, K, none⟩) (by have := HQ3.out.size; simp; omega) (.int .i64 v))
        have HI : Hid (∀ w', Below w.heap.size w w' → Rd .i64 w' (some ⟨a, 0, none⟩) (zs.set K v) → Calls Tryd.prog 6 #[.slice (some ⟨a, 0, none⟩) zs.length c5] w' fun e w2 => e = .returned (.string (utxt (zs.set K v))) ∧ Below w'.heap.size w' w2) := Lib.hid (fun w' hw hr => by
          have := impl_UnitsText (some ⟨a, 0, none⟩) c5 (zs.set K v) w' hr (by rw [List.length_set]; omega) (HTab.out.below hw)
          rwa [List.length_set] at this)
        obtain ⟨X, hX⟩ : ∃ X, utxt (zs.set K v) = X := ⟨_, rfl⟩
        rw [hX] at HI HNE
        clear s5 s5' g5 hX
        have hXT : (X.toList == T.toList) = false := by
          rw [beq_eq_false_iff_ne, Lib.toList_data, Lib.toList_data]
          intro e
          refine HNE.out ?_
          apply ByteArray.ext
          exact Array.toList_inj.1 e
        refine Lib.hid ?_
        go_wp2_with fail
        refine (HI.out _ HQ5.out HS5.out.rd).mono ?_
        rintro e w6 ⟨rfl, b6⟩
        go_wp2_with fail
        go_ret
        exact ⟨rfl, bstep HQ5.out b6⟩

theorem door_FnUnitsText (os : Os) (args : Array Value) : laidMetH Tryd.prog [("math/bits.deBruijn32tab", Rows.laid_math_bits_deBruijn32tab), ("math/bits.deBruijn64tab", Rows.laid_math_bits_deBruijn64tab), ("internal/strconv.uint64pow10", Rows.laid_internal_strconv_uint64pow10)] ((World.doorLaid Tryd.prog 400 os).forCall (fun _ _ => 0) ⟨#[], args, []⟩).memory :=
  laidMetH_of_parts3 (fuel := 8) (laidMet_of_run' 8 (by kernel_rfl) (by kernel_rfl)) (by kernel_rfl) (by kernel_rfl)
/-! The row's step, after the kit's own shell of such a proof. -/
set_option linter.unusedVariables false in
set_option maxRecDepth 100000 in
theorem lifted_FnUnitsText (os : Os) (started : os.Started) (H : Type) (enc : TypeId × Value → H) :
    ReturnsInHanded {} Tryd.checked os 3 .any (fun w args => (Rows.fnUnitsTextSpec.pre enc Tryd.prog Tryd.f3 [] false w args ∧ laidMetH Tryd.prog [("math/bits.deBruijn32tab", Rows.laid_math_bits_deBruijn32tab), ("math/bits.deBruijn64tab", Rows.laid_math_bits_deBruijn64tab), ("internal/strconv.uint64pow10", Rows.laid_internal_strconv_uint64pow10)] w) ∧ sizedMet enc Tryd.prog Tryd.f3 (OpenSpec.ofChange Rows.fnUnitsTextSpec) false w args) (Rows.fnUnitsTextSpec.post enc Tryd.prog Tryd.f3 false true false false) := by
  refine returnsInHanded_of_change_and (C := Tryd.checked) (X := fun w _ => laidMetH Tryd.prog [("math/bits.deBruijn32tab", Rows.laid_math_bits_deBruijn32tab), ("math/bits.deBruijn64tab", Rows.laid_math_bits_deBruijn64tab), ("internal/strconv.uint64pow10", Rows.laid_internal_strconv_uint64pow10)] w) (fun _ _ _ hh h => h.of_heap hh) own started (by kernel_rfl) Tryd.func3
    (ChangeSpec.witness_shaped (enc := enc) (C := Tryd.checked) (os := os) (X := fun w _ => laidMetH Tryd.prog [("math/bits.deBruijn32tab", Rows.laid_math_bits_deBruijn32tab), ("math/bits.deBruijn64tab", Rows.laid_math_bits_deBruijn64tab), ("internal/strconv.uint64pow10", Rows.laid_internal_strconv_uint64pow10)] w) false (World.doorLaid Tryd.prog 400 os) #[.slice none 0 0] 8 rfl (World.shaped_of_RefB (by kernel_rfl) (by kernel_rfl)) (by kernel_rfl) (by kernel_rfl) (by kernel_rfl) (door_FnUnitsText os _)) ?_
  intro W base args ds gs before hval0 hW _ _ hL _
  have hTab : Tab W := tab_of_laid hL
  have hval : ∀ (j : Nat) t v, Tryd.f3.params[j]? = some t → args[j]? = some v → Value.okWide Tryd.prog W .any base t v := hval0
  have hW' := hW
  obtain ⟨p, q, hA0, hV, rfl, hfz, hnd⟩ := hW
  have hA : DataW.TrodAll enc Tryd.prog W 0 (fun _ => true) true Tryd.f3.params.toList args.toList ds p := hA0
  rw [Tryd.params3] at hA hval
  obtain ⟨v0, vs0, d0, ds0, p0, q0, hargs, rfl, rfl, h0, r0⟩ := trodAll_cons hA
  obtain ⟨rfl, rfl, rfl⟩ := trodAll_nil r0
  obtain rfl : args = #[v0] := by cases args; simp_all
  obtain ⟨rfl, rfl⟩ := trodVars_none hV
  obtain ⟨A0, len0, cap0, rfl⟩ := okWide_slice Tryd.underlying22 (hval 0 22 v0 rfl rfl)
  have k0 := h0
  have lt0 : ∀ x ∈ p0, x.block < W.heap.size := by obtain ⟨m, hm⟩ := k0; exact DataW.trod_lt m _ _ _ hm
  obtain ⟨z0, rfl, w0⟩ := row_open Tryd.underlying22 Tryd.underlying5 (by kernel_rfl) h0
  clear hA0 hval0
  refine (walk_FnUnitsText A0 cap0 z0 W w0 hTab).mono fun e W' ⟨he, bel⟩ => ?_
  subst he
  exact ⟨_, rfl, _, _, _, [], _, [], hW', trodAll_mk1 (shut_bool Tryd.underlying4 _), (trodAll_cons_mk (Below.trod laidOut (by kernel_rfl) (of_decide_eq_true (by kernel_rfl)) k0 bel lt0) trodAll_mk0), rfl, bel.frame _, fun h => by cases h⟩

theorem over_FnUnitsText : Rows.fnUnitsTextRow.holds Tryd.pinned (OpenSpec.ofChange Rows.fnUnitsTextSpec) :=
  OpenClaim.holds_of_wide 3 Tryd.f3 rfl rfl rfl rfl rfl rfl rfl ⟨rfl, rfl, rfl, rfl, rfl⟩ rfl rfl rfl rfl rfl (by kernel_rfl) Tryd.func3 (by kernel_rfl)
    (of_decide_eq_true (by kernel_rfl)) (by unfold Func.isWrapper; first | (rw [if_pos (by decide +kernel)]; kernel_rfl) | (rw [if_neg (by decide +kernel)]; exact ⟨rfl, rfl⟩))
    (fun os started H enc _ => lifted_FnUnitsText os started H enc)

/-- The statement: the tied card. -/
theorem holds_FnUnitsText : Rows.FnUnitsTextCardSaid :=
  Claim7.holds_tied_plain_at .later [] [.data, .data, .data] true (true, "31716f0567f56a79c88d900291bebd3429b7992293564a648200ece226cb6653") false
    over_FnUnitsText (fun _ h => by cases h) (by kernel_rfl) (fun _ h => by cases h) fnUnitsText_row_tie rfl ⟨rfl, rfl⟩ (by kernel_rfl) rfl
    (fun f fn hf hfn => by
      obtain rfl : f = 3 := Option.some.inj ((show Tryd.prog.funcNamed "loop.example/countingboards/laws.FnUnitsText" = some 3 by kernel_rfl).symm.trans hf) |>.symm
      obtain rfl : fn = Tryd.f3 := (Option.some.inj (Tryd.func3.symm.trans hfn)).symm
      exact ⟨by kernel_rfl, fun j t ht => by
        rw [Tryd.params3] at ht
        have hm : t ∈ [22] := by simpa using Array.mem_of_getElem? ht
        have hall : ([22].all fun u => !Tryd.prog.wantsStandIn u) = true := by kernel_rfl
        exact (show Tryd.prog.wantsStandIn t = false by simpa using List.all_eq_true.1 hall t hm)⟩)
    (by kernel_rfl)
#print axioms holds_FnUnitsText
end Go.Proofs.YtnmfppjjhbkfmaaDoor
