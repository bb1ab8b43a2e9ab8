/- The law FnBoardText returns true for every input: different boards have different texts. No condition beyond the card's. -/
import Derived.Test.YtnmfppjjhbkfmaaDoorBrdT
import Derived.Test.YtnmfppjjhbkfmaaDoorBrdD
import Derived.Deep.Light
import Derived.ProofKit
import Derived.LaidMore
import Derived.OpenShut
import Derived.Stop.Joined
import Derived.Test.YtnmfppjjhbkfmaaDoorCards
import Derived.Test.YtnmfppjjhbkfmaaDoorTie
namespace Go.Proofs.YtnmfppjjhbkfmaaDoor
open Go.ChangeShapes Go.WideShapes Go.ChangeAt Go.RowKit

theorem dtx_inj {a b : List UInt8} (h : dtx a = dtx b) : a = b := by
  have := congrArg (fun x : ByteArray => x.data.toList) h
  simpa [dtx] using this
theorem dtx_at (l : List UInt8) (T : ByteArray) (h : dtx l = T) (j : Nat) (hj : j < l.length) (hT : j < T.size) : T[j] = l[j] := by
  subst h
  rfl
theorem dec2_bars (m : Nat) : (dec2 m).count 124 = 0 := by
  rw [List.count_eq_zero]
  intro h
  have := dec2_digit m _ h
  simp at this
theorem btx_bars (zs : List Int) : ∀ j, j ≤ 9 → (btx zs j).count 124 = j
  | 0, _ => rfl
  | j + 1, h => by
    rw [btx, List.count_append, List.count_append, btx_bars zs j (by omega), dec2_bars, if_pos (by omega)]
    rfl
theorem btx_bars10 (zs : List Int) : (btx zs 10).count 124 = 9 := by
  rw [btx, List.count_append, List.count_append, btx_bars zs 9 (by omega), dec2_bars, if_neg (by omega)]
  rfl
theorem btx_same {xs ys : List Int} {k : Nat} (h : ∀ i, i ≠ k → nth xs i = nth ys i) : ∀ j, j ≤ 9 - k → btx xs j = btx ys j
  | 0, _ => rfl
  | j + 1, hj => by rw [btx, btx, btx_same h j (by omega), h (9 - j) (by omega)]
theorem btx_split {xs ys : List Int} {k : Nat} (hk : k ≤ 9) (h : ∀ i, i ≠ k → nth xs i = nth ys i) : ∀ n, n ≤ k → ∃ P R : List UInt8, btx xs (10 - k + n) = P ++ (dec2 (nth xs k).toNat ++ R) ∧ btx ys (10 - k + n) = P ++ (dec2 (nth ys k).toNat ++ R)
  | 0, _ => by
    refine ⟨btx xs (9 - k), if 9 - k < 9 then [124] else [], ?_, ?_⟩
    · rw [show 10 - k + 0 = (9 - k) + 1 by omega, btx, show 9 - (9 - k) = k by omega, List.append_assoc]
    · rw [show 10 - k + 0 = (9 - k) + 1 by omega, btx, show 9 - (9 - k) = k by omega, List.append_assoc, btx_same h (9 - k) (by omega)]
  | n + 1, hn => by
    obtain ⟨P, R, h1, h2⟩ := btx_split hk h n (by omega)
    have he : 9 - (10 - k + n) ≠ k := by omega
    refine ⟨P, R ++ (dec2 (nth xs (9 - (10 - k + n))).toNat ++ (if 10 - k + n < 9 then [124] else [])), ?_, ?_⟩
    · rw [show 10 - k + (n + 1) = (10 - k + n) + 1 by omega, btx, h1]
      simp [List.append_assoc]
    · rw [show 10 - k + (n + 1) = (10 - k + n) + 1 by omega, btx, h2, ← h _ he]
      simp [List.append_assoc]
theorem btx_ne {xs ys : List Int} {k : Nat} (hk : k ≤ 9) (h : ∀ i, i ≠ k → nth xs i = nth ys i) (hx : 0 ≤ nth xs k ∧ nth xs k ≤ 20) (hy : 0 ≤ nth ys k ∧ nth ys k ≤ 20) (hne : nth xs k ≠ nth ys k) : btx xs 10 ≠ btx ys 10 := by
  intro he
  obtain ⟨P, R, h1, h2⟩ := btx_split hk h k (Nat.le_refl _)
  rw [show 10 - k + k = 10 by omega] at h1 h2
  rw [h1, h2] at he
  have := List.append_cancel_right (List.append_cancel_left he)
  have := dec2_inj (by omega) (by omega) this
  omega
theorem nth_set_ne {zs : List Int} {k i : Nat} {v : Int} (h : i ≠ k) : nth (zs.set k v) i = nth zs i := by
  unfold nth
  rw [List.getElem?_set_ne (fun e => h e.symm)]
theorem nth_set_eq {zs : List Int} {k : Nat} {v : Int} (h : k < zs.length) : nth (zs.set k v) k = v := by
  unfold nth
  rw [List.getElem?_set_self h]
  rfl
theorem brdB_set {zs : List Int} {k : Nat} {v : Int} (h : brdB zs = true) (v0 : 0 ≤ v) (v1 : v ≤ 20) : brdB (zs.set k v) = true := by
  obtain ⟨h10, hall⟩ := brdB_t h
  rw [brdB_all]
  · rw [List.length_set, h10]; rfl
  · intro i hi
    rw [List.length_set, h10] at hi
    by_cases e : i = k
    · subst e
      rw [nth_set_eq (by omega)]
      exact inB_of v0 v1
    · rw [nth_set_ne e]
      have := hall i hi
      exact inB_of this.1 this.2
theorem btxt_ne {zs : List Int} {k : Nat} {v : Int} (h : brdB zs = true) (hk : k < 10) (v0 : 0 ≤ v) (v1 : v ≤ 20) (hne : v ≠ nth zs k) : btxt (zs.set k v) ≠ dtx (btx zs 10) := by
  obtain ⟨h10, hall⟩ := brdB_t h
  rw [btxt, if_pos (brdB_set h v0 v1)]
  intro he
  have hv : nth (zs.set k v) k = v := nth_set_eq (by omega)
  exact btx_ne (by omega) (fun i hi => nth_set_ne hi) (by rw [hv]; exact ⟨v0, v1⟩) (hall k hk) (by rw [hv]; exact hne) (dtx_inj he)

set_option maxRecDepth 100000 in
set_option maxHeartbeats 400000 in
theorem walk_FnBoardText (A0 : Option Addr) (cap0 : Nat) (z0 : List Int) (A1 : Option Addr) (cap1 : Nat) (z1 : List Int) (w : World) (h0 : Came .u8 w A0 cap0 z0) (h1 : Came .u8 w A1 cap1 z1) :
    Calls Tryd.prog 4 #[.slice A0 z0.length cap0, .slice A1 z1.length cap1] w fun e w' => e = .returned (.bool true) ∧ Below w.heap.size w w' := by
  have hm0 := h0.ml
  have hm1 := h1.ml
  by_cases hb0 : 1048576 < z0.length
  · go_enter Tryd.func4, Tryd.ntmps4
    go_wp2
    go_ret
    exact ⟨rfl, Below.refl _ _⟩
  by_cases hb1 : 1048576 < z1.length
  · go_enter Tryd.func4, Tryd.ntmps4
    go_wp2
    go_ret
    exact ⟨rfl, Below.refl _ _⟩
  go_enter Tryd.func4, Tryd.ntmps4
  go_wp2_with fail
  refine (DrawBoardText _ _ _ _ h0).mono ?_
  rintro e w1 ⟨A, c, zs, rfl, hnz, hl, r1, b1⟩
  clear h0 h1
  go_wp2_with fail
  refine (impl_BoardText A c zs w1 r1 (by omega)).mono ?_
  rintro e w2 ⟨rfl, b2⟩
  have r2 := r1.below b2
  have q2 := bstep b1 b2
  clear b1 b2 r1
  go_wp2_with fail
  refine (spec_BoardText A c zs w2 r2 (by omega)).mono ?_
  rintro e w3 ⟨rfl, b3⟩
  have r3 := r2.below b3
  have q3 := bstep q2 b3
  clear b3 r2 q2
  cases hf : brdB zs
  · rw [show btxt zs = dtx [] by simp [btxt, hf], show dtx [] = { data := #[] } from rfl]
    go_wp2_with fail
    go_ret
    exact ⟨rfl, q3⟩
  · obtain ⟨h10, hall⟩ := brdB_t hf
    rw [show btxt zs = dtx (btx zs 10) by simp [btxt, hf]]
    have HBN := Lib.hid (fun k v (hk : k < 10) (v0 : 0 ≤ v) (v1 : v ≤ 20) (hne : v ≠ nth zs k) => btxt_ne hf hk v0 v1 hne)
    have hL9 := btx_bars10 zs
    have hTl : (btx zs 10).length ≤ 30 := btx_len zs 10
    generalize btx zs 10 = L at *
    obtain ⟨T, hT⟩ : ∃ T, dtx L = T := ⟨_, rfl⟩
    rw [hT]
    have hTs : T.size = L.length := by rw [← hT, dtx_size]
    have hT0 : 0 < L.length := by
      have := List.count_le_length (a := (124 : UInt8)) (l := L)
      rw [hL9] at this
      omega
    have hTne : ¬ (T = { data := #[] }) := fun e => by
      rw [e] at hTs
      simp [ByteArray.size] at hTs
      omega
    have hTl0 : T.toList ≠ [] := fun e => by
      rw [Lib.toList_data] at e
      exact hTne (by cases T; simp at e; rw [e])
    have hTb : T.toList.isEmpty = false := by
      cases h : T.toList with
      | nil => exact absurd h hTl0
      | cons x l => rfl
    clear hTne hTl0
    have HTT := Lib.hid hT
    have HTS := Lib.hid hTs
    have HL9 := Lib.hid hL9
    have HALL := Lib.hid hall
    have H10 := Lib.hid h10
    have HQ3 := Lib.hid q3
    have HR3 := Lib.hid r3
    have HNZ := Lib.hid hnz
    have hTsz : T.size ≤ 30 := by omega
    clear hL9 hT hTs hf hall h10 q3 r3 hnz hT0 hTl
    go_wp2_with fail
    go_loopw [8, 9] (fun b i wr => ∃ j : Nat, j ≤ T.size ∧ i = .int .i64 (j : Int) ∧ b = .int .i64 (((L.take j).count 124 : Nat) : Int) ∧ wr = w3) (fun _ i _ => T.size - (intOf i).toNat)
    case atStart => exact ⟨0, Nat.zero_le _, rfl, rfl, rfl⟩
    case round =>
      obtain ⟨j, hj, rfl, rfl, rfl⟩ := hrel
      obtain ⟨n, hn⟩ : ∃ n, (L.take j).count 124 = n := ⟨_, rfl⟩
      have hnj : n ≤ 30 := by
        have := List.count_le_length (a := (124 : UInt8)) (l := L.take j)
        rw [List.length_take] at this
        have := HTS.out
        omega
      rw [hn]
      have HN := Lib.hid hn
      clear hn
      by_cases hlt : j < T.size
      · have hjl : j < L.length := by rw [← HTS.out]; exact hlt
        have htj : T[j] = L[j] := dtx_at _ T HTT.out j hjl hlt
        have HTK : Hid (L.take (j + 1) = L.take j ++ [T[j]]) := Lib.hid (by rw [htj, List.take_succ_eq_append_getElem hjl])
        obtain ⟨x, hx⟩ : ∃ x, T[j] = x := ⟨_, rfl⟩
        rw [hx] at HTK
        have hxn : T[j].toNat = x.toNat := by rw [hx]
        clear htj
        by_cases hxe : x = 124
        · subst hxe
          have hxn2 : T[j].toNat = 124 := hxn
          have HC : Hid ((L.take (j + 1)).count 124 = n + 1) := Lib.hid (by rw [HTK.out, List.count_append, HN.out]; rfl)
          clear hxn hx
          go_wp2_with fail
          go_roundw
          case rel => exact ⟨j + 1, by omega, by go_num, by rw [HC.out]; go_num, by first | rfl | trivial⟩
          case measure => simp [intOf]; omega
        · have hx124 : x.toNat ≠ 124 := fun h => hxe (UInt8.toNat_inj.1 h)
          have HC : Hid ((L.take (j + 1)).count 124 = n) := Lib.hid (by
            rw [HTK.out, List.count_append, HN.out, List.count_singleton]
            rw [if_neg (by simpa using hxe)]
            rfl)
          have hxb : (((x.toNat : Nat) : Int) == 124) = false := by
            rw [beq_eq_false_iff_ne]; omega
          clear hx hxe
          go_wp2_with fail
          go_roundw
          case rel => exact ⟨j + 1, by omega, by go_num, by rw [HC.out], by first | rfl | trivial⟩
          case measure => simp [intOf]; omega
      · obtain rfl : j = T.size := by omega
        obtain rfl : n = 9 := by
          rw [← HN.out, HTS.out, List.take_length, HL9.out]
        clear hlt hj
        obtain ⟨k, hk⟩ : ∃ k : Nat, (z1.length : Int) % 10 = (k : Int) := ⟨((z1.length : Int) % 10).toNat, by omega⟩
        have hk10 : k < 10 := by omega
        have hkz : k < zs.length := by rw [H10.out]; exact hk10
        have ⟨d0, d1⟩ := HALL.out k hk10
        obtain ⟨m, hm⟩ : ∃ m : Nat, nth zs k = (m : Int) := ⟨(nth zs k).toNat, by omega⟩
        have hm20 : m ≤ 20 := by omega
        obtain ⟨v, hv⟩ : ∃ v : Int, ((m : Int) + 1) % 21 = v := ⟨_, rfl⟩
        have v0 : 0 ≤ v := by omega
        have v1 : v ≤ 20 := by omega
        have hvm : v ≠ (m : Int) := by omega
        have HXT := Lib.hid (HBN.out k v hk10 v0 v1 (by rw [hm]; exact hvm))
        have HM := Lib.hid hm
        have HS0 := Lib.hid (Sl.lit wr wr.heap.size (Nat.le_refl _) [] #[] rfl (by simp))
        have HRD := Lib.hid (HR3.out.alloc (.cells #[] 3))
        clear d0 d1 hm
        have hzn : zs ≠ [] := fun h => by rw [h] at hkz; simp at hkz
        have HZN := Lib.hid hzn
        clear hzn
        go_wp2_with (at_builtin; refine wp_apS _ _ rfl rfl _ wr.heap.size _ _ _ _ [] zs rfl rfl HS0.out HRD.out HNZ.out (by simp; omega) (by simp) ?_; intro A5 c5 w5 s5 g5 _; refine Hid.out ?_)
        have s5' : Sl w5 wr.heap.size A5 c5 zs := s5
        obtain ⟨a, rfl, al, au⟩ := s5'.addr HZN.out
        have hc := s5'.cell hkz
        rw [HM.out] at hc
        have hfz := s5'.free k
        have HB5 := Lib.hid ((below_new wr (.cells #[] 3)).grown g5 (by simp) (fun j hj => by simp [blk] at hj; omega))
        have HS5 := Lib.hid (s5'.set_ k v)
        have HQ5 := Lib.hid ((bstep HQ3.out HB5.out).setCell (p := ⟨a, k, none⟩) (by have := HQ3.out.size; simp; omega) (.int .i64 v))
        have HI : Hid (∀ w, Rd .i64 w (some ⟨a, 0, none⟩) (zs.set k v) → Calls Tryd.prog 9 #[.slice (some ⟨a, 0, none⟩) zs.length c5] w fun e w' => e = .returned (.string (btxt (zs.set k v))) ∧ Below w.heap.size w w') := Lib.hid (fun w hr => by
          have := impl_BoardText (some ⟨a, 0, none⟩) c5 (zs.set k v) w hr (by rw [List.length_set]; omega)
          rwa [List.length_set] at this)
        obtain ⟨X, hX⟩ : ∃ X, btxt (zs.set k v) = X := ⟨_, rfl⟩
        rw [hX] at HI HXT
        clear s5 s5' g5 hX
        have hXT : (X.toList == T.toList) = false := by
          rw [beq_eq_false_iff_ne, Lib.toList_data, Lib.toList_data]
          intro e
          refine HXT.out ?_
          rw [HTT.out]
          apply ByteArray.ext
          exact Array.toList_inj.1 e
        refine Lib.hid ?_
        go_wp2_with fail
        refine (HI.out _ HS5.out.rd).mono ?_
        rintro e w6 ⟨rfl, b6⟩
        go_wp2_with fail
        go_ret
        exact ⟨rfl, bstep HQ5.out b6⟩

theorem door_FnBoardText (os : Os) (args : Array Value) : laidMetH Tryd.prog [("math/bits.deBruijn32tab", Rows.laid_math_bits_deBruijn32tab), ("math/bits.deBruijn64tab", Rows.laid_math_bits_deBruijn64tab), ("internal/strconv.uint64pow10", Rows.laid_internal_strconv_uint64pow10)] ((World.doorLaid Tryd.prog 400 os).forCall (fun _ _ => 0) ⟨#[], args, []⟩).memory :=
  laidMetH_of_parts3 (fuel := 8) (laidMet_of_run' 8 (by kernel_rfl) (by kernel_rfl)) (by kernel_rfl) (by kernel_rfl)
/-! The row's step, after the kit's own shell of such a proof. -/
set_option linter.unusedVariables false in
set_option maxRecDepth 100000 in
theorem lifted_FnBoardText (os : Os) (started : os.Started) (H : Type) (enc : TypeId × Value → H) :
    ReturnsInHanded {} Tryd.checked os 4 .any (fun w args => (Rows.fnBoardTextSpec.pre enc Tryd.prog Tryd.f4 [] false w args ∧ laidMetH Tryd.prog [("math/bits.deBruijn32tab", Rows.laid_math_bits_deBruijn32tab), ("math/bits.deBruijn64tab", Rows.laid_math_bits_deBruijn64tab), ("internal/strconv.uint64pow10", Rows.laid_internal_strconv_uint64pow10)] w) ∧ sizedMet enc Tryd.prog Tryd.f4 (OpenSpec.ofChange Rows.fnBoardTextSpec) false w args) (Rows.fnBoardTextSpec.post enc Tryd.prog Tryd.f4 false true false false) := by
  refine returnsInHanded_of_change_and (C := Tryd.checked) (X := fun w _ => laidMetH Tryd.prog [("math/bits.deBruijn32tab", Rows.laid_math_bits_deBruijn32tab), ("math/bits.deBruijn64tab", Rows.laid_math_bits_deBruijn64tab), ("internal/strconv.uint64pow10", Rows.laid_internal_strconv_uint64pow10)] w) (fun _ _ _ hh h => h.of_heap hh) own started (by kernel_rfl) Tryd.func4
    (ChangeSpec.witness_shaped (enc := enc) (C := Tryd.checked) (os := os) (X := fun w _ => laidMetH Tryd.prog [("math/bits.deBruijn32tab", Rows.laid_math_bits_deBruijn32tab), ("math/bits.deBruijn64tab", Rows.laid_math_bits_deBruijn64tab), ("internal/strconv.uint64pow10", Rows.laid_internal_strconv_uint64pow10)] w) false (World.doorLaid Tryd.prog 400 os) #[.slice none 0 0, .slice none 0 0] 8 rfl (World.shaped_of_RefB (by kernel_rfl) (by kernel_rfl)) (by kernel_rfl) (by kernel_rfl) (by kernel_rfl) (door_FnBoardText os _)) ?_
  intro W base args ds gs before hval0 hW _ _ _ _
  have hval : ∀ (j : Nat) t v, Tryd.f4.params[j]? = some t → args[j]? = some v → Value.okWide Tryd.prog W .any base t v := hval0
  have hW' := hW
  obtain ⟨p, q, hA0, hV, rfl, hfz, hnd⟩ := hW
  have hA : DataW.TrodAll enc Tryd.prog W 0 (fun _ => true) true Tryd.f4.params.toList args.toList ds p := hA0
  rw [Tryd.params4] at hA hval
  obtain ⟨v0, vs0, d0, ds0, p0, q0, hargs, rfl, rfl, h0, r0⟩ := trodAll_cons hA
  obtain ⟨v1, vs1, d1, ds1, p1, q1, rfl, rfl, rfl, h1, r1⟩ := trodAll_cons r0
  obtain ⟨rfl, rfl, rfl⟩ := trodAll_nil r1
  obtain rfl : args = #[v0, v1] := by cases args; simp_all
  obtain ⟨rfl, rfl⟩ := trodVars_none hV
  obtain ⟨A0, len0, cap0, rfl⟩ := okWide_slice Tryd.underlying22 (hval 0 22 v0 rfl rfl)
  have k0 := h0
  have lt0 : ∀ x ∈ p0, x.block < W.heap.size := by obtain ⟨m, hm⟩ := k0; exact DataW.trod_lt m _ _ _ hm
  obtain ⟨z0, rfl, w0⟩ := row_open Tryd.underlying22 Tryd.underlying5 (by kernel_rfl) h0
  obtain ⟨A1, len1, cap1, rfl⟩ := okWide_slice Tryd.underlying22 (hval 1 22 v1 rfl rfl)
  have k1 := h1
  have lt1 : ∀ x ∈ p1, x.block < W.heap.size := by obtain ⟨m, hm⟩ := k1; exact DataW.trod_lt m _ _ _ hm
  obtain ⟨z1, rfl, w1⟩ := row_open Tryd.underlying22 Tryd.underlying5 (by kernel_rfl) h1
  clear hA0 hval0
  refine (walk_FnBoardText A0 cap0 z0 A1 cap1 z1 W w0 w1).mono fun e W' ⟨he, bel⟩ => ?_
  subst he
  exact ⟨_, rfl, _, _, _, [], _, [], hW', trodAll_mk1 (shut_bool Tryd.underlying4 _), (trodAll_cons_mk (Below.trod laidOut (by kernel_rfl) (of_decide_eq_true (by kernel_rfl)) k0 bel lt0) (trodAll_cons_mk (Below.trod laidOut (by kernel_rfl) (of_decide_eq_true (by kernel_rfl)) k1 bel lt1) trodAll_mk0)), rfl, bel.frame _, fun h => by cases h⟩

theorem over_FnBoardText : Rows.fnBoardTextRow.holds Tryd.pinned (OpenSpec.ofChange Rows.fnBoardTextSpec) :=
  OpenClaim.holds_of_wide 4 Tryd.f4 rfl rfl rfl rfl rfl rfl rfl ⟨rfl, rfl, rfl, rfl, rfl⟩ rfl rfl rfl rfl rfl (by kernel_rfl) Tryd.func4 (by kernel_rfl)
    (of_decide_eq_true (by kernel_rfl)) (by unfold Func.isWrapper; first | (rw [if_pos (by decide +kernel)]; kernel_rfl) | (rw [if_neg (by decide +kernel)]; exact ⟨rfl, rfl⟩))
    (fun os started H enc _ => lifted_FnBoardText os started H enc)

/-- The statement: the tied card. -/
theorem holds_FnBoardText : Rows.FnBoardTextCardSaid :=
  Claim7.holds_tied_plain_at .later [] [.data, .data, .data] true (true, "31716f0567f56a79c88d900291bebd3429b7992293564a648200ece226cb6653") false
    over_FnBoardText (fun _ h => by cases h) (by kernel_rfl) (fun _ h => by cases h) fnBoardText_row_tie rfl ⟨rfl, rfl⟩ (by kernel_rfl) rfl
    (fun f fn hf hfn => by
      obtain rfl : f = 4 := Option.some.inj ((show Tryd.prog.funcNamed "loop.example/countingboards/laws.FnBoardText" = some 4 by kernel_rfl).symm.trans hf) |>.symm
      obtain rfl : fn = Tryd.f4 := (Option.some.inj (Tryd.func4.symm.trans hfn)).symm
      exact ⟨by kernel_rfl, fun j t ht => by
        rw [Tryd.params4] at ht
        have hm : t ∈ [22, 22] := by simpa using Array.mem_of_getElem? ht
        have hall : ([22, 22].all fun u => !Tryd.prog.wantsStandIn u) = true := by kernel_rfl
        exact (show Tryd.prog.wantsStandIn t = false by simpa using List.all_eq_true.1 hall t hm)⟩)
    (by kernel_rfl)
#print axioms holds_FnBoardText
end Go.Proofs.YtnmfppjjhbkfmaaDoor
