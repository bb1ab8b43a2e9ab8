/- Cases of rods: the reference's CaseValid, l3Ways and CaseWays. -/
import Derived.Test.YtnmfppjjhbkfmaaCasP
namespace Go.Proofs.Ytnmfppjjhbkfmaa
open Go.RowKit

set_option maxRecDepth 100000 in
set_option maxHeartbeats 1000000 in
theorem spec_CaseValid (A : Option Addr) (c : Nat) (R : List (List Int)) (w : World) (hr : RdR w 0 A R) (hl : R.length ≤ 4194304) :
    Calls Try.prog 14 #[.slice A R.length c] w fun e w' => e = .returned (.bool (caseB R)) ∧ w = w' := by
  go_enter Try.func14, Try.ntmps14
  go_wp2_with fail
  go_loop [3] (fun x => ∃ i : Nat, i ≤ R.length ∧ x = .int .i64 (i : Int) ∧ Hid (∀ k, k < i → rodB (sd R k) = true)) (fun x => R.length - (intOf x).toNat)
  case atStart => exact ⟨0, Nat.zero_le _, rfl, Lib.hid (fun k hk => by omega)⟩
  case round =>
    obtain ⟨i, hi, rfl, HK⟩ := hrel
    by_cases hlt : i < R.length
    · obtain ⟨b, off, bi, oi, ci, rfl, hbl, hcc, hrs⟩ := hr.at hlt
      have HN := Lib.hid (fun h => caseB_no (R := R) hlt h)
      have HRS := Lib.hid hrs
      obtain ⟨s, hs⟩ : ∃ s, sd R i = s := ⟨_, rfl⟩
      have HSD := Lib.hid hs
      rw [hs] at hcc HN HRS
      clear hs hrs
      by_cases h4 : s.length = 4
      · have H4 := Lib.hid h4
        rw [h4] at hcc
        clear h4
        go_wp2_with fail
        go_loop [4] (fun y => ∃ j : Nat, j ≤ 4 ∧ y = .int .i64 (j : Int) ∧ Hid (∀ k, k < j → 0 ≤ nth s k ∧ nth s k ≤ 9)) (fun y => 4 - (intOf y).toNat)
        case atStart => exact ⟨0, Nat.zero_le _, rfl, Lib.hid (fun k hk => by omega)⟩
        case round =>
          obtain ⟨j, hj, rfl, HJ⟩ := hrel
          by_cases hlj : j < 4
          · obtain ⟨b', off', he, hbl', hc⟩ := HRS.out.at (i := j) (by rw [H4.out]; exact hlj)
            obtain ⟨rfl, rfl⟩ : b' = bi ∧ off' = oi := by injection he with he; injection he with h1 h2; exact ⟨h1.symm, h2.symm⟩
            have hljI : (j : Int) < 4 := by omega
            clear he
            cases hd : inB (nth s j) 0 9
            · have HF := Lib.hid (HN.out (rodB_bad hlj hd))
              go_wp2_with (go_at_call 24; refine (l3Digit _ _).mono ?_; rintro e w' ⟨rfl, rfl⟩; rw [hd])
              go_ret
              exact ⟨ret_bool HF.out.symm, rfl⟩
            · have HJ2 : Hid (∀ k, k < j + 1 → 0 ≤ nth s k ∧ nth s k ≤ 9) := Lib.hid (fun k hk => by
                rcases Nat.lt_or_ge k j with h | h
                · exact HJ.out k h
                · obtain rfl : k = j := by omega
                  exact inB_t hd)
              go_wp2_with (go_at_call 24; refine (l3Digit _ _).mono ?_; rintro e w' ⟨rfl, rfl⟩; rw [hd])
              go_round
              case rel => exact ⟨j + 1, by omega, by go_num, HJ2⟩
              case measure => simp [intOf]; omega
          · obtain rfl : j = 4 := by omega
            have HK2 : Hid (∀ k, k < i + 1 → rodB (sd R k) = true) := Lib.hid (fun k hk => by
              rcases Nat.lt_or_ge k i with h | h
              · exact HK.out k h
              · obtain rfl : k = i := by omega
                rw [HSD.out]; exact rodB_of H4.out HJ.out)
            go_wp2_with fail
            go_round
            case rel => exact ⟨i + 1, by omega, by go_num, HK2⟩
            case measure => simp [intOf]; omega
      · have HF := Lib.hid (HN.out (rodB_len h4))
        have h4'' : ((s.length : Int) == 4) = false := beq_eq_false_iff_ne.2 (by omega)
        clear h4
        go_wp2_with fail
        go_ret
        exact ⟨ret_bool HF.out.symm, rfl⟩
    · obtain rfl : i = R.length := by omega
      have HT : Hid (caseB R = decide ((R.length : Int) ≤ 10)) := Lib.hid (by
        rw [caseB, caseTo_iff.2 HK.out, Bool.and_true]
        by_cases h : R.length ≤ 10 <;> simp [h] <;> omega)
      go_wp2_with fail
      go_ret
      exact ⟨ret_bool HT.out.symm, rfl⟩

theorem bool_info : (Try.prog.info? 4).map (fun i => (i.zero, i.size, i.bytes)) = some (some (.bool false), 1, 1) := by kernel_rfl

theorem info_partsB {T : TypeId} {z : Value} {s b : Nat} (h : (Try.prog.info? T).map (fun i => (i.zero, i.size, i.bytes)) = some (some z, s, b)) : ∃ i, Try.prog.info? T = some i ∧ i.zero = some z ∧ i.size = s ∧ i.bytes = b := by
  cases hi : Try.prog.info? T with
  | none => rw [hi] at h; simp at h
  | some i =>
    rw [hi] at h
    simp at h
    exact ⟨i, rfl, h.1, h.2.1, h.2.2⟩

/-- The marks of used rods. -/
structure UBox (w : World) (b n : Nat) (u : Nat → Bool) : Prop where
  cu : ∀ i, i < n → w.cell? ⟨b, i, none⟩ = some (.bool (u i))
  fz : ∀ j, w.frozen? ⟨b, j, none⟩ = false
theorem UBox.kept {w w' : World} {b n : Nat} {u : Nat → Bool} (h : UBox w b n u) (hk : w'.heap[b]? = w.heap[b]?) : UBox w' b n u :=
  ⟨fun i hi => (cell_same hk).trans (h.cu i hi), fun j => (frozen_same hk).trans (h.fz j)⟩
theorem UBox.lt {w : World} {b n i : Nat} {u : Nat → Bool} (h : UBox w b n u) (hi : i < n) : b < w.heap.size := World.block_lt_of_cell? w _ (h.cu i hi)
theorem UBox.set {w : World} {b n i : Nat} {u : Nat → Bool} (h : UBox w b n u) (hi : i < n) (v : Bool) : UBox (w.setCell ⟨b, i, none⟩ (.bool v)) b n (setU u i v) := by
  refine ⟨fun j hj => ?_, fun j => by rw [World.frozen?_setCell]; exact h.fz j⟩
  by_cases e : j = i
  · subst e
    rw [World.cell?_setCell_same _ _ _ (h.cu j hj)]; simp [setU]
  · rw [World.cell?_setCell_other _ _ _ _ (by intro e2; injection e2 with _ e2; omega), h.cu j hj]; simp [setU, e]

/-- make([]bool, n) -/
theorem wp_mkB {ops : Array Oper} {rest : List Oper} {o : Oper} {a : Act} {Q : Exit → Act → World → Prop} (l x : Operand) (hgd : o.guard = none)
    (ho : o.op = Op.makeSlice 45 l x) (w : World) (n : Nat) (hl : a.eval l = .int .i64 (n : Int)) (hx : a.eval x = .int .i64 (n : Int)) (hn : n ≤ 4194304)
    (h : ∀ w', UBox w' w.heap.size n noU → Below w.heap.size w w' → wpList Try.prog ops Q rest (a.put o.dst (.slice (some ⟨w.heap.size, 0, none⟩) n n)) w') :
    wpList Try.prog ops Q (o :: rest) a w := by
  obtain ⟨i, hi, hz0, hz1, hz2⟩ := info_partsB bool_info
  refine wpList_make_full w hgd l x 45 ho w.heap.size 4 i (.bool false) 1 Try.underlying45 hi hz0 hz1 .i64 .i64 n n n hl hx rfl rfl (by rw [hz2]; omega) (by simp only [maxLen]; omega) (Nat.le_refl _)
    (fun w' h1 h2 => h w' ?_ ⟨h2.os, h2.tape, h2.output, h2.size, fun k hk => h2.block k hk (by simp)⟩)
  have e : (madeCells (Value.bool false).cells (n * 1)).toList = List.replicate n (Value.bool false) := by
    simp only [madeCells, Value.cells, Nat.mul_one]
    rw [List.eq_replicate_iff]
    refine ⟨by simp, fun b hb => ?_⟩
    simp [Nat.mod_one] at hb
    exact hb.2.symm
  rw [e] at h1
  refine ⟨fun j hj => ?_, fun j => World.ownsRow.frozenAt h1 j⟩
  have := World.ownsRow.cellAt h1 j (by simpa using hj)
  rw [this, List.getElem?_replicate, if_pos (by simpa using hj)]
  rfl

set_option maxRecDepth 100000 in
set_option maxHeartbeats 1000000 in
theorem l3Ways (A : Option Addr) (c cu b : Nat) (R : List (List Int)) (w0 : World) (hR : RdR w0 0 A R) (h10 : R.length ≤ 10) (hs4 : ∀ i, i < R.length → (sd R i).length ≤ 4) (hb0 : w0.heap.size ≤ b) :
    ∀ (zs : List Int) (B : Option Addr) (d : Nat) (u : Nat → Bool) (w : World), zs.length ≤ 6 → zs.length ≤ d → Rd .i64 w0 B zs → Below w0.heap.size w0 w → UBox w b R.length u →
      Calls Try.prog 16 #[.slice A R.length c, .slice B zs.length d, .slice (some ⟨b, 0, none⟩) R.length cu] w fun e w' => e = .returned (.int .i64 (ways R zs u : Int)) ∧ Below w0.heap.size w0 w' ∧ UBox w' b R.length u := by
  intro zs
  have HS4 := Lib.hid hs4
  clear hs4
  induction zs with
  | nil =>
    intro B d u w _ _ _ hb hu
    have HB := Lib.hid hb
    have HU := Lib.hid hu
    clear hb hu
    go_enter Try.func16, Try.ntmps16
    go_wp2_with fail
    go_ret
    exact ⟨rfl, HB.out, HU.out⟩
  | cons x ds ih =>
    intro B d u w h6 hd hz hb hu
    have hlen : (x :: ds).length = ds.length + 1 := rfl
    obtain ⟨bl, off, rfl, hbl0, hx0⟩ := hz.at (i := 0) (by rw [hlen]; omega)
    rw [Nat.add_zero, show nth (x :: ds) 0 = x from rfl] at hx0
    have HX0 : Hid (∀ w', Below w0.heap.size w0 w' → w'.cell? ⟨bl, off, none⟩ = some (.int .i64 x)) := Lib.hid (fun w' h => (h.cell (p := ⟨bl, off, none⟩) hbl0).trans hx0)
    have hways : ways R (x :: ds) u = sumN (wayF R x ds u) R.length := rfl
    have hle := ways_le h10 (x :: ds) u
    have hle6 : 10 ^ (x :: ds).length ≤ 10 ^ 6 := Nat.pow_le_pow_right (by omega) h6
    rw [hways] at hle ⊢
    obtain ⟨f, hf⟩ : ∃ f, wayF R x ds u = f := ⟨_, rfl⟩
    have HF := Lib.hid hf
    rw [hf] at hle ⊢
    have hsum : sumN f R.length ≤ 1000000 := Nat.le_trans hle hle6
    have HRT : Hid (∀ o, o = off ∨ o = off + 1 → (o = off → ds = []) → Rd .i64 w0 (some ⟨bl, o, none⟩) ds) := Lib.hid (fun o ho hd0 hn => by
      obtain ⟨b', o', he, hc⟩ := hz (by simp)
      injection he with he
      injection he with h1 h2
      subst h1 h2
      rcases ho with rfl | rfl
      · exact absurd (hd0 rfl) hn
      · exact ⟨bl, off + 1, rfl, fun j hj => by
          have := hc (j + 1) (by rw [hlen]; omega)
          rw [show off + 1 + j = off + (j + 1) by omega, this]; simp [nth]⟩)
    have HIH := Lib.hid ih
    have HB := Lib.hid hb
    have HU := Lib.hid hu
    have hne0 : ((ds.length : Int) + 1 == 0) = false := beq_eq_false_iff_ne.2 (by omega)
    rw [hlen] at h6 hd ⊢
    clear ih hle hle6 hways hf hz hb hu hlen hx0 hbl0
    go_enter Try.func16, Try.ntmps16
    go_wp2_with fail
    go_loopw [7, 8] (fun t y wr => ∃ i : Nat, i ≤ R.length ∧ t = .int .i64 ((sumN f i : Nat) : Int) ∧ y = .int .i64 (i : Int) ∧ Hid (Below w0.heap.size w0 wr ∧ UBox wr b R.length u)) (fun _ y _ => R.length - (intOf y).toNat)
    case atStart => exact ⟨0, Nat.zero_le _, rfl, rfl, Lib.hid ⟨HB.out, HU.out⟩⟩
    case round =>
      obtain ⟨i, hi, rfl, rfl, HI⟩ := hrel
      by_cases hlt : i < R.length
      · obtain ⟨br, offr, bi, oi, ci, rfl, hbl, hcc, hrs⟩ := (hR.below HI.out.1).at hlt
        have hltI : (i : Int) < (R.length : Int) := by omega
        have HF2 : Hid (sumN f (i + 1) = sumN f i + f i) := Lib.hid rfl
        have HFI : Hid (f i = if fitB R u x i = true then ways R ds (setU u i true) else 0) := Lib.hid (by rw [← HF.out]; rfl)
        have hle2 := sumN_part f hlt
        have hsl := HS4.out i hlt
        have HX := Lib.hid (fun (y : Later wr) => l3Has (some ⟨bi, oi, none⟩) ci (sd R i) x y.val (hrs.below y.bel) (by omega))
        have l0 := later_cell (HI.out.2.cu i hlt)
        have l1 := later_cell hcc
        have l2 := later_cell (HX0.out wr HI.out.1)
        have hy := later_refl wr
        have hdl : (0 : Int) < (ds.length : Int) + 1 := by omega
        have HRS := Lib.hid hrs
        obtain ⟨S, hS⟩ : ∃ S, sumN f i = S := ⟨_, rfl⟩
        have HSI := Lib.hid hS
        rw [hS] at hle2 HF2 ⊢
        have HLE2 := Lib.hid hle2
        clear hrs hS hcc hle2
        cases hu : u i
        · rw [hu] at l0
          obtain ⟨m, hm⟩ : ∃ m, ways R ds (setU u i true) = m := ⟨_, rfl⟩
          have HUI := Lib.hid hu
          have HHF : Hid (f i = if hasB (sd R i) x = true then m else 0) := Lib.hid (by rw [HFI.out, hm, fitB, hu]; simp)
          have HM := Lib.hid hm
          cases hh : hasB (sd R i) x
          · rw [hh] at HX
            have HZ : Hid (f i = 0) := Lib.hid (by rw [HHF.out, hh]; simp)
            clear hu hm hh
            go_wp2_with fail
            refine wp_region_later (by kernel_rfl) (by kernel_rfl) ?_
            iterate 13 (quiet_step (fail))
            refine wpQuiet_step (fun K hK => ?_)
            go_simp
            refine ⟨.bool false, fun y => later_same (x := y) (HX.out y), hK _ ?_⟩
            clear hK K
            iterate 2 (quiet_step (fail))
            refine wpQuiet_nil ?_
            intro w' hw'
            obtain ⟨⟨w2, b2⟩, hw''⟩ := hw'
            obtain rfl : w' = w2 := hw''
            have HN : Hid (Below w0.heap.size w0 w' ∧ UBox w' b R.length u) := Lib.hid ⟨bstep HI.out.1 b2, HI.out.2.kept (b2.block b (HI.out.2.lt hlt))⟩
            have HV : Hid (sumN f (i + 1) = S) := Lib.hid (by rw [HF2.out, HZ.out, Nat.add_zero])
            clear hy l0 l1 l2 b2
            go_wp2_with fail
            go_roundw
            case rel => exact ⟨i + 1, by omega, by rw [HV.out], by go_num, HN⟩
            case measure => simp [intOf]; omega
          · rw [hh] at HX
            have HZ : Hid (f i = m) := Lib.hid (by rw [HHF.out, hh]; simp)
            clear hu hm hh
            go_wp2_with fail
            refine wp_region_later (by kernel_rfl) (by kernel_rfl) ?_
            iterate 13 (quiet_step (fail))
            refine wpQuiet_step (fun K hK => ?_)
            go_simp
            refine ⟨.bool true, fun y => later_same (x := y) (HX.out y), hK _ ?_⟩
            clear hK K
            iterate 2 (quiet_step (fail))
            refine wpQuiet_nil ?_
            intro w' hw'
            obtain ⟨⟨w2, b2⟩, hw''⟩ := hw'
            obtain rfl : w' = w2 := hw''
            have U2 := HI.out.2.kept (b2.block b (HI.out.2.lt hlt))
            have HB2 := Lib.hid (bstep HI.out.1 b2)
            have cu2 := U2.cu i hlt
            have fu2 := U2.fz i
            have hm6 : S + m ≤ 1000000 := by have := HLE2.out; have := HZ.out; omega
            by_cases hd1 : d = 1
            · subst hd1
              have HC := Lib.hid (HIH.out (some ⟨bl, off, none⟩) 0 (setU u i true) (w'.setCell ⟨b, i, none⟩ (.bool true)) (by omega) (by omega) (HRT.out off (.inl rfl) (fun _ => List.eq_nil_of_length_eq_zero (by omega))) (HB2.out.setCell (p := ⟨b, i, none⟩) hb0 _) (U2.set hlt true))
              rw [HM.out, show ds.length = 0 by omega] at HC
              clear hy l0 l1 l2 b2 U2
              go_wp2_with fail
              refine HC.out.mono ?_
              rintro e w4 ⟨rfl, b4, U4⟩
              have cu4 := U4.cu i hlt
              have fu4 := U4.fz i
              have U5 := U4.set hlt false
              rw [setU_back HUI.out] at U5
              have HN : Hid (Below w0.heap.size w0 (w4.setCell ⟨b, i, none⟩ (.bool false)) ∧ UBox (w4.setCell ⟨b, i, none⟩ (.bool false)) b R.length u) := Lib.hid ⟨b4.setCell (p := ⟨b, i, none⟩) hb0 _, U5⟩
              have HV : Hid (((sumN f (i + 1) : Nat) : Int) = (S : Int) + (m : Int)) := Lib.hid (by rw [HF2.out, HZ.out]; omega)
              clear b4 U4 U5
              go_wp2_with fail
              go_roundw
              case rel => exact ⟨i + 1, by omega, by rw [HV.out], by go_num, HN⟩
              case measure => simp [intOf]; omega
            · have HC := Lib.hid (HIH.out (some ⟨bl, off + 1, none⟩) (d - 1) (setU u i true) (w'.setCell ⟨b, i, none⟩ (.bool true)) (by omega) (by omega) (HRT.out (off + 1) (.inr rfl) (fun h => by omega)) (HB2.out.setCell (p := ⟨b, i, none⟩) hb0 _) (U2.set hlt true))
              rw [HM.out] at HC
              clear hy l0 l1 l2 b2 U2
              go_wp2_with fail
              refine HC.out.mono ?_
              rintro e w4 ⟨rfl, b4, U4⟩
              have cu4 := U4.cu i hlt
              have fu4 := U4.fz i
              have U5 := U4.set hlt false
              rw [setU_back HUI.out] at U5
              have HN : Hid (Below w0.heap.size w0 (w4.setCell ⟨b, i, none⟩ (.bool false)) ∧ UBox (w4.setCell ⟨b, i, none⟩ (.bool false)) b R.length u) := Lib.hid ⟨b4.setCell (p := ⟨b, i, none⟩) hb0 _, U5⟩
              have HV : Hid (((sumN f (i + 1) : Nat) : Int) = (S : Int) + (m : Int)) := Lib.hid (by rw [HF2.out, HZ.out]; omega)
              clear b4 U4 U5
              go_wp2_with fail
              go_roundw
              case rel => exact ⟨i + 1, by omega, by rw [HV.out], by go_num, HN⟩
              case measure => simp [intOf]; omega
        · have HZ : Hid (f i = 0) := Lib.hid (by rw [HFI.out]; simp [fitB, hu])
          rw [hu] at l0
          go_wp2_with fail
          refine wp_region_later (by kernel_rfl) (by kernel_rfl) ?_
          repeat (go_big_quiet_step (fail))
          refine wpQuiet_nil ?_
          intro w' hw'
          obtain ⟨⟨w2, b2⟩, hw''⟩ := hw'
          obtain rfl : w' = w2 := hw''
          have HN : Hid (Below w0.heap.size w0 w' ∧ UBox w' b R.length u) := Lib.hid ⟨bstep HI.out.1 b2, HI.out.2.kept (b2.block b (HI.out.2.lt hlt))⟩
          have HV : Hid (sumN f (i + 1) = S) := Lib.hid (by rw [HF2.out, HZ.out, Nat.add_zero])
          clear hy l0 l1 l2 b2
          go_wp2_with fail
          go_roundw
          case rel => exact ⟨i + 1, by omega, by rw [HV.out], by go_num, HN⟩
          case measure => simp [intOf]; omega
      · obtain rfl : i = R.length := by omega
        go_wp2_with fail
        go_ret
        exact ⟨rfl, HI.out.1, HI.out.2⟩

theorem noU_sd {R : List (List Int)} (h : caseB R = true) : ∀ i, i < R.length → (sd R i).length ≤ 4 := fun i hi => by
  have := (rodB_t ((caseB_t h).2 i hi)).1
  omega

theorem spec_CaseWays (A B : Option Addr) (c d : Nat) (R : List (List Int)) (zs : List Int) (w : World) (hR : RdR w 0 A R) (hz : Rd .i64 w B zs) (lR : R.length ≤ 4194304) (lz : zs.length ≤ 4194304) (hd : zs.length ≤ d) :
    Calls Try.prog 6 #[.slice A R.length c, .slice B zs.length d] w fun e w' => e = .returned (.int .i64 (wayT R zs)) ∧ Below w.heap.size w w' := by
  have HC := Lib.hid (spec_CaseValid A c R w hR lR)
  have HV := Lib.hid (spec_NumeralValid B d zs w hz lz)
  cases hc : caseB R
  · rw [hc] at HC
    have HF : Hid (wayT R zs = -1) := Lib.hid (by simp [wayT, hc])
    clear hc
    go_enter Try.func6, Try.ntmps6
    go_wp2_with fail
    refine HC.out.mono ?_
    rintro e w' ⟨rfl, rfl⟩
    go_wp2_with fail
    go_ret
    exact ⟨ret_int HF.out.symm, Below.refl _ _⟩
  rw [hc] at HC
  cases hn : numB zs
  · rw [hn] at HV
    have HF : Hid (wayT R zs = -1) := Lib.hid (by simp [wayT, hn])
    clear hc hn
    go_enter Try.func6, Try.ntmps6
    go_wp2_with fail
    refine HC.out.mono ?_
    rintro e w' ⟨rfl, rfl⟩
    go_wp2_with fail
    refine HV.out.mono ?_
    rintro e w' ⟨rfl, rfl⟩
    go_wp2_with fail
    go_ret
    exact ⟨ret_int HF.out.symm, Below.refl _ _⟩
  rw [hn] at HV
  have HF : Hid (wayT R zs = (ways R zs noU : Int)) := Lib.hid (by simp [wayT, hc, hn])
  have H10 := Lib.hid (caseB_t hc).1
  have H4 := Lib.hid (noU_sd hc)
  have H6 := Lib.hid (numB_t hn).2.1
  clear hc hn
  go_enter Try.func6, Try.ntmps6
  go_wp2_with fail
  refine HC.out.mono ?_
  rintro e w' ⟨rfl, rfl⟩
  go_wp2_with fail
  refine HV.out.mono ?_
  rintro e w' ⟨rfl, rfl⟩
  go_wp2_with (at_make; refine wp_mkB _ _ rfl rfl _ R.length rfl rfl (by omega) ?_; intro w1 u1 b1; refine Hid.out ?_)
  have HL := Lib.hid (l3Ways A c R.length w.heap.size R w hR H10.out H4.out (Nat.le_refl _) zs B d noU w1 H6.out hd hz b1 u1)
  clear u1 b1
  refine Lib.hid ?_
  go_wp2_with fail
  refine HL.out.mono ?_
  rintro e w2 ⟨rfl, b2, _⟩
  go_wp2_with fail
  go_ret
  exact ⟨ret_int HF.out.symm, b2⟩
end Go.Proofs.Ytnmfppjjhbkfmaa
