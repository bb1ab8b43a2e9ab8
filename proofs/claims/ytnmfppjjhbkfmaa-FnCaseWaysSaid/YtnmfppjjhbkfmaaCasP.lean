/- Cases of rods: the program's search (pick, with its visiting function), CaseWays and CaseShows. -/
import Derived.Test.YtnmfppjjhbkfmaaCasV
import Derived.Test.YtnmfppjjhbkfmaaLater
import Derived.Laws.EntriesVeiled
import Derived.Shelf.Abstract
namespace Go.Proofs.Ytnmfppjjhbkfmaa
open Go.RowKit Go.Shelf

theorem frozen_same {w w' : World} {a : Addr} (h : w'.heap[a.block]? = w.heap[a.block]?) : w'.frozen? a = w.frozen? a := by simp [World.frozen?, h]
/-- The picker's box. -/
structure PBox (w : World) (p : Nat) (rv : Value) (T : ByteArray) (u : Nat → Bool) (vis : Value) : Prop where
  c0 : w.cell? ⟨p, 0, none⟩ = some rv
  c1 : w.cell? ⟨p, 1, none⟩ = some (.string T)
  cu : ∀ i, i < 10 → w.cell? ⟨p, 2 + i, none⟩ = some (.bool (u i))
  cv : w.cell? ⟨p, 12, none⟩ = some vis
  fz : ∀ j, w.frozen? ⟨p, j, none⟩ = false
section
variable {w w' : World} {p B : Nat} {rv vis v : Value} {T : ByteArray} {u : Nat → Bool}
theorem PBox.lt (h : PBox w p rv T u vis) : p < w.heap.size := World.block_lt_of_cell? w _ h.c0
theorem PBox.kept (h : PBox w p rv T u vis) (hk : w'.heap[p]? = w.heap[p]?) : PBox w' p rv T u vis :=
  ⟨(cell_same hk).trans h.c0, (cell_same hk).trans h.c1, fun i hi => (cell_same hk).trans (h.cu i hi), (cell_same hk).trans h.cv, fun j => (frozen_same hk).trans (h.fz j)⟩
theorem PBox.below (h : PBox w p rv T u vis) (hb : Below w.heap.size w w') : PBox w' p rv T u vis := h.kept (hb.block p h.lt)
theorem PBox.set (h : PBox w p rv T u vis) {i : Nat} (hi : i < 10) (b : Bool) : PBox (w.setCell ⟨p, 2 + i, none⟩ (.bool b)) p rv T (setU u i b) vis := by
  refine ⟨?_, ?_, fun j hj => ?_, ?_, fun j => by rw [World.frozen?_setCell]; exact h.fz j⟩
  · rw [World.cell?_setCell_other _ _ _ _ (by intro e; injection e with _ e; omega)]; exact h.c0
  · rw [World.cell?_setCell_other _ _ _ _ (by intro e; injection e with _ e; omega)]; exact h.c1
  · by_cases e : j = i
    · subst e
      rw [World.cell?_setCell_same _ _ _ (h.cu j hj)]; simp [setU]
    · rw [World.cell?_setCell_other _ _ _ _ (by intro e2; injection e2 with _ e2; omega), h.cu j hj]; simp [setU, e]
  · rw [World.cell?_setCell_other _ _ _ _ (by intro e; injection e with _ e; omega)]; exact h.cv
theorem set_block (w : World) (B j : Nat) (v : Value) {k : Nat} (h : k ≠ B) : (w.setCell ⟨B, j, none⟩ v).heap[k]? = w.heap[k]? := Below.heap_setCell w _ v k h

/-- A box of one cell. -/
structure Bx (w : World) (B : Nat) (v : Value) : Prop where
  c : w.cell? ⟨B, 0, none⟩ = some v
  f : w.frozen? ⟨B, 0, none⟩ = false
theorem Bx.lt (h : Bx w B v) : B < w.heap.size := World.block_lt_of_cell? w _ h.c
theorem Bx.kept (h : Bx w B v) (hk : w'.heap[B]? = w.heap[B]?) : Bx w' B v := ⟨(cell_same hk).trans h.c, (frozen_same hk).trans h.f⟩
theorem Bx.below (h : Bx w B v) (hb : Below w.heap.size w w') : Bx w' B v := h.kept (hb.block B h.lt)
theorem Bx.set (h : Bx w B v) (v' : Value) : Bx (w.setCell ⟨B, 0, none⟩ v') B v' := ⟨World.cell?_setCell_same _ _ _ h.c, by rw [World.frozen?_setCell]; exact h.f⟩
end

/-- What the visits' box holds after k visits: a count, or whether there was one. -/
def bx (go : Bool) (k : Nat) : Value := if go then .int .i64 (k : Int) else .bool (decide (0 < k))

def RodPost (w0 : World) (p B : Nat) (rv : Value) (T : ByteArray) (u : Nat → Bool) (vis : Value) (go : Bool) (k m : Nat) (e : Ending) (w' : World) : Prop :=
  e = .returned (.bool (go || decide (m = 0))) ∧ Below w0.heap.size w0 w' ∧ PBox w' p rv T u vis ∧ Bx w' B (bx go (k + m))

/-- The summand of rod i. -/
def wayF (R : List (List Int)) (d : Int) (ds : List Int) (u : Nat → Bool) (i : Nat) : Nat := if fitB R u d i = true then ways R ds (setU u i true) else 0

set_option maxRecDepth 100000 in
set_option maxHeartbeats 1000000 in
theorem rodPick (go : Bool) (vf : Nat) (A : Option Addr) (c : Nat) (R : List (List Int)) (zs : List Int) (w0 : World) (p B : Nat) (hR : RdR w0 0 A R) (hrods : caseB R = true) (hz : numB zs = true) (hp : w0.heap.size ≤ p) (hB : w0.heap.size ≤ B) (hne : p ≠ B)
    (hent : ∀ args w, (callFunc vf args).run Try.prog w = .ok (.enter vf args) w)
    (hvis : ∀ (k : Nat) (w : World), k ≤ 10000000 → w.cell? ⟨B, 0, none⟩ = some (bx go k) → w.frozen? ⟨B, 0, none⟩ = false → (go = false → k = 0) → Calls Try.prog vf #[.pointer (some ⟨B, 0, none⟩)] w fun e w' => e = .returned (.bool go) ∧ w' = w.setCell ⟨B, 0, none⟩ (bx go (k + 1))) :
    ∀ (n q : Nat), q + n = zs.length → ∀ (u : Nat → Bool) (k : Nat) (w : World), Below w0.heap.size w0 w → PBox w p (.slice A R.length c) ⟨(digs zs).toArray⟩ u (.func (.func vf) #[] #[.pointer (some ⟨B, 0, none⟩)]) → Bx w B (bx go k) → (go = false → k = 0) → k + ways R (zs.drop q) u ≤ 10000000 →
      Calls Try.prog 13 #[.pointer (some ⟨p, 0, none⟩), .int .i64 (q : Int)] w (RodPost w0 p B (.slice A R.length c) ⟨(digs zs).toArray⟩ u (.func (.func vf) #[] #[.pointer (some ⟨B, 0, none⟩)]) go k (ways R (zs.drop q) u)) := by
  have hs : (ByteArray.mk (digs zs).toArray).size = zs.length := by simp [ByteArray.size, digs, digsTo_len _ _ (Nat.le_refl _)]
  have ⟨z1, z6, _⟩ := numB_t hz
  have HZD := Lib.hid (numB_digit hz)
  have ⟨h10, hrod⟩ := caseB_t hrods
  have HROD := Lib.hid hrod
  have HVIS := Lib.hid hvis
  have HENT := Lib.hid hent
  clear hz hrods hrod hvis hent
  intro n
  induction n with
  | zero =>
    intro q hq u k w hb hP hX hk hsum
    obtain rfl : q = zs.length := by omega
    rw [List.drop_length] at hsum ⊢
    have hw1 : ways R [] u = 1 := rfl
    rw [hw1] at hsum ⊢
    have c1 := hP.c1
    have cv := hP.cv
    have HV := Lib.hid (HVIS.out k w (by omega) hX.c hX.f hk)
    have HPost : Hid (RodPost w0 p B (.slice A R.length c) ⟨(digs zs).toArray⟩ u (.func (.func vf) #[] #[.pointer (some ⟨B, 0, none⟩)]) go k 1 (.returned (.bool go)) (w.setCell ⟨B, 0, none⟩ (bx go (k + 1)))) :=
      Lib.hid ⟨by simp, hb.setCell (p := ⟨B, 0, none⟩) hB _, hP.kept (set_block w B 0 _ hne), hX.set _⟩
    clear hP hX hb hk hsum hw1
    go_enter Try.func13, Try.ntmps13
    go_wp2_with fail
    rw [HENT.out]
    refine HV.out.mono ?_
    rintro e w' ⟨rfl, rfl⟩
    go_wp2_with fail
    go_ret
    exact HPost.out
  | succ n ih =>
    intro q hq u k w hb hP hX hk hsum
    have hlt : q < zs.length := by omega
    obtain ⟨d, hd⟩ : ∃ d, nth zs q = d := ⟨_, rfl⟩
    have hdrop : zs.drop q = d :: zs.drop (q + 1) := by rw [List.drop_eq_getElem_cons hlt, nth_get hlt, hd]
    have hways : ways R (zs.drop q) u = sumN (wayF R d (zs.drop (q + 1)) u) R.length := by rw [hdrop, ways]; rfl
    rw [hways] at hsum ⊢
    have ⟨d0, d9⟩ := HZD.out q
    rw [hd] at d0 d9
    have HDA := Lib.hid (fun w => digitAt zs q hlt (by rw [hd]; exact d0) (by rw [hd]; exact d9) w)
    rw [hd] at HDA
    have ihq := ih (q + 1) (by omega)
    rw [show ((q + 1 : Nat) : Int) = (q : Int) + 1 from rfl] at ihq
    have IH := Lib.hid ihq
    have HSUM := Lib.hid hsum
    have HK := Lib.hid hk
    have HB := Lib.hid hb
    have HP := Lib.hid hP
    have HX := Lib.hid hX
    have c0 := hP.c0
    have c1 := hP.c1
    have hqe : ((q : Int) == (zs.length : Int)) = false := beq_eq_false_iff_ne.2 (by omega)
    obtain ⟨f, hf⟩ : ∃ f, wayF R d (zs.drop (q + 1)) u = f := ⟨_, rfl⟩
    have HF := Lib.hid hf
    rw [hf] at hsum HSUM ⊢
    clear ih ihq hd hdrop hways hsum hk hb hP hX hf
    go_enter Try.func13, Try.ntmps13
    go_wp2_with fail
    go_loopw [25] (fun x wr => ∃ i : Nat, i ≤ R.length ∧ x = .int .i64 (i : Int) ∧ Hid (Below w0.heap.size w0 wr ∧ PBox wr p (.slice A R.length c) ⟨(digs zs).toArray⟩ u (.func (.func vf) #[] #[.pointer (some ⟨B, 0, none⟩)]) ∧ Bx wr B (bx go (k + sumN f i)) ∧ (go = false → sumN f i = 0))) (fun x _ => R.length - (intOf x).toNat)
    case atStart => exact ⟨0, Nat.zero_le _, rfl, Lib.hid ⟨HB.out, HP.out, HX.out, fun _ => rfl⟩⟩
    case round =>
      obtain ⟨i, hi, rfl, HI⟩ := hrel
      by_cases hlt2 : i < R.length
      · obtain ⟨b, off, bi, oi, ci, rfl, hbl, hcc, hrs⟩ := (hR.below HI.out.1).at hlt2
        have hi10 : i < 10 := by omega
        have hi10I : (i : Int) < 10 := by omega
        have b1 := (Below.refl wr.heap.size wr).alloc (Nat.le_refl _) (.cells #[.slice (some ⟨bi, oi, none⟩) (sd R i).length ci] 29)
        have P1 := HI.out.2.1.below b1
        have X1 := HI.out.2.2.1.below b1
        have HB1 := Lib.hid (HI.out.1.trans (b1.mono HI.out.1.size))
        have HRS := Lib.hid (hrs.below b1)
        have hlen4 := (rodB_t (HROD.out i hlt2)).1
        have HF2 : Hid (sumN f (i + 1) = sumN f i + f i) := Lib.hid rfl
        have HFI : Hid (f i = if fitB R u d i = true then ways R (zs.drop (q + 1)) (setU u i true) else 0) := Lib.hid (by rw [← HF.out]; rfl)
        have HLE := Lib.hid (sumN_part f hlt2)
        have hrc : (wr.alloc (.cells #[.slice (some ⟨bi, oi, none⟩) (sd R i).length ci] 29)).cell? ⟨wr.heap.size, 0, none⟩ = some (.slice (some ⟨bi, oi, none⟩) (sd R i).length ci) := by simp
        obtain ⟨s, hs⟩ : ∃ s, sd R i = s := ⟨_, rfl⟩
        have HSD := Lib.hid hs
        rw [hs] at hcc P1 X1 HB1 HRS hlen4 hrc
        rw [hlen4] at hcc P1 X1 HB1 HRS hrc
        have H4 := Lib.hid hlen4
        have l0 := later_cell (P1.cu i hi10)
        have l1 := later_cell P1.c1
        have l2 := later_cell hrc
        have hy := later_refl (wr.alloc (.cells #[.slice (some ⟨bi, oi, none⟩) 4 ci] 29))
        have HP1 := Lib.hid P1
        have HX1 := Lib.hid X1
        clear hs hrs b1 P1 X1 hrc hlen4
        cases hu : u i
        · rw [hu] at l0
          obtain ⟨m, hm⟩ : ∃ m, ways R (zs.drop (q + 1)) (setU u i true) = m := ⟨_, rfl⟩
          have HU := Lib.hid hu
          have HHS := Lib.hid (fun (x : Later (wr.alloc (.cells #[.slice (some ⟨bi, oi, none⟩) 4 ci] 29))) => hasSide bi oi ci s d x.val (HRS.out.below x.bel) (by rw [H4.out]; omega))
          rw [H4.out] at HHS
          have HHF : Hid (f i = if hasB s d = true then m else 0) := Lib.hid (by rw [HFI.out, hm, fitB, hu, HSD.out]; simp)
          have HIH := Lib.hid (IH.out (setU u i true))
          rw [hm] at HIH
          cases hh : hasB s d
          · rw [hh] at HHS
            have HZ : Hid (f i = 0) := Lib.hid (by rw [HHF.out, hh]; simp)
            clear hu hm hh
            go_wp2_with fail
            refine wp_region_later (by kernel_rfl) (by kernel_rfl) ?_
            iterate 13 (quiet_step (fail))
            refine wpQuiet_step (fun K hK => ?_)
            go_simp
            refine ⟨.int .i64 d, fun x => later_same (x := x) (HDA.out x.val), hK _ ?_⟩
            clear hK K
            refine wpQuiet_step (fun K hK => ?_)
            go_simp
            refine ⟨.bool false, fun x => later_call (x := x) (HHS.out x), hK _ ?_⟩
            clear hK K
            iterate 2 (quiet_step (fail))
            refine wpQuiet_nil ?_
            intro w' hw'
            obtain ⟨⟨w2, b2⟩, hw''⟩ := hw'
            obtain rfl : w' = w2 := hw''
            have HN : Hid (Below w0.heap.size w0 w' ∧ PBox w' p (.slice (some ⟨b, off, none⟩) R.length c) ⟨(digs zs).toArray⟩ u (.func (.func vf) #[] #[.pointer (some ⟨B, 0, none⟩)]) ∧ Bx w' B (bx go (k + sumN f (i + 1))) ∧ (go = false → sumN f (i + 1) = 0)) := Lib.hid (by
              rw [HF2.out, HZ.out, Nat.add_zero]
              exact ⟨bstep HB1.out b2, HP1.out.below b2, HX1.out.below b2, HI.out.2.2.2⟩)
            clear hy l0 l1 l2 b2
            go_wp2_with fail
            go_roundw
            case rel => exact ⟨i + 1, by omega, by go_num, HN⟩
            case measure => simp [intOf]; omega
          · rw [hh] at HHS
            have HZ : Hid (f i = m) := Lib.hid (by rw [HHF.out, hh]; simp)
            clear hu hm hh
            go_wp2_with fail
            refine wp_region_later (by kernel_rfl) (by kernel_rfl) ?_
            iterate 13 (quiet_step (fail))
            refine wpQuiet_step (fun K hK => ?_)
            go_simp
            refine ⟨.int .i64 d, fun x => later_same (x := x) (HDA.out x.val), hK _ ?_⟩
            clear hK K
            refine wpQuiet_step (fun K hK => ?_)
            go_simp
            refine ⟨.bool true, fun x => later_call (x := x) (HHS.out x), hK _ ?_⟩
            clear hK K
            iterate 2 (quiet_step (fail))
            refine wpQuiet_nil ?_
            intro w' hw'
            obtain ⟨⟨w2, b2⟩, hw''⟩ := hw'
            obtain rfl : w' = w2 := hw''
            have P2 := HP1.out.below b2
            have X2 := HX1.out.below b2
            have HB2 := Lib.hid (bstep HB1.out b2)
            have cu2 := P2.cu i hi10
            have fu2 := P2.fz (2 + i)
            have hsz2 := P2.lt
            have HC := Lib.hid (HIH.out (k + sumN f i) (w'.setCell ⟨p, 2 + i, none⟩ (.bool true)) (HB2.out.setCell (p := ⟨p, 2 + i, none⟩) hp _) (P2.set hi10 true) (X2.kept (set_block w' p (2 + i) _ hne.symm))
              (fun hg => by rw [HK.out hg, HI.out.2.2.2 hg]) (by have h1 := HLE.out; have h2 := HSUM.out; have h3 := HZ.out; omega))
            have wq : IntKind.i64.wrap ((q : Int) + 1) = (q : Int) + 1 := IntWalk.i64_in _ (by omega)
            clear hy l0 l1 l2 b2 P2 X2
            go_wp2_with fail
            refine HC.out.mono ?_
            rintro e w4 ⟨rfl, b4, P4, X4⟩
            have cu4 := P4.cu i hi10
            have fu4 := P4.fz (2 + i)
            have P5 := P4.set hi10 false
            rw [setU_back HU.out] at P5
            have X5 := X4.kept (set_block w4 p (2 + i) (.bool false) hne.symm)
            have HB5 := Lib.hid (b4.setCell (p := ⟨p, 2 + i, none⟩) hp (.bool false))
            have HP5 := Lib.hid P5
            have HX5 := Lib.hid X5
            clear P4 X4 b4 P5 X5
            have HXS : Hid (k + sumN f i + m = k + sumN f (i + 1)) := Lib.hid (by rw [HF2.out, HZ.out]; omega)
            cases hg : go
            · subst hg
              by_cases hm0 : m = 0
              · subst hm0
                have HN : Hid (sumN f (i + 1) = 0) := Lib.hid (by rw [HF2.out, HZ.out, HI.out.2.2.2 rfl])
                rw [HXS.out] at HX5
                go_wp2_with fail
                go_roundw
                case rel => exact ⟨i + 1, by omega, by go_num, Lib.hid ⟨HB5.out, HP5.out, HX5.out, fun _ => HN.out⟩⟩
                case measure => simp [intOf]; omega
              · have hmd : decide (m = 0) = false := by simpa using hm0
                have hpos : 0 < sumN f R.length := by have := HLE.out; have := HZ.out; omega
                have HPost : Hid (RodPost w0 p B (.slice (some ⟨b, off, none⟩) R.length c) ⟨(digs zs).toArray⟩ u (.func (.func vf) #[] #[.pointer (some ⟨B, 0, none⟩)]) false k (sumN f R.length) (.returned (.bool false)) (w4.setCell ⟨p, 2 + i, none⟩ (.bool false))) := Lib.hid (by
                  refine ⟨?_, HB5.out, HP5.out, ?_⟩
                  · have e : decide (sumN f R.length = 0) = false := by simp; omega
                    rw [e]; rfl
                  · have e : bx false (k + sumN f R.length) = bx false (k + sumN f i + m) := by
                      unfold bx
                      have e1 : decide (0 < k + sumN f R.length) = true := by simp; omega
                      have e2 : decide (0 < k + sumN f i + m) = true := by simp; omega
                      rw [e1, e2]; rfl
                    rw [e]; exact HX5.out)
                clear hpos hm0
                go_wp2_with fail
                go_ret
                exact HPost.out
            · subst hg
              rw [HXS.out] at HX5
              go_wp2_with fail
              go_roundw
              case rel => exact ⟨i + 1, by omega, by go_num, Lib.hid ⟨HB5.out, HP5.out, HX5.out, fun h => (by cases h)⟩⟩
              case measure => simp [intOf]; omega
        · have HZ : Hid (f i = 0) := Lib.hid (by rw [HFI.out]; simp [fitB, hu])
          rw [hu] at l0
          go_wp2_with fail
          refine wp_region_later (by kernel_rfl) (by kernel_rfl) ?_
          repeat (go_big_quiet_step (fail))
          refine wpQuiet_nil ?_
          intro w' hw'
          obtain ⟨⟨w2, b2⟩, hw''⟩ := hw'
          obtain rfl : w' = w2 := hw''
          have HN : Hid (Below w0.heap.size w0 w' ∧ PBox w' p (.slice (some ⟨b, off, none⟩) R.length c) ⟨(digs zs).toArray⟩ u (.func (.func vf) #[] #[.pointer (some ⟨B, 0, none⟩)]) ∧ Bx w' B (bx go (k + sumN f (i + 1))) ∧ (go = false → sumN f (i + 1) = 0)) := Lib.hid (by
            rw [HF2.out, HZ.out, Nat.add_zero]
            exact ⟨bstep HB1.out b2, HP1.out.below b2, HX1.out.below b2, HI.out.2.2.2⟩)
          clear hy l0 l1 l2 b2
          go_wp2_with fail
          go_roundw
          case rel => exact ⟨i + 1, by omega, by go_num, HN⟩
          case measure => simp [intOf]; omega
      · obtain rfl : i = R.length := by omega
        have HPost : Hid (RodPost w0 p B (.slice A R.length c) ⟨(digs zs).toArray⟩ u (.func (.func vf) #[] #[.pointer (some ⟨B, 0, none⟩)]) go k (sumN f R.length) (.returned (.bool true)) wr) := Lib.hid (by
          refine ⟨?_, HI.out.1, HI.out.2.1, HI.out.2.2.1⟩
          cases go
          · rw [HI.out.2.2.2 rfl]; rfl
          · rfl)
        go_wp2_with fail
        go_ret
        exact HPost.out

theorem visit_ways (B k : Nat) (w : World) (hk : k ≤ 10000000) (hc : w.cell? ⟨B, 0, none⟩ = some (bx true k)) (hf : w.frozen? ⟨B, 0, none⟩ = false) :
    Calls Try.prog 12 #[.pointer (some ⟨B, 0, none⟩)] w fun e w' => e = .returned (.bool true) ∧ w' = w.setCell ⟨B, 0, none⟩ (bx true (k + 1)) := by
  have hc2 : w.cell? ⟨B, 0, none⟩ = some (.int .i64 (k : Int)) := hc
  have HE : Hid (bx true (k + 1) = .int .i64 ((k : Int) + 1)) := Lib.hid rfl
  clear hc
  go_enter Try.func12, Try.ntmps12
  go_wp2_with fail
  go_ret
  exact ⟨rfl, by rw [HE.out]⟩
theorem visit_shows (B k : Nat) (w : World) (hc : w.cell? ⟨B, 0, none⟩ = some (bx false k)) (hf : w.frozen? ⟨B, 0, none⟩ = false) :
    Calls Try.prog 17 #[.pointer (some ⟨B, 0, none⟩)] w fun e w' => e = .returned (.bool false) ∧ w' = w.setCell ⟨B, 0, none⟩ (bx false (k + 1)) := by
  have hc2 : w.cell? ⟨B, 0, none⟩ = some (.bool (decide (0 < k))) := hc
  have HE : Hid (bx false (k + 1) = .bool true) := Lib.hid (by simp [bx])
  clear hc
  go_enter Try.func17, Try.ntmps17
  go_wp2_with fail
  go_ret
  exact ⟨rfl, by rw [HE.out]⟩

def noU : Nat → Bool := fun _ => false
def wayT (R : List (List Int)) (zs : List Int) : Int := if numB zs && caseB R then (ways R zs noU : Int) else -1
def shoT (R : List (List Int)) (zs : List Int) : Bool := numB zs && caseB R && decide (0 < ways R zs noU)

theorem wayT_le {R : List (List Int)} {zs : List Int} (hz : numB zs = true) (hR : caseB R = true) : ways R zs noU ≤ 1000000 := by
  have h1 := ways_le (caseB_t hR).1 zs noU
  have h2 : 10 ^ zs.length ≤ 10 ^ 6 := Nat.pow_le_pow_right (by omega) (numB_t hz).2.1
  exact Nat.le_trans h1 h2

theorem boxes_start (w : World) (v rv vis : Value) (T : ByteArray) (t : TypeId) :
    PBox ((w.alloc (.cells #[v] t)).alloc (.cells #[rv, .string T, .bool false, .bool false, .bool false, .bool false, .bool false, .bool false, .bool false, .bool false, .bool false, .bool false, vis] 41)) (w.heap.size + 1) rv T noU vis
    ∧ Bx ((w.alloc (.cells #[v] t)).alloc (.cells #[rv, .string T, .bool false, .bool false, .bool false, .bool false, .bool false, .bool false, .bool false, .bool false, .bool false, .bool false, vis] 41)) w.heap.size v
    ∧ Below w.heap.size w ((w.alloc (.cells #[v] t)).alloc (.cells #[rv, .string T, .bool false, .bool false, .bool false, .bool false, .bool false, .bool false, .bool false, .bool false, .bool false, .bool false, vis] 41)) := by
  have h1 := heap_alloc_new (w.alloc (.cells #[v] t)) (.cells #[rv, .string T, .bool false, .bool false, .bool false, .bool false, .bool false, .bool false, .bool false, .bool false, .bool false, .bool false, vis] 41)
  have h0 : ((w.alloc (.cells #[v] t)).alloc (.cells #[rv, .string T, .bool false, .bool false, .bool false, .bool false, .bool false, .bool false, .bool false, .bool false, .bool false, .bool false, vis] 41)).heap[w.heap.size]? = some (.cells #[v] t) :=
    (Below.heap_alloc _ _ _ (by simp)).trans (heap_alloc_new w _)
  rw [World.size_alloc] at h1
  have hb : Below w.heap.size w ((w.alloc (.cells #[v] t)).alloc (.cells #[rv, .string T, .bool false, .bool false, .bool false, .bool false, .bool false, .bool false, .bool false, .bool false, .bool false, .bool false, vis] 41)) := ((Below.refl _ w).alloc (Nat.le_refl _) _).alloc (by simp) _
  generalize (w.alloc (.cells #[v] t)).alloc (.cells #[rv, .string T, .bool false, .bool false, .bool false, .bool false, .bool false, .bool false, .bool false, .bool false, .bool false, .bool false, vis] 41) = W at *
  refine ⟨⟨by simp [World.cell?, h1], by simp [World.cell?, h1], fun i hi => ?_, by simp [World.cell?, h1], fun j => by simp [World.frozen?, h1]⟩, ⟨by simp [World.cell?, h0], by simp [World.frozen?, h0]⟩, hb⟩
  have e : W.cell? ⟨w.heap.size + 1, 2 + i, none⟩ = some (.bool false) := by
    rcases (show i = 0 ∨ i = 1 ∨ i = 2 ∨ i = 3 ∨ i = 4 ∨ i = 5 ∨ i = 6 ∨ i = 7 ∨ i = 8 ∨ i = 9 by omega) with rfl | rfl | rfl | rfl | rfl | rfl | rfl | rfl | rfl | rfl <;> simp [World.cell?, h1]
  exact e

set_option maxRecDepth 100000 in
set_option maxHeartbeats 1000000 in
theorem impl_CaseWays (A B0 : Option Addr) (c d : Nat) (R : List (List Int)) (zs : List Int) (w : World) (hR : RdR w 0 A R) (hz : Rd .i64 w B0 zs) (lR : R.length ≤ 4194304) (lz : zs.length ≤ 4194304) :
    Calls Try.prog 5 #[.slice A R.length c, .slice B0 zs.length d] w fun e w' => e = .returned (.int .i64 (wayT R zs)) ∧ Below w.heap.size w w' := by
  have HD := Lib.hid (digitsOf B0 d zs w hz lz)
  go_enter Try.func5, Try.ntmps5
  go_wp2_with fail
  refine HD.out.mono ?_
  rintro e w1 ⟨T, rfl, hT, b1⟩
  cases hn : numB zs
  · have HF : Hid (wayT R zs = -1) := Lib.hid (by simp [wayT, hn])
    clear hT hn
    go_wp2_with fail
    go_ret
    exact ⟨ret_int HF.out.symm, b1⟩
  obtain rfl := hT hn
  have HCV := Lib.hid (impl_CaseValid 0 A c R w1 (hR.below b1) lR)
  cases hcb : caseB R
  · have HF : Hid (wayT R zs = -1) := Lib.hid (by simp [wayT, hcb])
    rw [hcb] at HCV
    have HB1 := Lib.hid b1
    clear hT hn hcb b1
    go_wp2_with fail
    refine HCV.out.mono ?_
    rintro e w2 ⟨rfl, b2⟩
    go_wp2_with fail
    go_ret
    exact ⟨ret_int HF.out.symm, bstep HB1.out b2⟩
  rw [hcb] at HCV
  have HF : Hid (wayT R zs = (ways R zs noU : Int)) := Lib.hid (by simp [wayT, hcb, hn])
  have HLE := Lib.hid (wayT_le hn hcb)
  have HN := Lib.hid hn
  have HC := Lib.hid hcb
  have HB1 := Lib.hid b1
  clear hT hn hcb b1
  go_wp2_with fail
  refine HCV.out.mono ?_
  rintro e w2 ⟨rfl, b2⟩
  have HB2 := Lib.hid (bstep HB1.out b2)
  have HST := Lib.hid (boxes_start w2 (.int .i64 0) (.slice A R.length c) (.func (.func 12) #[] #[.pointer (some ⟨w2.heap.size, 0, none⟩)]) ⟨(digs zs).toArray⟩ 3)
  have HPK := Lib.hid (rodPick true 12 A c R zs w2 (w2.heap.size + 1) w2.heap.size (hR.below HB2.out) HC.out HN.out (by omega) (Nat.le_refl _) (by omega) (enters_of Try.func12 (by kernel_rfl) rfl) (fun k w h1 h2 h3 _ => visit_ways w2.heap.size k w h1 h2 h3) zs.length 0 (Nat.zero_add _) noU 0 _ HST.out.2.2 HST.out.1 HST.out.2.1 (fun h => by cases h) (by have := HLE.out; simpa using Nat.le_trans this (by decide)))
  clear b2
  go_wp2_with fail
  refine HPK.out.mono ?_
  rintro e w3 ⟨rfl, b3, _, X3⟩
  have hv : w3.cell? ⟨w2.heap.size, 0, none⟩ = some (.int .i64 (wayT R zs)) := by
    rw [X3.c, HF.out, Nat.zero_add]; rfl
  have HB3 := Lib.hid (bstep HB2.out b3)
  clear X3 b3
  go_wp2_with fail
  go_ret
  exact ⟨rfl, HB3.out⟩

set_option maxRecDepth 100000 in
set_option maxHeartbeats 1000000 in
theorem impl_CaseShows (A B0 : Option Addr) (c d : Nat) (R : List (List Int)) (zs : List Int) (w : World) (hR : RdR w 0 A R) (hz : Rd .i64 w B0 zs) (lR : R.length ≤ 4194304) (lz : zs.length ≤ 4194304) :
    Calls Try.prog 7 #[.slice A R.length c, .slice B0 zs.length d] w fun e w' => e = .returned (.bool (shoT R zs)) ∧ Below w.heap.size w w' := by
  have HD := Lib.hid (digitsOf B0 d zs w hz lz)
  go_enter Try.func7, Try.ntmps7
  go_wp2_with fail
  refine HD.out.mono ?_
  rintro e w1 ⟨T, rfl, hT, b1⟩
  cases hn : numB zs
  · have HF : Hid (shoT R zs = false) := Lib.hid (by simp [shoT, hn])
    clear hT hn
    go_wp2_with fail
    go_ret
    exact ⟨ret_bool HF.out.symm, b1⟩
  obtain rfl := hT hn
  have HCV := Lib.hid (impl_CaseValid 0 A c R w1 (hR.below b1) lR)
  cases hcb : caseB R
  · have HF : Hid (shoT R zs = false) := Lib.hid (by simp [shoT, hcb])
    rw [hcb] at HCV
    have HB1 := Lib.hid b1
    clear hT hn hcb b1
    go_wp2_with fail
    refine HCV.out.mono ?_
    rintro e w2 ⟨rfl, b2⟩
    go_wp2_with fail
    go_ret
    exact ⟨ret_bool HF.out.symm, bstep HB1.out b2⟩
  rw [hcb] at HCV
  have HF : Hid (shoT R zs = decide (0 < ways R zs noU)) := Lib.hid (by simp [shoT, hcb, hn])
  have HLE := Lib.hid (wayT_le hn hcb)
  have HN := Lib.hid hn
  have HC := Lib.hid hcb
  have HB1 := Lib.hid b1
  clear hT hn hcb b1
  go_wp2_with fail
  refine HCV.out.mono ?_
  rintro e w2 ⟨rfl, b2⟩
  have HB2 := Lib.hid (bstep HB1.out b2)
  have HST := Lib.hid (boxes_start w2 (.bool false) (.slice A R.length c) (.func (.func 17) #[] #[.pointer (some ⟨w2.heap.size, 0, none⟩)]) ⟨(digs zs).toArray⟩ 4)
  have HPK := Lib.hid (rodPick false 17 A c R zs w2 (w2.heap.size + 1) w2.heap.size (hR.below HB2.out) HC.out HN.out (by omega) (Nat.le_refl _) (by omega) (enters_of Try.func17 (by kernel_rfl) rfl) (fun k w _ h2 h3 _ => visit_shows w2.heap.size k w h2 h3) zs.length 0 (Nat.zero_add _) noU 0 _ HST.out.2.2 HST.out.1 HST.out.2.1 (fun _ => rfl) (by have := HLE.out; simpa using Nat.le_trans this (by decide)))
  clear b2
  go_wp2_with fail
  refine HPK.out.mono ?_
  rintro e w3 ⟨rfl, b3, _, X3⟩
  have hv : w3.cell? ⟨w2.heap.size, 0, none⟩ = some (.bool (shoT R zs)) := by
    rw [X3.c, HF.out, Nat.zero_add]; rfl
  have HB3 := Lib.hid (bstep HB2.out b3)
  clear X3 b3
  go_wp2_with fail
  go_ret
  exact ⟨rfl, HB3.out⟩
end Go.Proofs.Ytnmfppjjhbkfmaa
