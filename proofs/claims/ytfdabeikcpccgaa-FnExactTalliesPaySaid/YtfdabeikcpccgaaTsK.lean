/- markTallyS and heldTallyS. -/
import Derived.Test.YtfdabeikcpccgaaTsM
namespace Go.Proofs.Ytfdabeikcpccgaa
open Go.RowKit

/-- The tally marked from q on. -/
def mkTl (q : Nat) : Tl := ⟨q, (q : Int) + 1, str (mkS (q + 2)), str (mkS (q + 3))⟩
def Marked (n j : Nat) (us : List Tl) : Prop := us.length = n ∧ ∀ i, i < j → us[i]? = some (mkTl (1 + 4 * i))

theorem ownsRow_cell {w : World} {base g c n : Nat} {xs : List Value} (h : w.ownsRow base 28 4 (.slice (some ⟨g, 0, none⟩) n c) n xs) {j : Nat} {v : Value} (hv : xs[j]? = some v) (hj : j < n * 4) : w.cell? ⟨g, j, none⟩ = some v := by
  rw [World.ownsRow.cellAt h j hj, hv]

set_option maxRecDepth 100000 in
set_option maxHeartbeats 1000000 in
theorem markTallyS (A : Option Addr) (c base : Nat) (ts : List Tl) (w : World) (h : TSl w base A c ts) (hn : ts.length ≤ 1048576) :
    Calls Try.prog 39 #[.slice A ts.length c, .int .i64 1] w fun e w' => ∃ us, Marked ts.length ts.length us ∧ e = .returned (.int .i64 (1 + 4 * (ts.length : Int))) ∧ TSl w' base A c us ∧ w.grownBy w' (blk A) := by
  go_enter Try.func39, Try.ntmps39
  go_wp2_with fail
  go_loopw [1, 5] (fun q i wr => ∃ (j m : Nat) (us : List Tl), j ≤ ts.length ∧ i = .int .i64 j ∧ q = .int .i64 (m : Int) ∧ m = 1 + 4 * j ∧ Hid (Marked ts.length j us) ∧ TSl wr base A c us ∧ w.grownBy wr (blk A)) (fun _ i _ => ts.length - (intOf i).toNat)
  case atStart => exact ⟨0, 1, ts, Nat.zero_le _, rfl, rfl, rfl, Lib.hid ⟨rfl, fun i hi => by omega⟩, h, World.grownBy.refl _ _⟩
  case round =>
    obtain ⟨j, m, us, hj, rfl, rfl, hm, HM, hs, hg⟩ := hrel
    have HMM := Lib.hid hm
    have m1 : 1 ≤ m := by omega
    have m2 : m ≤ 4194305 := by omega
    clear hm
    by_cases hlt : j < ts.length
    · have hul : us.length = ts.length := HM.out.1
      rcases hs.form with ⟨_, _, h0⟩ | ⟨g, rfl, hgb, hgl, _⟩
      · rw [h0] at hul; simp at hul; omega
      obtain ⟨u, hu, c0, c1, c2, c3⟩ := hs.at0 (k := j) (by omega)
      have f0 := hs.free (j * 4)
      have f1 := hs.free (j * 4 + 1)
      have O0 : wr.ownsRow base 28 4 (.slice (some ⟨g, 0, none⟩) us.length c) us.length (tcells us) := hs
      have O1 := (World.ownsRow.stored (World.ownsRow.stored O0 (j * 4) (.int .i64 (m : Int))).1 (j * 4 + 1) (.int .i64 ((m : Int) + 1))).1
      have G1 := grownBy_trans hg (grownBy_trans (grownBy_set wr g (j * 4) (.int .i64 (m : Int))) (grownBy_set _ g (j * 4 + 1) (.int .i64 ((m : Int) + 1))))
      have t2 : (tcells us)[j * 4 + 2]? = some (.string u.s) := by rw [tcells_get us j 2 u hu (by omega)]; rfl
      have t3 : (tcells us)[j * 4 + 3]? = some (.string u.f) := by rw [tcells_get us j 3 u hu (by omega)]; rfl
      have HT2 := Lib.hid t2
      have HT3 := Lib.hid t3
      have HO1 := Lib.hid O1
      have HG1 := Lib.hid G1
      have HUL := Lib.hid hul
      clear O0 O1 G1 t2 t3 hul hu hs hg
      go_wp2_with fail
      rw [show (m : Int) + 1 + 1 = ((m + 2 : Nat) : Int) by omega]
      refine (markText (m + 2) _ (by omega) (by omega)).mono ?_
      rintro e w1 ⟨rfl, b1⟩
      have O1 := World.ownsRow.kept HO1.out (row := none) (grownBy_of_below b1 none) (by simp [Value.ownBlock])
      have G1 := grownBy_trans HG1.out (grownBy_of_below b1 _)
      have c4 := ownsRow_cell O1 (j := j * 4 + 2) (v := .string u.s) (by rw [List.getElem?_set_ne (by omega), List.getElem?_set_ne (by omega)]; exact HT2.out) (by have := HUL.out; omega)
      have f4 := World.ownsRow.frozenAt O1 (j * 4 + 2)
      have HO2 := Lib.hid (World.ownsRow.stored O1 (j * 4 + 2) (.string (str (mkS (m + 2))))).1
      have HG2 := Lib.hid (grownBy_trans G1 (grownBy_set w1 g (j * 4 + 2) (.string (str (mkS (m + 2))))))
      clear O1 G1 b1 c0 c1 c2 c3 f0 f1 HO1 HG1
      go_wp2_with fail
      rw [show (m : Int) + 2 + 1 = ((m + 3 : Nat) : Int) by omega]
      refine (markText (m + 3) _ (by omega) (by omega)).mono ?_
      rintro e w2 ⟨rfl, b2⟩
      have O2 := World.ownsRow.kept HO2.out (row := none) (grownBy_of_below b2 none) (by simp [Value.ownBlock])
      have G2 := grownBy_trans HG2.out (grownBy_of_below b2 _)
      have c5 := ownsRow_cell O2 (j := j * 4 + 3) (v := .string u.f) (by rw [List.getElem?_set_ne (by omega), List.getElem?_set_ne (by omega), List.getElem?_set_ne (by omega)]; exact HT3.out) (by have := HUL.out; omega)
      have f5 := World.ownsRow.frozenAt O2 (j * 4 + 3)
      have O3 := (World.ownsRow.stored O2 (j * 4 + 3) (.string (str (mkS (m + 3))))).1
      have HG3 := Lib.hid (grownBy_trans G2 (grownBy_set w2 g (j * 4 + 3) (.string (str (mkS (m + 3))))))
      have e3 := tcells_set us j (mkTl m) (by have := HUL.out; omega)
      simp only [mkTl] at e3
      rw [e3] at O3
      have HS3 : Hid (TSl (w2.setCell ⟨g, j * 4 + 3, none⟩ (.string (str (mkS (m + 3))))) base (some ⟨g, 0, none⟩) c (us.set j (mkTl m))) := Lib.hid (by
        unfold TSl
        rw [List.length_set]
        exact O3)
      have HM3 : Hid (Marked ts.length (j + 1) (us.set j (mkTl m))) := Lib.hid (by
        refine ⟨by rw [List.length_set]; exact HUL.out, fun i hi => ?_⟩
        rcases Nat.lt_or_ge i j with h1 | h1
        · rw [List.getElem?_set_ne (by omega)]
          exact HM.out.2 i h1
        · obtain rfl : i = j := by omega
          rw [List.getElem?_set_self (by have := HUL.out; omega), HMM.out])
      clear O2 G2 b2 c4 f4 HO2 HG2 O3 e3
      go_wp2_with fail
      go_roundw
      case rel => exact ⟨j + 1, m + 4, us.set j (mkTl m), by omega, by go_num, by go_num, by have := HMM.out; omega, HM3, HS3.out, HG3.out⟩
      case measure => simp [intOf]; omega
    · go_wp2_with fail
      go_ret
      obtain rfl : j = ts.length := by omega
      exact ⟨us, HM.out, ret_int (by have := HMM.out; omega), hs, hg⟩

set_option maxRecDepth 100000 in
set_option maxHeartbeats 1000000 in
theorem heldTallyS (A : Option Addr) (c n : Nat) (us : List Tl) (w : World) (h : TRd w A us) (hM : Marked n n us) (hn : n ≤ 1048576) :
    Calls Try.prog 40 #[.slice A n c, .int .i64 1] w fun e w' => e = .returned (.int .i64 (1 + 4 * (n : Int))) ∧ Below w.heap.size w w' := by
  have HM := Lib.hid hM
  clear hM
  go_enter Try.func40, Try.ntmps40
  go_wp2_with fail
  go_loopw [1, 5] (fun q i wr => ∃ (j m : Nat), j ≤ n ∧ i = .int .i64 j ∧ q = .int .i64 (m : Int) ∧ m = 1 + 4 * j ∧ Below w.heap.size w wr) (fun _ i _ => n - (intOf i).toNat)
  case atStart => exact ⟨0, 1, Nat.zero_le _, rfl, rfl, rfl, Below.refl _ _⟩
  case round =>
    obtain ⟨j, m, hj, rfl, rfl, hm, hb⟩ := hrel
    have HMM := Lib.hid hm
    have m1 : 1 ≤ m := by omega
    have m2 : m ≤ 4194305 := by omega
    clear hm
    by_cases hlt : j < n
    · obtain ⟨b, off, t, rfl, hbl, ht, hc⟩ := h.at (k := j) (by have := HM.out.1; omega)
      have hte : t = mkTl m := by
        have := HM.out.2 j hlt
        rw [ht, ← HMM.out] at this
        injection this
      subst hte
      obtain ⟨c0, c1, c2, c3⟩ := hc.below hb hbl
      simp only [mkTl] at c0 c1 c2 c3
      have hbr : b < wr.heap.size := Nat.lt_of_lt_of_le hbl hb.size
      clear ht hc
      have y2 := later_cell c2
      have hy := later_refl wr
      have HK2 : Hid (∀ w : World, Calls Try.prog 55 #[.int .i64 ((m : Int) + 1 + 1)] w fun e w' => e = .returned (.string (str (mkS (m + 2)))) ∧ Below w.heap.size w w') := Lib.hid (fun w => by
        rw [show (m : Int) + 1 + 1 = ((m + 2 : Nat) : Int) by omega]
        exact markText (m + 2) w (by omega) (by omega))
      have HK3 : Hid (∀ w : World, Calls Try.prog 55 #[.int .i64 ((m : Int) + 1 + 1 + 1)] w fun e w' => e = .returned (.string (str (mkS (m + 3)))) ∧ Below w.heap.size w w') := Lib.hid (fun w => by
        rw [show (m : Int) + 1 + 1 + 1 = ((m + 3 : Nat) : Int) by omega]
        exact markText (m + 3) w (by omega) (by omega))
      go_wp2_with fail
      refine wp_region_later (by kernel_rfl) (by kernel_rfl) ?_
      iterate 6 quiet_step (fail)
      refine wpQuiet_step (fun K hK => ?_)
      go_simp
      refine ⟨.string (str (mkS (m + 2))), fun x => later_call (x := x) (HK2.out _), hK _ ?_⟩
      clear hK K
      quiet_step (fail)
      refine wpQuiet_nil ?_
      intro w' hw'
      obtain ⟨⟨w1, b1⟩, hw''⟩ := hw'
      obtain rfl : w' = w1 := hw''
      have d3 := (b1.cell (p := ⟨b, _, none⟩) hbr).trans c3
      have hb1 := bstep hb b1
      have hbr1 := Nat.lt_of_lt_of_le hbr b1.size
      clear hy y2 c0 c1 c2 c3 b1 hb
      have y3 := later_cell d3
      have hy := later_refl w'
      go_wp2_with fail
      refine wp_region_later (by kernel_rfl) (by kernel_rfl) ?_
      iterate 6 quiet_step (fail)
      refine wpQuiet_step (fun K hK => ?_)
      go_simp
      refine ⟨.string (str (mkS (m + 3))), fun x => later_call (x := x) (HK3.out _), hK _ ?_⟩
      clear hK K
      quiet_step (fail)
      refine wpQuiet_nil ?_
      intro w'' hw'
      obtain ⟨⟨w1, b1⟩, hw''⟩ := hw'
      obtain rfl : w'' = w1 := hw''
      have hb2 := bstep hb1 b1
      clear hy y3 d3 b1 hb1
      go_wp2_with fail
      go_roundw
      case rel => exact ⟨j + 1, m + 4, by omega, by go_num, by go_num, by have := HMM.out; omega, hb2⟩
      case measure => simp [intOf]; omega
    · go_wp2_with fail
      go_ret
      obtain rfl : j = n := by omega
      exact ⟨ret_int (by have := HMM.out; omega), hb⟩
end Go.Proofs.Ytfdabeikcpccgaa
