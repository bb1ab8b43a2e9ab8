/- The contract of the program's FrameShift. -/
import Derived.Test.YtfdbhaojdccomaaShS
import Derived.Test.YtfdbhaojdccomaaCopy2
namespace Go.Proofs.Ytfdbhaojdccomaa
open Go.RowKit

theorem dg_last {hs ls : List Int} (ok : FrOk hs ls) : fdig hs ls ((hs.length : Int) - 1) = 5 * nth hs (hs.length - 1) + nth ls (hs.length - 1) := by
  have n1 := ok.n1
  unfold fdig
  rw [ok_frB ok, inB_of (by omega) (by omega)]
  simp only [Bool.and_self, if_true]
  rw [show ((hs.length : Int) - 1).toNat = hs.length - 1 by omega]
  simp [dg]

theorem inter_app : ∀ (hs ls hs' ls' : List Int), hs.length = ls.length → inter (hs ++ hs') (ls ++ ls') = inter hs ls ++ inter hs' ls'
  | [], [], _, _, _ => rfl
  | h :: hs, l :: ls, hs', ls', he => by
    simp only [List.cons_append, inter]
    rw [inter_app hs ls hs' ls' (by simpa using he)]
theorem inter_take {hs ls : List Int} (he : hs.length = ls.length) (m : Nat) (hm : m ≤ hs.length) : (inter hs ls).take (m * 2) = inter (hs.take m) (ls.take m) := by
  have e := inter_app (hs.take m) (ls.take m) (hs.drop m) (ls.drop m) (by rw [List.length_take, List.length_take]; omega)
  rw [List.take_append_drop, List.take_append_drop] at e
  rw [e, List.take_left' (by rw [inter_len (by rw [List.length_take, List.length_take]; omega), List.length_take]; omega)]
theorem inter_sh {hs ls : List Int} (he : hs.length = ls.length) : [Value.int .i64 0, .int .i64 0] ++ (inter hs ls).take ((hs.length - 1) * 2) = inter (sh hs) (sh ls) := by
  rw [inter_take he _ (by omega)]
  simp only [sh, inter, ← he]
  rfl
theorem inter_one : ∀ {hs ls : List Int}, ∀ v ∈ inter hs ls, v.oneCell' = true
  | [], _, v, h => by simp [inter] at h
  | _ :: _, [], v, h => by simp [inter] at h
  | a :: hs, b :: ls, v, h => by
    simp only [inter, List.mem_cons] at h
    rcases h with rfl | rfl | h
    · rfl
    · rfl
    · exact inter_one v h

/-- The new row in the region of the copy. -/
def CpI (W : World) (g n : Nat) (w : World) : Prop := W.grownBy w (some g) ∧ ∃ cur, w.heap[g]? = some (.cells cur 56 (0, 0)) ∧ cur.size = n * 2 ∧ cur.toList.take 2 = [.int .i64 0, .int .i64 0]
theorem CpI.below {W w w' : World} {g n : Nat} (h : CpI W g n w) (k : Below w.heap.size w w') : CpI W g n w' := by
  obtain ⟨h1, cur, h2, h3, h4⟩ := h
  exact ⟨grownBy_trans h1 (grownBy_of_below k _), cur, (k.block g (Array.getElem?_eq_some_iff.1 h2).1).trans h2, h3, h4⟩
def cpT (p g g2 o n : Nat) (hs ls : List Int) : Nat → World → Value → Prop
  | 0 => fun _ v => v = .slice (some ⟨g2, 0, none⟩) n n
  | 1 => fun _ v => v = .slice (some ⟨g2, o, none⟩) (n - 1) (n - 1)
  | 2 => fun _ v => v = .pointer (some ⟨p, 0, none⟩)
  | 3 => fun _ v => v = .pointer (some ⟨p, 0, none⟩)
  | 4 => fun _ v => v = .slice (some ⟨g, 0, none⟩) n n
  | 5 => fun w _ => w.heap[g2]? = some (.cells (inter (sh hs) (sh ls)).toArray 56 (0, 0))
  | _ => fun _ _ => True
def cpR (g2 i : Nat) (w1 w2 : World) : Prop := if i = 5 then w1.grownBy w2 (some g2) else Below w1.heap.size w1 w2
theorem cpT_stable {p g g2 o n : Nat} {hs ls : List Int} (i j : Nat) (w1 w2 : World) (v : Value) (hij : i ≠ j) (hR : cpR g2 i w1 w2) (h : cpT p g g2 o n hs ls j w1 v) : cpT p g g2 o n hs ls j w2 v := by
  match j, hij, h with
  | 0, _, h => exact h
  | 1, _, h => exact h
  | 2, _, h => exact h
  | 3, _, h => exact h
  | 4, _, h => exact h
  | 5, hij, h =>
    rw [cpR, if_neg hij] at hR
    exact (hR.block g2 (Array.getElem?_eq_some_iff.1 h).1).trans h
  | _ + 6, _, _ => exact trivial
theorem cpR_of {g2 i : Nat} {w1 w2 : World} (h : i ≠ 5) (hb : Below w1.heap.size w1 w2) : cpR g2 i w1 w2 := by rw [cpR, if_neg h]; exact hb

set_option maxRecDepth 100000 in
set_option maxHeartbeats 2000000 in
theorem impl_FrameShift_y (A B : Option Addr) (c d : Nat) (hs ls : List Int) (w : World) (hr : FrRd w A B hs ls) (ok : FrOk hs ls) (hz0 : fdig hs ls ((hs.length : Int) - 1) = 0) :
    Calls Try.prog 29 #[.agg #[.slice A hs.length c, .slice B ls.length d]] w (FrPost w (sh hs) (sh ls) true) := by
  have hb0 := ((Below.refl w.heap.size w).alloc (Nat.le_refl _) (.cells #[.slice A hs.length c, .slice B ls.length d] 27)).alloc (by simp) (.cells #[.slice none 0 0, .slice none 0 0] 27)
  have hr0 := hr.below hb0
  have n1 := ok.n1
  have n6 := ok.n6
  have HLn := Lib.hid ok.len
  rw [dg_last ok] at hz0
  have HZ0 := Lib.hid hz0
  have ⟨a0, a1⟩ := ok.hi (hs.length - 1) (by omega)
  have ⟨e0, e1⟩ := ok.lo (hs.length - 1) (by omega)
  clear hz0
  have w7 : IntKind.i64.wrap ((hs.length : Int) - 1) = (hs.length : Int) - 1 := IntWalk.i64_in _ (by omega)
  have w8 : ((hs.length : Int) - 1).toNat = hs.length - 1 := by omega
  have w9 : 0 ≤ (hs.length : Int) - 1 := by omega
  have w10 : (hs.length : Int) - 1 < hs.length := by omega
  have w11 : (hs.length : Int) - 1 + 1 = hs.length := by omega
  go_enter Try.func29, Try.ntmps29
  go_wp2_with fail
  refine (rodsOf_yes _ _ _ _ _ _ _ hr0 ok).mono ?_
  rintro e w1 ⟨p, g, rfl, R1, q1⟩
  have F0 := box_second q1
  have B0 := bstep hb0 q1
  have ⟨pb, gb⟩ := R1.past
  have cb := R1.cbox
  have pl := R1.plt
  have ch := R1.chi (j := hs.length - 1) (by omega)
  have cl := R1.clo (j := hs.length - 1) (by omega)
  have hzz := B0.size
  have HR0 := Lib.hid R1
  have HF0 := Lib.hid F0
  have HB0 := Lib.hid B0
  clear F0 B0 R1 hr0 hb0 q1
  go_wp2_with fail
  refine (beadDigit g ((hs.length - 1) * 2) _ _ w1 ch cl a0 a1 e0 e1).mono ?_
  rintro e w' ⟨rfl, m, rfl⟩
  rw [HZ0.out]
  go_wp2_with (at_make; refine wp_mkR _ _ rfl rfl _ hs.length rfl rfl (by omega) ?_; intro w3 hs3 hg3)
  have hg2s : (w1.drewN m).heap.size = w1.heap.size := rfl
  rw [hg2s] at hs3
  have b3 : Below w1.heap.size w1 w3 := ((Below.refl w1.heap.size w1).drewN m).grown hg3 (Nat.le_refl _) (fun _ hk => by cases hk)
  have hz13 := b3.size
  have hz3 : w1.heap.size < w3.heap.size := (Array.getElem?_eq_some_iff.1 hs3).1
  have b4 := b3.alloc hz13 (.cells #[.slice (some ⟨w1.heap.size, 0, none⟩) hs.length hs.length] 54)
  have hbx : (w3.alloc (.cells #[.slice (some ⟨w1.heap.size, 0, none⟩) hs.length hs.length] 54)).heap[w3.heap.size]? = some (.cells #[.slice (some ⟨w1.heap.size, 0, none⟩) hs.length hs.length] 54 (0, 0)) := heap_alloc_new _ _
  have hrow : (w3.alloc (.cells #[.slice (some ⟨w1.heap.size, 0, none⟩) hs.length hs.length] 54)).heap[w1.heap.size]? = some (.cells (inter (List.replicate hs.length 0) (List.replicate hs.length 0)).toArray 56 (0, 0)) := by
    rw [Below.heap_alloc _ _ _ hz3]; exact hs3
  have hzA : (w3.alloc (.cells #[.slice (some ⟨w1.heap.size, 0, none⟩) hs.length hs.length] 54)).heap.size = w3.heap.size + 1 := by simp
  generalize hW4 : w3.alloc (.cells #[.slice (some ⟨w1.heap.size, 0, none⟩) hs.length hs.length] 54) = W4 at *
  have R4 := HR0.out.below b4
  have HF4 := Lib.hid ((b4.block (w.heap.size + 1) (by omega)).trans HF0.out)
  have HFL : Hid (w.heap.size + 1 < W4.heap.size) := Lib.hid (by omega)
  have HB4 := Lib.hid (bstep HB0.out b4)
  have gl1 := HR0.out.glt
  have hne4 : w3.heap.size ≠ w1.heap.size := by omega
  have hgg : g ≠ w1.heap.size := by omega
  have hpg : p ≠ w1.heap.size := by omega
  have hpl4 := R4.plt
  have KPB := Lib.hid R4.cbox
  have HRG := Lib.hid R4.row
  have HGL := Lib.hid R4.glt
  have HBX := Lib.hid hbx
  have HROW := Lib.hid hrow
  have HP4 : Hid (w3.heap.size < W4.heap.size) := Lib.hid (by omega)
  have HLS : Hid ((sh hs).length = (sh ls).length) := Lib.hid (by rw [sh_len n1, sh_len (by have := HLn.out; omega)]; exact HLn.out)
  have hb2 : w.heap.size + 2 ≤ w1.heap.size := by omega
  have hz2 : (inter (List.replicate hs.length 0) (List.replicate hs.length 0)).toArray.toList.take 2 = [.int .i64 0, .int .i64 0] := by
    show (inter (List.replicate hs.length 0) (List.replicate hs.length 0)).take 2 = _
    rw [inter_rep, List.take_replicate, show min 2 (hs.length * 2) = 2 by omega]
    rfl
  have hb4 : w1.heap.size ≤ w3.heap.size := by omega
  clear R4 hbx hrow hW4 hzA hs3 hg3 b3 b4 HR0 HF0 HB0 hg2s ch cl cb hz13 hz3 gl1
  generalize hp4 : w3.heap.size = p4 at *
  generalize hg2 : w1.heap.size = g2 at *
  obtain ⟨base, hbase⟩ : ∃ base, base = g2 := ⟨_, rfl⟩
  have KBX : Hid (W4.cell? ⟨p4, 0, none⟩ = some (.slice (some ⟨g2, 0, none⟩) hs.length hs.length)) := Lib.hid (by simp [World.cell?, HBX.out])
  by_cases h1 : hs.length = 1
  · have HH1 := Lib.hid h1
    clear h1
    refine wp_region_pairs (cpR g2) (CpI W4 g2 hs.length) (cpT p g g2 0 hs.length hs ls) (fun _ _ _ _ => True) 6 (by kernel_rfl) (by kernel_rfl) cpT_stable ⟨grownBy_of_below (Below.refl _ _).drew _, _, HROW.out, by rw [List.size_toArray, inter_len (by simp)]; simp, hz2⟩ ?_ ?_
    · refine lawsX_cons rfl ?_ (lawsX_cons rfl ?_ (lawsX_cons rfl ?_ (lawsX_cons rfl ?_ (lawsX_cons rfl ?_ (lawsX_cons rfl ?_ (lawsX_nil))))))
      · intro L' v w6 hI hL hall hE
        have hc0 := hI.1.cell KBX.out (by simp; omega)
        clear hall hE hL
        go_light
        refine ⟨?_⟩
        unfold Gives
        simp only [fillL]
        go_simp
        exact ⟨cpR_of (by decide) (Below.refl _ _), hI, rfl⟩
      · intro L' v w6 hI hL hall hE
        have h0 : v 0 = _ := hall 0 (by decide) (by decide) (hL 0 (by kernel_rfl))
        clear hall hE hL
        have h1 := HH1.out
        have HI6 := Lib.hid hI
        go_light
        refine ⟨?_⟩
        unfold Gives
        simp only [fillL]
        go_simp
        exact ⟨cpR_of (by decide) (Below.refl _ _), h1 ▸ HI6.out, rfl⟩
      · intro L' v w6 hI hL hall hE
        clear hall hE hL
        go_light
        refine ⟨?_⟩
        unfold Gives
        simp only [fillL]
        go_simp
        exact ⟨cpR_of (by decide) (Below.refl _ _), hI, rfl⟩
      · intro L' v w6 hI hL hall hE
        have h2 : v 2 = _ := hall 2 (by decide) (by decide) (hL 2 (by kernel_rfl))
        have hlt6 := Nat.lt_of_lt_of_le hpl4 hI.1.size
        clear hall hE hL
        go_light
        refine ⟨?_⟩
        unfold Gives
        simp only [fillL]
        go_simp
        exact ⟨cpR_of (by decide) (Below.refl _ _), hI, rfl⟩
      · intro L' v w6 hI hL hall hE
        have h3 : v 3 = _ := hall 3 (by decide) (by decide) (hL 3 (by kernel_rfl))
        have hc0 := hI.1.cell KPB.out (by simp; omega)
        clear hall hE hL
        go_light
        refine ⟨?_⟩
        unfold Gives
        simp only [fillL]
        go_simp
        exact ⟨cpR_of (by decide) (Below.refl _ _), hI, rfl⟩
      · intro L' v w6 hI hL hall hE
        have h1 : v 1 = _ := hall 1 (by decide) (by decide) (hL 1 (by kernel_rfl))
        have h4 : v 4 = _ := hall 4 (by decide) (by decide) (hL 4 (by kernel_rfl))
        obtain ⟨hg6, cur, hrow, hsz, ht2⟩ := hI
        have hn2 : Nat.min hs.length (hs.length - 1) = hs.length - 1 := by simp
        have hcs : ((inter hs ls).take ((hs.length - 1) * 2)).length = Nat.min hs.length (hs.length - 1) * 2 := by
          rw [hn2, List.length_take, inter_len HLn.out]
          omega
        have hsrc : ∀ j u, ((inter hs ls).take ((hs.length - 1) * 2))[j]? = some u → w6.cell? ((⟨g, 0, none⟩ : Addr).add j) = some u := by
          intro j u hj
          have ha : (⟨g, 0, none⟩ : Addr).add j = ⟨g, 0 + j, none⟩ := by
            unfold Addr.add; split <;> simp_all
          rw [ha, Nat.zero_add]
          have hrg := (hg6.block g HGL.out (by simp; omega)).trans HRG.out
          have hj2 : (inter hs ls)[j]? = some u := by
            rw [List.getElem?_take] at hj
            split at hj
            · exact hj
            · cases hj
          simp [World.cell?, hrg, hj2]
        have hrun := run_copy_rowN (P := Try.prog) w6 54 54 3 56 2 g2 0 (hs.length - 1) (hs.length - 1) ⟨g, 0, none⟩ hs.length hs.length cur 56 ((inter hs ls).take ((hs.length - 1) * 2)) Try.underlying54 (by kernel_rfl) hrow hcs hsrc (by rw [hcs, hn2, hsz]; omega) (fun v hv => inter_one v (List.mem_of_mem_take hv))
        have hnew : cur.toList.take 0 ++ (inter hs ls).take ((hs.length - 1) * 2) ++ cur.toList.drop (0 + ((inter hs ls).take ((hs.length - 1) * 2)).length) = inter (sh hs) (sh ls) := by
          have e0 : hs.length - 1 = 0 := by have := HH1.out; omega
          rw [e0]
          have hc2 : cur.toList.length = 2 := by simp [hsz, HH1.out]
          have hw2 := ht2
          rw [List.take_of_length_le (by omega)] at hw2
          rw [← inter_sh HLn.out, e0]
          simpa using hw2
        rw [hnew] at hrun
        have hgr : w6.grownBy (w6.setRow g2 (inter (sh hs) (sh ls)).toArray) (some g2) := ⟨rfl, rfl, rfl, by simp [World.setRow], fun k hk hne => setRow_other w6 g2 k _ (fun e => hne (by rw [e]))⟩
        have hrow2 := setRow_heap w6 g2 cur (inter (sh hs) (sh ls)).toArray _ _ hrow
        clear hall hE hL
        go_light
        refine kept_cp _ _ _ _ rfl hrun (by simp only [fillL]; go_simp) (by simp only [fillL]; go_simp) ?_
        exact ⟨by rw [cpR, if_pos rfl]; exact hgr, ⟨grownBy_trans hg6 hgr, _, hrow2, by rw [List.size_toArray, inter_len HLS.out, sh_len n1], by simp [sh, inter]⟩, hrow2, fun _ _ _ _ => ⟨trivial, trivial⟩⟩
    · intro v w6 hI hall
      have h5 : w6.heap[g2]? = some (.cells (inter (sh hs) (sh ls)).toArray 56 (0, 0)) := hall 5 (by decide)
      have hg6 := hI.1
      have R6 : Rods w6 base p4 g2 (sh hs) (sh ls) := ⟨HLS.out, by rw [sh_len n1]; exact (hg6.block p4 HP4.out (by simp; omega)).trans HBX.out, h5, by omega, by omega, hne4⟩
      have HR6 := Lib.hid R6
      have HB6 := Lib.hid (HB4.out.grown hg6 HB4.out.size (fun k hk => by injection hk with hk; omega))
      have HF6 := Lib.hid ((hg6.block (w.heap.size + 1) HFL.out (by simp; omega)).trans HF4.out)
      have HZ6 := Lib.hid hg6.size
      clear hall hI h5 hg6 R6
      refine ⟨?_⟩
      simp only [fillL]
      go_simp
      go_wp2_with fail
      refine (beadsFrame p4 g2 base (sh hs) (sh ls) w6 HR6.out (by rw [sh_len n1]; exact n6)).mono ?_
      rintro e w7 ⟨A7, B7, c7, d7, rfl, s7, b7⟩
      have a0 := (b7.block (w.heap.size + 1) (by have := HFL.out; have := HZ6.out; omega)).trans HF6.out
      have x0 : w7.cell? ⟨w.heap.size + 1, 0, none⟩ = some (.slice none 0 0) := by simp [World.cell?, a0]
      have x1 : w7.cell? ⟨w.heap.size + 1, 1, none⟩ = some (.slice none 0 0) := by simp [World.cell?, a0]
      have f0 : w7.frozen? ⟨w.heap.size + 1, 0, none⟩ = false := by simp [World.frozen?, a0]
      have f1 : w7.frozen? ⟨w.heap.size + 1, 1, none⟩ = false := by simp [World.frozen?, a0]
      have hwl : w.heap.size + 1 < w6.heap.size := by have := HFL.out; have := HZ6.out; omega
      have hwl7 : w.heap.size + 1 < w7.heap.size := by have := b7.size; omega
      have HS7 := Lib.hid s7
      have HB7 := Lib.hid (bstep HB6.out b7)
      have HZB := Lib.hid HB6.out.size
      clear s7 b7 a0
      go_wp2_with fail
      refine bodyPost_ret (v := .tuple #[.agg #[.slice A7 (sh hs).length c7, .slice B7 (sh ls).length d7], .bool true]) (by simp [results, Try.results29, go_sem, *]) rfl ?_
      have hA : ∀ j, blk A7 = some j → j ≠ w.heap.size + 1 := fun j hj => by have := (HS7.out.hi.lt j hj).1; omega
      have hB : ∀ j, blk B7 = some j → j ≠ w.heap.size + 1 := fun j hj => by have := (HS7.out.lo.lt j hj).1; omega
      exact ⟨A7, B7, c7, d7, rfl, ((HS7.out.far hA hB).far hA hB).down HZB.out, (HB7.out.setCell (by simp) _).setCell (by simp) _⟩
  · have h1i : (hs.length : Int) ≠ 1 := by omega
    have h1j : 1 ≤ (hs.length : Int) := by omega
    refine wp_region_pairs (cpR g2) (CpI W4 g2 hs.length) (cpT p g g2 2 hs.length hs ls) (fun _ _ _ _ => True) 6 (by kernel_rfl) (by kernel_rfl) cpT_stable ⟨grownBy_of_below (Below.refl _ _).drew _, _, HROW.out, by rw [List.size_toArray, inter_len (by simp)]; simp, hz2⟩ ?_ ?_
    · refine lawsX_cons rfl ?_ (lawsX_cons rfl ?_ (lawsX_cons rfl ?_ (lawsX_cons rfl ?_ (lawsX_cons rfl ?_ (lawsX_cons rfl ?_ (lawsX_nil))))))
      · intro L' v w6 hI hL hall hE
        have hc0 := hI.1.cell KBX.out (by simp; omega)
        clear hall hE hL
        go_light
        refine ⟨?_⟩
        unfold Gives
        simp only [fillL]
        go_simp
        exact ⟨cpR_of (by decide) (Below.refl _ _), hI, rfl⟩
      · intro L' v w6 hI hL hall hE
        have h0 : v 0 = _ := hall 0 (by decide) (by decide) (hL 0 (by kernel_rfl))
        clear hall hE hL
        go_light
        refine ⟨?_⟩
        unfold Gives
        simp only [fillL]
        go_simp
        exact ⟨cpR_of (by decide) (Below.refl _ _), hI, rfl⟩
      · intro L' v w6 hI hL hall hE
        clear hall hE hL
        go_light
        refine ⟨?_⟩
        unfold Gives
        simp only [fillL]
        go_simp
        exact ⟨cpR_of (by decide) (Below.refl _ _), hI, rfl⟩
      · intro L' v w6 hI hL hall hE
        have h2 : v 2 = _ := hall 2 (by decide) (by decide) (hL 2 (by kernel_rfl))
        have hlt6 := Nat.lt_of_lt_of_le hpl4 hI.1.size
        clear hall hE hL
        go_light
        refine ⟨?_⟩
        unfold Gives
        simp only [fillL]
        go_simp
        exact ⟨cpR_of (by decide) (Below.refl _ _), hI, rfl⟩
      · intro L' v w6 hI hL hall hE
        have h3 : v 3 = _ := hall 3 (by decide) (by decide) (hL 3 (by kernel_rfl))
        have hc0 := hI.1.cell KPB.out (by simp; omega)
        clear hall hE hL
        go_light
        refine ⟨?_⟩
        unfold Gives
        simp only [fillL]
        go_simp
        exact ⟨cpR_of (by decide) (Below.refl _ _), hI, rfl⟩
      · intro L' v w6 hI hL hall hE
        have h1 : v 1 = _ := hall 1 (by decide) (by decide) (hL 1 (by kernel_rfl))
        have h4 : v 4 = _ := hall 4 (by decide) (by decide) (hL 4 (by kernel_rfl))
        obtain ⟨hg6, cur, hrow, hsz, ht2⟩ := hI
        have hn2 : Nat.min hs.length (hs.length - 1) = hs.length - 1 := by simp
        have hcs : ((inter hs ls).take ((hs.length - 1) * 2)).length = Nat.min hs.length (hs.length - 1) * 2 := by
          rw [hn2, List.length_take, inter_len HLn.out]
          omega
        have hsrc : ∀ j u, ((inter hs ls).take ((hs.length - 1) * 2))[j]? = some u → w6.cell? ((⟨g, 0, none⟩ : Addr).add j) = some u := by
          intro j u hj
          have ha : (⟨g, 0, none⟩ : Addr).add j = ⟨g, 0 + j, none⟩ := by
            unfold Addr.add; split <;> simp_all
          rw [ha, Nat.zero_add]
          have hrg := (hg6.block g HGL.out (by simp; omega)).trans HRG.out
          have hj2 : (inter hs ls)[j]? = some u := by
            rw [List.getElem?_take] at hj
            split at hj
            · exact hj
            · cases hj
          simp [World.cell?, hrg, hj2]
        have hrun := run_copy_rowN (P := Try.prog) w6 54 54 3 56 2 g2 2 (hs.length - 1) (hs.length - 1) ⟨g, 0, none⟩ hs.length hs.length cur 56 ((inter hs ls).take ((hs.length - 1) * 2)) Try.underlying54 (by kernel_rfl) hrow hcs hsrc (by rw [hcs, hn2, hsz]; omega) (fun v hv => inter_one v (List.mem_of_mem_take hv))
        have hnew : cur.toList.take 2 ++ (inter hs ls).take ((hs.length - 1) * 2) ++ cur.toList.drop (2 + ((inter hs ls).take ((hs.length - 1) * 2)).length) = inter (sh hs) (sh ls) := by
          rw [ht2, hcs, hn2, List.drop_of_length_le (by simp [hsz]; omega), List.append_nil]
          exact inter_sh HLn.out
        rw [hnew] at hrun
        have hgr : w6.grownBy (w6.setRow g2 (inter (sh hs) (sh ls)).toArray) (some g2) := ⟨rfl, rfl, rfl, by simp [World.setRow], fun k hk hne => setRow_other w6 g2 k _ (fun e => hne (by rw [e]))⟩
        have hrow2 := setRow_heap w6 g2 cur (inter (sh hs) (sh ls)).toArray _ _ hrow
        clear hall hE hL
        go_light
        refine kept_cp _ _ _ _ rfl hrun (by simp only [fillL]; go_simp) (by simp only [fillL]; go_simp) ?_
        exact ⟨by rw [cpR, if_pos rfl]; exact hgr, ⟨grownBy_trans hg6 hgr, _, hrow2, by rw [List.size_toArray, inter_len HLS.out, sh_len n1], by simp [sh, inter]⟩, hrow2, fun _ _ _ _ => ⟨trivial, trivial⟩⟩
    · intro v w6 hI hall
      have h5 : w6.heap[g2]? = some (.cells (inter (sh hs) (sh ls)).toArray 56 (0, 0)) := hall 5 (by decide)
      have hg6 := hI.1
      have R6 : Rods w6 base p4 g2 (sh hs) (sh ls) := ⟨HLS.out, by rw [sh_len n1]; exact (hg6.block p4 HP4.out (by simp; omega)).trans HBX.out, h5, by omega, by omega, hne4⟩
      have HR6 := Lib.hid R6
      have HB6 := Lib.hid (HB4.out.grown hg6 HB4.out.size (fun k hk => by injection hk with hk; omega))
      have HF6 := Lib.hid ((hg6.block (w.heap.size + 1) HFL.out (by simp; omega)).trans HF4.out)
      have HZ6 := Lib.hid hg6.size
      clear hall hI h5 hg6 R6
      refine ⟨?_⟩
      simp only [fillL]
      go_simp
      go_wp2_with fail
      refine (beadsFrame p4 g2 base (sh hs) (sh ls) w6 HR6.out (by rw [sh_len n1]; exact n6)).mono ?_
      rintro e w7 ⟨A7, B7, c7, d7, rfl, s7, b7⟩
      have a0 := (b7.block (w.heap.size + 1) (by have := HFL.out; have := HZ6.out; omega)).trans HF6.out
      have x0 : w7.cell? ⟨w.heap.size + 1, 0, none⟩ = some (.slice none 0 0) := by simp [World.cell?, a0]
      have x1 : w7.cell? ⟨w.heap.size + 1, 1, none⟩ = some (.slice none 0 0) := by simp [World.cell?, a0]
      have f0 : w7.frozen? ⟨w.heap.size + 1, 0, none⟩ = false := by simp [World.frozen?, a0]
      have f1 : w7.frozen? ⟨w.heap.size + 1, 1, none⟩ = false := by simp [World.frozen?, a0]
      have hwl : w.heap.size + 1 < w6.heap.size := by have := HFL.out; have := HZ6.out; omega
      have hwl7 : w.heap.size + 1 < w7.heap.size := by have := b7.size; omega
      have HS7 := Lib.hid s7
      have HB7 := Lib.hid (bstep HB6.out b7)
      have HZB := Lib.hid HB6.out.size
      clear s7 b7 a0
      go_wp2_with fail
      refine bodyPost_ret (v := .tuple #[.agg #[.slice A7 (sh hs).length c7, .slice B7 (sh ls).length d7], .bool true]) (by simp [results, Try.results29, go_sem, *]) rfl ?_
      have hA : ∀ j, blk A7 = some j → j ≠ w.heap.size + 1 := fun j hj => by have := (HS7.out.hi.lt j hj).1; omega
      have hB : ∀ j, blk B7 = some j → j ≠ w.heap.size + 1 := fun j hj => by have := (HS7.out.lo.lt j hj).1; omega
      exact ⟨A7, B7, c7, d7, rfl, ((HS7.out.far hA hB).far hA hB).down HZB.out, (HB7.out.setCell (by simp) _).setCell (by simp) _⟩

set_option maxRecDepth 100000 in
theorem impl_FrameShift_n (A B : Option Addr) (c d : Nat) (hs ls : List Int) (w : World) (hr : FrRd w A B hs ls) (hh : hs.length ≤ 4194304) (hl : ls.length ≤ 4194304) (hbad : frB hs ls = false) :
    Calls Try.prog 29 #[.agg #[.slice A hs.length c, .slice B ls.length d]] w (NoFr w) := by
  have hb0 := ((Below.refl w.heap.size w).alloc (Nat.le_refl _) (.cells #[.slice A hs.length c, .slice B ls.length d] 27)).alloc (by simp) (.cells #[.slice none 0 0, .slice none 0 0] 27)
  have hr0 := hr.below hb0
  go_enter Try.func29, Try.ntmps29
  go_wp2_with fail
  refine (rodsOf_no _ _ _ _ _ _ _ hr0 hh hl hbad).mono ?_
  rintro e w1 ⟨rfl, q1⟩
  obtain ⟨x1, x2, x3, x4, z1, z2⟩ := box22 q1
  have f1 : w1.frozen? ⟨w.heap.size + 1, 0, none⟩ = false := (q1.frozen (p := ⟨w.heap.size + 1, 0, none⟩) (by simp)).trans (by simp)
  have f2 : w1.frozen? ⟨w.heap.size + 1, 1, none⟩ = false := (q1.frozen (p := ⟨w.heap.size + 1, 1, none⟩) (by simp)).trans (by simp)
  have hb1 := Lib.hid (bstep hb0 q1)
  go_wp2_with fail
  refine bodyPost_ret (v := .tuple #[.agg #[.slice none 0 0, .slice none 0 0], .bool false]) (by simp [results, Try.results29, go_sem, *]) rfl ?_
  exact ⟨rfl, (hb1.out.setCell (by simp) _).setCell (by simp) _⟩

set_option maxRecDepth 100000 in
theorem impl_FrameShift_m (A B : Option Addr) (c d : Nat) (hs ls : List Int) (w : World) (hr : FrRd w A B hs ls) (ok : FrOk hs ls) (hz0 : fdig hs ls ((hs.length : Int) - 1) ≠ 0) :
    Calls Try.prog 29 #[.agg #[.slice A hs.length c, .slice B ls.length d]] w (NoFr w) := by
  have hb0 := ((Below.refl w.heap.size w).alloc (Nat.le_refl _) (.cells #[.slice A hs.length c, .slice B ls.length d] 27)).alloc (by simp) (.cells #[.slice none 0 0, .slice none 0 0] 27)
  have hr0 := hr.below hb0
  have n1 := ok.n1
  have n6 := ok.n6
  rw [dg_last ok] at hz0
  have hne : (5 * nth hs (hs.length - 1) + nth ls (hs.length - 1) != 0) = true := by simpa using hz0
  have ⟨a0, a1⟩ := ok.hi (hs.length - 1) (by omega)
  have ⟨e0, e1⟩ := ok.lo (hs.length - 1) (by omega)
  clear hz0
  have w7 : IntKind.i64.wrap ((hs.length : Int) - 1) = (hs.length : Int) - 1 := IntWalk.i64_in _ (by omega)
  have w8 : ((hs.length : Int) - 1).toNat = hs.length - 1 := by omega
  have w9 : 0 ≤ (hs.length : Int) - 1 := by omega
  have w10 : (hs.length : Int) - 1 < hs.length := by omega
  go_enter Try.func29, Try.ntmps29
  go_wp2_with fail
  refine (rodsOf_yes _ _ _ _ _ _ _ hr0 ok).mono ?_
  rintro e w1 ⟨p, g, rfl, R1, q1⟩
  obtain ⟨x1, x2, x3, x4, z1, z2⟩ := box22 q1
  have f1 : w1.frozen? ⟨w.heap.size + 1, 0, none⟩ = false := (q1.frozen (p := ⟨w.heap.size + 1, 0, none⟩) (by simp)).trans (by simp)
  have f2 : w1.frozen? ⟨w.heap.size + 1, 1, none⟩ = false := (q1.frozen (p := ⟨w.heap.size + 1, 1, none⟩) (by simp)).trans (by simp)
  have hb1 := Lib.hid (bstep hb0 q1)
  have cb := R1.cbox
  have pl := R1.plt
  have ch := R1.chi (j := hs.length - 1) (by omega)
  have cl := R1.clo (j := hs.length - 1) (by omega)
  clear R1 hr0 hb0 q1
  go_wp2_with fail
  refine (beadDigit g ((hs.length - 1) * 2) _ _ w1 ch cl a0 a1 e0 e1).mono ?_
  rintro e w' ⟨rfl, m, rfl⟩
  clear ch cl
  go_wp2_with fail
  refine bodyPost_ret (v := .tuple #[.agg #[.slice none 0 0, .slice none 0 0], .bool false]) (by simp [results, Try.results29, go_sem, *]) rfl ?_
  exact ⟨rfl, ((hb1.out.drewN m).setCell (by simp) _).setCell (by simp) _⟩

theorem impl_FrameShift (A B : Option Addr) (c d : Nat) (hs ls : List Int) (w : World) (hr : FrRd w A B hs ls) (hh : hs.length ≤ 4194304) (hl : ls.length ≤ 4194304) :
    Calls Try.prog 29 #[.agg #[.slice A hs.length c, .slice B ls.length d]] w (FrPost w (shH hs ls) (shL hs ls) (shB hs ls)) := by
  cases hb : frB hs ls
  · exact (impl_FrameShift_n A B c d hs ls w hr hh hl hb).mono fun _ _ h => shPost_no (by simp [shB, hb]) h
  · by_cases hz : fdig hs ls ((hs.length : Int) - 1) = 0
    · have hS : shB hs ls = true := by simp [shB, hb, hz]
      rw [show shH hs ls = sh hs by simp [shH, hS], show shL hs ls = sh ls by simp [shL, hS], hS]
      exact impl_FrameShift_y A B c d hs ls w hr (frB_ok hb) hz
    · exact (impl_FrameShift_m A B c d hs ls w hr (frB_ok hb) hz).mono fun _ _ h => shPost_no (by simp [shB, hz]) h
end Go.Proofs.Ytfdbhaojdccomaa
