/- The reference's TalliesPay. -/
import Derived.Test.YtfdabeikcpccgaaTsP
namespace Go.Proofs.Ytfdabeikcpccgaa
open Go.RowKit

theorem TSl.empty (w : World) (base : Nat) (h : base ≤ w.heap.size) : TSl (w.alloc (.cells #[] 28)) base (some ⟨w.heap.size, 0, none⟩) 0 [] :=
  ⟨rfl, .inr ⟨w.heap.size, 0, #[], rfl, h, by simp only [World.alloc, Array.getElem?_push_size], Nat.le_refl _, by simp [maxLen], rfl, rfl⟩⟩
def TT0 (B : Nat) (w : World) (v : Value) : Prop := ∃ x, v = .slice (some ⟨x, 0, none⟩) 0 0 ∧ TSl w B (some ⟨x, 0, none⟩) 0 []
def TTs (B n : Nat) (us : List Tl) (w : World) (v : Value) : Prop := ∃ A c, v = .slice A n c ∧ us.length = n ∧ TSl w B A c us
def ppT (W : World) (B b off c n k : Nat) (ts : List Tl) : Nat → World → Value → Prop
  | 0 => TT0 B
  | 1 => fun _ v => v = .slice (some ⟨b, off, none⟩) n c
  | 2 => fun _ v => v = .int .i64 (k : Int)
  | 3 => fun _ v => v = .slice (some ⟨b, off, none⟩) k c
  | 4 => TTs B k (ts.take k)
  | 5 => fun _ v => v = .slice (some ⟨b, off, none⟩) n c
  | 6 => fun _ v => v = .int .i64 (k : Int)
  | 7 => fun _ v => v = .int .i64 ((k : Int) + 1)
  | 8 => fun _ v => ∃ o c', v = .slice (some ⟨b, o, none⟩) (n - (k + 1)) c' ∧ ∀ j t, (ts.drop (k + 1))[j]? = some t → TAt W b (o + j * 4) t
  | 9 => TTs B (n - 1) (ts.eraseIdx k)
  | 10 => TTs B (n - 1) (ts.eraseIdx k)
  | _ => fun _ v => v = .bool true
def ppU : Nat → Nat
  | 0 => 4
  | 4 => 9
  | _ => 100
def ppR (i : Nat) (v : Nat → Value) (w1 w2 : World) : Prop := if i = 9 then w1.grownBy w2 (v 4).ownBlock else Below w1.heap.size w1 w2
theorem ppR_of {i : Nat} {v : Nat → Value} {w1 w2 : World} (h : i ≠ 9) (hb : Below w1.heap.size w1 w2) : ppR i v w1 w2 := by rw [ppR, if_neg h]; exact hb
theorem TTs.below {B n : Nat} {us : List Tl} {w1 w2 : World} {v : Value} (h : TTs B n us w1 v) (k : Below w1.heap.size w1 w2) : TTs B n us w2 v := by
  obtain ⟨A, c, h1, h2, h3⟩ := h
  exact ⟨A, c, h1, h2, h3.below k⟩
theorem pp_stable {W : World} {B b off c n k : Nat} {ts : List Tl} : StableF ppR (ppT W B b off c n k ts) ppU [(9, 0), (9, 10)] 12 := by
  intro i j v w1 w2 hi hj hij hu hl hR h
  have key : i ≠ 9 → Below w1.heap.size w1 w2 := fun h9 => by rwa [ppR, if_neg h9] at hR
  match j, hij, hu, hl, h with
  | 0, _, _, hl, ⟨x, h1, h2⟩ => exact ⟨x, h1, h2.below (key (fun e => by subst e; simp at hl))⟩
  | 1, _, _, _, h => exact h
  | 2, _, _, _, h => exact h
  | 3, _, _, _, h => exact h
  | 4, _, hu, _, h => exact TTs.below h (key (fun e => hu e.symm))
  | 5, _, _, _, h => exact h
  | 6, _, _, _, h => exact h
  | 7, _, _, _, h => exact h
  | 8, _, _, _, h => exact h
  | 9, hij, _, _, h => exact TTs.below h (key hij)
  | 10, _, _, hl, h => exact TTs.below h (key (fun e => by subst e; simp at hl))
  | _ + 11, _, _, _, h => exact h

set_option maxRecDepth 100000 in
set_option maxHeartbeats 1000000 in
theorem spec_TalliesPay_y (A : Option Addr) (c : Nat) (ts : List Tl) (k : Nat) (w : World) (hA : TRd w A ts) (hcap : ts.length ≤ c) (hn : ts.length ≤ 1048576) (hz : ∀ t ∈ ts, t.s.size ≤ 1048576 ∧ t.f.size ≤ 1048576) (hb : tsB ts = true) (hk : k < ts.length) :
    Calls Try.prog 37 #[.slice A ts.length c, .int .i64 (k : Int)] w (TsPost w (ts.eraseIdx k) true) := by
  have hin : inB (k : Int) 0 ((ts.length : Int) - 1) = true := inB_of (by omega) (by omega)
  have w7 : IntKind.i64.wrap ((ts.length : Int) - 1) = (ts.length : Int) - 1 := IntWalk.i64_in _ (by omega)
  go_enter Try.func37, Try.ntmps37
  go_wp2_with fail
  refine (spec_TalliesValid A c ts w hA hn hz).mono ?_
  rintro e w1 ⟨rfl, b1⟩
  rw [hb]
  clear hz hb
  have hA1 := hA.below b1
  go_wp2_with fail
  refine (l6In _ _ _ _).mono ?_
  rintro e w' ⟨rfl, rfl⟩
  rw [hin]
  clear hin w7
  obtain ⟨b, off, t0, rfl, hbl, _, _⟩ := hA1.at hk
  have HB1 := Lib.hid b1
  have HA := Lib.hid hA1
  clear b1 hA hA1
  have hn0 : ts ≠ [] := by rintro rfl; simp at hk
  have p1 : (0 : Int) ≤ (k : Int) := by omega
  have p2 : (k : Int) ≤ c := by omega
  have p3 : IntKind.i64.wrap ((k : Int) + 1) = (k : Int) + 1 := IntWalk.i64_in _ (by omega)
  have p4 : ((k : Int) + 1).toNat = k + 1 := by omega
  have p5 : (k : Int) + 1 ≤ ts.length := by omega
  have p6 : (0 : Int) ≤ (k : Int) + 1 := by omega
  have HN := Lib.hid hn0
  clear hn0
  go_wp2_with fail
  refine wp_region_free ppR (fun w6 => Below w1.heap.size w1 w6) (ppT w1 w1.heap.size b off c ts.length k ts) ppU [(9, 0), (9, 10)] 12 (by kernel_rfl) (by kernel_rfl) pp_stable (Below.refl _ _).drew ?_ ?_
  · refine lawsF_cons rfl ?_ (lawsF_cons rfl ?_ (lawsF_cons rfl ?_ (lawsF_cons rfl ?_ (lawsF_cons rfl ?_ (lawsF_cons rfl ?_ (lawsF_cons rfl ?_ (lawsF_cons rfl ?_ (lawsF_cons rfl ?_ (lawsF_cons rfl ?_ (lawsF_cons rfl ?_ (lawsF_cons rfl ?_ lawsF_nil)))))))))))
    · intro v w6 hI hd
      clear hd
      go_light
      refine ⟨?_⟩
      unfold Gives
      simp only [fillL]
      go_simp
      exact ⟨ppR_of (by decide) (below_new _ _), bstep hI (below_new _ _), _, rfl, TSl.empty _ _ hI.size⟩
    · intro v w6 hI hd
      clear hd
      go_light
      refine ⟨?_⟩
      unfold Gives
      simp only [fillL]
      go_simp
      exact ⟨ppR_of (by decide) (Below.refl _ _), hI, rfl⟩
    · intro v w6 hI hd
      clear hd
      go_light
      refine ⟨?_⟩
      unfold Gives
      simp only [fillL]
      go_simp
      exact ⟨ppR_of (by decide) (Below.refl _ _), hI, rfl⟩
    · intro v w6 hI hd
      have h1 : v 1 = _ := hd 1 (by kernel_rfl) (by kernel_rfl)
      have h2 : v 2 = _ := hd 2 (by kernel_rfl) (by kernel_rfl)
      clear hd
      go_light
      refine ⟨?_⟩
      unfold Gives
      simp only [fillL]
      go_simp
      exact ⟨ppR_of (by decide) (Below.refl _ _), hI, rfl⟩
    · intro v w6 hI hd
      obtain ⟨x, hx, sx⟩ : TT0 w1.heap.size w6 (v 0) := hd 0 (by kernel_rfl) (by kernel_rfl)
      have h3 : v 3 = _ := hd 3 (by kernel_rfl) (by kernel_rfl)
      have hlt : (ts.take k).length = k := by rw [List.length_take]; omega
      obtain ⟨A1, c1, w7, hrun, s7, b7⟩ := apT_empty 35 w6 w1.heap.size x b off c (ts.take k) sx (fun j t ht => by
        have hjk : j < k := by have := (List.getElem?_eq_some_iff.1 ht).1; omega
        obtain ⟨b9, o9, e9, _, hc9⟩ := HA.out HN.out
        injection e9 with e9
        injection e9 with e9 e10
        subst e9 e10
        rw [List.getElem?_take, if_pos hjk] at ht
        exact (hc9 j t ht).below hI hbl) (by omega) hI.size
      rw [hlt] at hrun
      clear hd
      go_light
      refine kept_ap _ _ _ rfl hrun (by simp only [fillL]; go_simp) (by simp only [fillL]; go_simp) ?_
      exact ⟨ppR_of (by decide) b7, bstep hI b7, A1, c1, rfl, hlt, s7⟩
    · intro v w6 hI hd
      clear hd
      go_light
      refine ⟨?_⟩
      unfold Gives
      simp only [fillL]
      go_simp
      exact ⟨ppR_of (by decide) (Below.refl _ _), hI, rfl⟩
    · intro v w6 hI hd
      clear hd
      go_light
      refine ⟨?_⟩
      unfold Gives
      simp only [fillL]
      go_simp
      exact ⟨ppR_of (by decide) (Below.refl _ _), hI, rfl⟩
    · intro v w6 hI hd
      have h6 : v 6 = _ := hd 6 (by kernel_rfl) (by kernel_rfl)
      clear hd
      go_light
      refine ⟨?_⟩
      unfold Gives
      simp only [fillL]
      go_simp
      exact ⟨ppR_of (by decide) (Below.refl _ _), hI, rfl⟩
    · intro v w6 hI hd
      have h5 : v 5 = _ := hd 5 (by kernel_rfl) (by kernel_rfl)
      have h7 : v 7 = _ := hd 7 (by kernel_rfl) (by kernel_rfl)
      have hrd : ∀ j t, (ts.drop (k + 1))[j]? = some t → TAt w1 b (off + (k + 1) * 4 + j * 4) t := by
        intro j t ht
        obtain ⟨b9, o9, e9, _, hc9⟩ := HA.out HN.out
        injection e9 with e9
        injection e9 with e9 e10
        subst e9 e10
        rw [List.getElem?_drop] at ht
        have := hc9 _ t ht
        rwa [show off + (k + 1) * 4 + j * 4 = off + (k + 1 + j) * 4 by omega]
      have HRD := Lib.hid hrd
      have p7 : (ts.length : Int) ≤ c := by omega
      clear hd hrd
      by_cases hck : c = k + 1
      · have HCK := Lib.hid hck
        have p8 : ((k : Int) + 1 == (c : Int)) = true := by simp; omega
        go_light
        refine ⟨?_⟩
        unfold Gives
        simp only [fillL]
        go_simp
        refine ⟨ppR_of (by decide) (Below.refl _ _), hI, _, _, rfl, fun j t ht => ?_⟩
        exfalso
        have := (List.getElem?_eq_some_iff.1 ht).1
        rw [List.length_drop] at this
        have := HCK.out
        omega
      · go_light
        refine ⟨?_⟩
        unfold Gives
        simp only [fillL]
        go_simp
        exact ⟨ppR_of (by decide) (Below.refl _ _), hI, _, _, rfl, HRD.out⟩
    · intro v w6 hI hd
      obtain ⟨A4, c4, h4, l4, s4⟩ : TTs w1.heap.size k (ts.take k) w6 (v 4) := hd 4 (by kernel_rfl) (by kernel_rfl)
      obtain ⟨o8, c8, h8, r8⟩ : ∃ o c', v 8 = .slice (some ⟨b, o, none⟩) (ts.length - (k + 1)) c' ∧ ∀ j t, (ts.drop (k + 1))[j]? = some t → TAt w1 b (o + j * 4) t := hd 8 (by kernel_rfl) (by kernel_rfl)
      have hld : (ts.drop (k + 1)).length = ts.length - (k + 1) := List.length_drop
      obtain ⟨A1, c1, w7, hrun, s7, g7⟩ := apT_run 35 w6 w1.heap.size A4 c4 (ts.take k) b o8 c8 (ts.drop (k + 1)) s4 (fun j t ht => (r8 j t ht).below hI hbl) (by omega) hI.size
      rw [l4, hld] at hrun
      have hsum : k + (ts.length - (k + 1)) = ts.length - 1 := by omega
      rw [hsum] at hrun
      have e9 : ts.take k ++ ts.drop (k + 1) = ts.eraseIdx k := (List.eraseIdx_eq_take_drop_succ ts k).symm
      rw [e9] at s7
      have hle : (ts.eraseIdx k).length = ts.length - 1 := by rw [List.length_eraseIdx]; simp [hk]
      have hob : (v 4).ownBlock = blk A4 := by rw [h4, ownBlock_blk]
      have hlt4 := s4.lt
      have hR : ppR 9 v w6 w7 := by rw [ppR, if_pos rfl, hob]; exact g7
      have hI7 : Below w1.heap.size w1 w7 := hI.grown g7 hI.size (fun k hk => (hlt4 k hk).1)
      clear hd r8 hob hlt4
      go_light
      refine kept_ap _ _ _ rfl hrun (by simp only [fillL]; go_simp) (by simp only [fillL]; go_simp) ?_
      exact ⟨hR, hI7, A1, c1, rfl, hle, s7⟩
    · intro v w6 hI hd
      obtain ⟨A1, c1, h9, l9, s9⟩ : TTs w1.heap.size (ts.length - 1) (ts.eraseIdx k) w6 (v 9) := hd 9 (by kernel_rfl) (by kernel_rfl)
      have HS9 := Lib.hid s9
      have HL9 := Lib.hid l9
      clear hd s9 l9
      go_light
      refine ⟨?_⟩
      unfold Gives
      simp only [fillL]
      go_simp
      exact ⟨ppR_of (by decide) (Below.refl _ _), hI, A1, c1, rfl, HL9.out, HS9.out⟩
    · intro v w6 hI hd
      clear hd
      go_light
      refine ⟨?_⟩
      unfold Gives
      simp only [fillL]
      go_simp
      exact ⟨ppR_of (by decide) (Below.refl _ _), hI, rfl⟩
  intro v w6 hI hall
  obtain ⟨A1, c1, h10, l10, s10⟩ : TTs w1.heap.size (ts.length - 1) (ts.eraseIdx k) w6 (v 10) := hall 10 (by decide) (by decide)
  have h11 : v 11 = .bool true := hall 11 (by decide) (by decide)
  have HS := Lib.hid s10
  have HL := Lib.hid l10
  have HB6 := Lib.hid (HB1.out.trans (hI.mono HB1.out.size))
  have HZ := Lib.hid HB1.out.size
  clear hall hI s10 l10
  refine ⟨?_⟩
  simp only [fillL]
  go_simp
  clear h10 h11
  go_wp2_with fail
  go_ret2
  exact ⟨A1, c1, by rw [HL.out]; rfl, HS.out.down HZ.out, HB6.out⟩

set_option maxRecDepth 100000 in
theorem spec_TalliesPay (A : Option Addr) (c : Nat) (ts : List Tl) (k : Int) (w : World) (hA : TRd w A ts) (hcap : ts.length ≤ c) (hn : ts.length ≤ 1048576) (hz : ∀ t ∈ ts, t.s.size ≤ 1048576 ∧ t.f.size ≤ 1048576) :
    Calls Try.prog 37 #[.slice A ts.length c, .int .i64 k] w (TsPost w (payL ts k) (payB ts k)) := by
  have HBE := Lib.hid (fun o (w1 : World) (hb : Below w.heap.size w w1) => hb.alloc hb.size o)
  have w7 : IntKind.i64.wrap ((ts.length : Int) - 1) = (ts.length : Int) - 1 := IntWalk.i64_in _ (by omega)
  cases hb : tsB ts
  · have HF : payB ts k = false := by simp [payB, hb]
    rw [pay_no HF, HF]
    clear HF
    go_enter Try.func37, Try.ntmps37
    go_wp2_with fail
    refine (spec_TalliesValid A c ts w hA hn hz).mono ?_
    rintro e w1 ⟨rfl, b1⟩
    rw [hb]
    clear hz
    go_wp2_with fail
    go_ret2
    exact ⟨some ⟨w1.heap.size, 0, none⟩, 0, rfl, TSl.empty w1 _ b1.size, HBE.out _ _ b1⟩
  cases hin : inB k 0 ((ts.length : Int) - 1)
  · have HF : payB ts k = false := by simp [payB, hin]
    rw [pay_no HF, HF]
    clear HF
    go_enter Try.func37, Try.ntmps37
    go_wp2_with fail
    refine (spec_TalliesValid A c ts w hA hn hz).mono ?_
    rintro e w1 ⟨rfl, b1⟩
    rw [hb]
    clear hz
    go_wp2_with fail
    refine (l6In _ _ _ _).mono ?_
    rintro e w' ⟨rfl, rfl⟩
    rw [hin]
    go_wp2_with fail
    go_ret2
    exact ⟨some ⟨w1.heap.size, 0, none⟩, 0, rfl, TSl.empty w1 _ b1.size, HBE.out _ _ b1⟩
  · have HF : payB ts k = true := by simp [payB, hin, hb]
    have ⟨k0, k1⟩ := inB_t hin
    obtain ⟨m, rfl⟩ : ∃ m : Nat, k = (m : Int) := ⟨k.toNat, by omega⟩
    rw [show payL ts (m : Int) = ts.eraseIdx m by simp [payL, HF], HF]
    exact spec_TalliesPay_y A c ts m w hA hcap hn hz hb (by omega)
end Go.Proofs.Ytfdabeikcpccgaa
