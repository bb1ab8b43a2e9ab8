/- The contract of the reference's FrameNines. -/
import Derived.Test.YtfdbhaojdccomaaNines
import Derived.Test.YtfdbhaojdccomaaFrBox
import Derived.Test.YtfdbhaojdccomaaApRun
import Derived.Deep.Light
namespace Go.Proofs.Ytfdbhaojdccomaa
open Go.RowKit

/-- What the operations of 'out.X = append(out.X, n - f.X[k])' give. -/
def nsT (W : World) (base r fo a : Nat) (A : Option Addr) (c : Nat) (xs : List Int) (Ain : Option Addr) (nin cin k b off : Nat) (h z : Int) : Nat → World → Value → Prop
  | 0, _, v => v = .pointer (some ⟨r, fo, none⟩)
  | 1, _, v => v = .slice A xs.length c
  | 2, _, v => v = .pointer (some ⟨a, fo, none⟩)
  | 3, _, v => v = .slice Ain nin cin
  | 4, _, v => v = .int .i64 (k : Int)
  | 5, _, v => v = .pointer (some ⟨b, off + k, none⟩)
  | 6, _, v => v = .int .i64 h
  | 7, _, v => v = .int .i64 z
  | 8, w, v => ∃ x, v = .slice (some ⟨x, 0, none⟩) 1 1 ∧ w.cell? ⟨x, 0, none⟩ = some (.int .i64 z)
  | 9, w, v => ∃ A1 c1, v = .slice A1 (xs.length + 1) c1 ∧ Sl w base A1 c1 (xs ++ [z]) ∧ (blk A1 = blk A ∨ ∃ g, blk A1 = some g ∧ W.heap.size ≤ g)
  | _, _, v => v = .pointer (some ⟨r, fo, none⟩)
def nsR (A : Option Addr) (i : Nat) (_ : Nat → Value) (w1 w2 : World) : Prop := if i = 9 then w1.grownBy w2 (blk A) else Below w1.heap.size w1 w2
def nsU : Nat → Nat
  | 8 => 9
  | _ => 100
theorem nsT_stable {l : List Oper} {W : World} {base r fo a : Nat} {A : Option Addr} {c : Nat} {xs : List Int} {Ain : Option Addr} {nin cin k b off : Nat} {h z : Int} {n : Nat} :
    StableU l (nsR A) (nsT W base r fo a A c xs Ain nin cin k b off h z) nsU 0 1 (fun _ _ => True) n := by
  intro i j v w1 w2 _ hij hu _ hR hT
  match j, hij, hu, hT with
  | 0, _, _, h => exact h
  | 1, _, _, h => exact h
  | 2, _, _, h => exact h
  | 3, _, _, h => exact h
  | 4, _, _, h => exact h
  | 5, _, _, h => exact h
  | 6, _, _, h => exact h
  | 7, _, _, h => exact h
  | 8, _, hu, ⟨x, h1, h2⟩ =>
    have h9 : i ≠ 9 := fun e => hu (by rw [e]; rfl)
    rw [nsR, if_neg h9] at hR
    exact ⟨x, h1, cell_later h2 hR⟩
  | 9, hij, _, ⟨A1, c1, h1, h2, h3⟩ =>
    rw [nsR, if_neg hij] at hR
    exact ⟨A1, c1, h1, h2.below hR, h3⟩
  | _ + 10, _, _, h => exact h

def pre (xs : List Int) (k : Nat) : List Int := xs.take k
theorem pre_len {xs : List Int} {k : Nat} (h : k ≤ xs.length) : (pre xs k).length = k := by simp [pre]; omega
theorem pre_zero (xs : List Int) : pre xs 0 = [] := rfl
theorem pre_succ {xs : List Int} {k : Nat} (h : k < xs.length) : pre xs (k + 1) = pre xs k ++ [nth xs k] := take_nth h
theorem pre_all (xs : List Int) : pre xs xs.length = xs := List.take_length
theorem nsR_of {A : Option Addr} {i : Nat} {v : Nat → Value} {w1 w2 : World} (h : i ≠ 9) (hb : Below w1.heap.size w1 w2) : nsR A i v w1 w2 := by rw [nsR, if_neg h]; exact hb
theorem nsR_9 {A : Option Addr} {v : Nat → Value} {w1 w2 : World} (h : w1.grownBy w2 (blk A)) : nsR A 9 v w1 w2 := by rw [nsR, if_pos rfl]; exact h


set_option maxRecDepth 100000 in
set_option maxHeartbeats 1000000 in
theorem spec_FrameNines_y (A B : Option Addr) (c d : Nat) (hs ls : List Int) (w : World) (hr : FrRd w A B hs ls) (ok : FrOk hs ls) :
    Calls Try.prog 30 #[.agg #[.slice A hs.length c, .slice B ls.length d]] w (FrPost w (ninH hs) (ninL ls) true) := by
  have hb0 := ((Below.refl w.heap.size w).alloc (Nat.le_refl _) (.cells #[.slice A hs.length c, .slice B ls.length d] 27)).alloc (by simp) (.cells #[.slice none 0 0, .slice none 0 0] 27)
  have hr0 := hr.below hb0
  have n6 := ok.n6
  have hf := ok_frB ok
  go_enter Try.func30, Try.ntmps30
  go_wp2_with fail
  refine (spec_FrameValid_b _ _ _ _ _ _ _ hr0 (by omega) (by have := ok.len; omega)).mono ?_
  rintro e w1 ⟨rfl, q1⟩
  rw [hf]
  have F0 := box_second q1
  have F1 := box_first q1
  have B0 := bstep hb0 q1
  have hzz := q1.size
  have hr1 := hr0.below q1
  have HF0 := Lib.hid F0
  have HF1 := Lib.hid F1
  have HB0 := Lib.hid B0
  have hz2 : w.heap.size + 1 < w1.heap.size := by simp at hzz; omega
  have HFB := Lib.hid (FrBox.new w1 w1 (Below.refl _ _))
  clear F0 F1 B0 q1 hb0 hr0 hzz hr
  go_wp2_with fail
  have Hl1 : Hid ((ninH hs).length = hs.length) := Lib.hid (ninH_len hs)
  have Hl2 : Hid ((ninL ls).length = ls.length) := Lib.hid (ninL_len ls)
  generalize hr_ : w1.heap.size + 2 = r at *
  have Hr := Lib.hid hr_
  clear hr_
  go_loopw [5] (fun i wr => ∃ (k : Nat) (Ah Al : Option Addr) (ch cl : Nat), k ≤ hs.length ∧ i = .int .i64 k ∧ FrBox w1 wr r Ah Al ch cl (pre (ninH hs) k) (pre (ninL ls) k)) (fun i _ => hs.length - (intOf i).toNat)
  case atStart => exact ⟨0, _, _, _, _, Nat.zero_le _, rfl, HFB.out⟩
  case round =>
    obtain ⟨k, Ah, Al, ch, cl, hk, rfl, FB⟩ := hrel
    have c0 := FB.c0
    have rl := FB.rlt
    have hzw := FB.bel.size
    obtain ⟨a0, a1, _, _, al⟩ := box_facts ((FB.bel.block w.heap.size (by omega)).trans HF1.out)
    by_cases hlt : k < hs.length
    · have k2 : k < ls.length := by have := ok.len; omega
      have lh1 : (pre (ninH hs) k).length + 1 ≤ 4194304 := by rw [pre_len (by first | (rw [Hl1.out]; omega) | (rw [Hl2.out]; omega))]; omega
      have ll1 : (pre (ninL ls) k).length + 1 ≤ 4194304 := by rw [pre_len (by first | (rw [Hl1.out]; omega) | (rw [Hl2.out]; omega))]; omega
      have ⟨p0, p1⟩ := ok.hi k hlt
      have ⟨p2, p3⟩ := ok.lo k hlt
      obtain ⟨b, off, rfl, hbl, hc0⟩ := hr1.hi.at hlt
      obtain ⟨b', off', rfl, hbl', hc0'⟩ := hr1.lo.at k2
      have hc := cell_later hc0 FB.bel
      have hc' := cell_later hc0' FB.bel
      have u0 : 0 ≤ (k : Int) := by omega
      have u1 : (k : Int) < hs.length := by omega
      have u2 : (k : Int) < ls.length := by omega
      clear hc0 hc0'
      go_wp2_with fail
      have nr : some r ≠ blk Ah := fun e => FB.fr.hi.ne_box FB.box r e.symm rfl
      have na : some w.heap.size ≠ blk Ah := fun e => by have := (FB.fr.hi.lt _ e.symm).1; omega
      have nb : some b ≠ blk Ah := fun e => by have := (FB.fr.hi.lt _ e.symm).1; omega
      have w7 : IntKind.i64.wrap (1 - (nth hs k)) = 1 - (nth hs k) := IntWalk.i64_in _ (by omega)
      refine wp_region_use (nsR Ah) (fun w' => wr.grownBy w' (blk Ah)) (fun w' => Below wr.heap.size wr w') 9 (nsT wr w1.heap.size r 0 w.heap.size Ah ch (pre (ninH hs) k) (some ⟨b, off, none⟩) hs.length c k b off (nth hs k) (1 - (nth hs k))) nsU 0 1 (fun _ _ => True)
        (fun _ w' => ∃ Ax cx, FrBox w1 w' r Ax Al cx cl (pre (ninH hs) k ++ [1 - nth hs k]) (pre (ninL ls) k)) 11 (by kernel_rfl) (by kernel_rfl) nsT_stable (fun i v w1 w2 hi hR hj => by rw [nsR, if_neg hi] at hR; exact bstep hj hR) (grownBy_of_below (Below.refl _ _).drew _) (Below.refl _ _).drew ?_ ?_
      · refine lawsU_cons rfl ?_ (lawsU_cons rfl ?_ (lawsU_cons rfl ?_ (lawsU_cons rfl ?_ (lawsU_cons rfl ?_ (lawsU_cons rfl ?_ (lawsU_cons rfl ?_ (lawsU_cons rfl ?_ (lawsU_cons rfl ?_ (lawsU_cons rfl ?_ (lawsU_cons rfl ?_ (lawsU_last rfl ?_)))))))))))
        · intro v w6 hI _ hd _
          go_light
          refine ⟨?_⟩
          unfold Gives
          simp only [fillL]
          go_simp
          exact ⟨nsR_of (by decide) (Below.refl _ _), hI, rfl⟩
        · intro v w6 hI _ hd _
          have h1 : v 0 = _ := hd 0 (by kernel_rfl) rfl
          have e1 := hI.cell c0 nr
          clear hd
          go_light
          refine ⟨?_⟩
          unfold Gives
          simp only [fillL]
          go_simp
          exact ⟨nsR_of (by decide) (Below.refl _ _), hI, rfl⟩
        · intro v w6 hI _ hd _
          go_light
          refine ⟨?_⟩
          unfold Gives
          simp only [fillL]
          go_simp
          exact ⟨nsR_of (by decide) (Below.refl _ _), hI, rfl⟩
        · intro v w6 hI _ hd _
          have h1 : v 2 = _ := hd 2 (by kernel_rfl) rfl
          have e1 := hI.cell a0 na
          clear hd
          go_light
          refine ⟨?_⟩
          unfold Gives
          simp only [fillL]
          go_simp
          exact ⟨nsR_of (by decide) (Below.refl _ _), hI, rfl⟩
        · intro v w6 hI _ hd _
          go_light
          refine ⟨?_⟩
          unfold Gives
          simp only [fillL]
          go_simp
          exact ⟨nsR_of (by decide) (Below.refl _ _), hI, rfl⟩
        · intro v w6 hI _ hd _
          have h1 : v 3 = _ := hd 3 (by kernel_rfl) rfl
          have h2 : v 4 = _ := hd 4 (by kernel_rfl) rfl
          clear hd
          go_light
          refine ⟨?_⟩
          unfold Gives
          simp only [fillL]
          go_simp
          exact ⟨nsR_of (by decide) (Below.refl _ _), hI, rfl⟩
        · intro v w6 hI _ hd _
          have h1 : v 5 = _ := hd 5 (by kernel_rfl) rfl
          have e1 := hI.cell hc nb
          clear hd
          go_light
          refine ⟨?_⟩
          unfold Gives
          simp only [fillL]
          go_simp
          exact ⟨nsR_of (by decide) (Below.refl _ _), hI, rfl⟩
        · intro v w6 hI _ hd _
          have h1 : v 6 = _ := hd 6 (by kernel_rfl) rfl
          clear hd
          go_light
          refine ⟨?_⟩
          unfold Gives
          simp only [fillL]
          go_simp
          exact ⟨nsR_of (by decide) (Below.refl _ _), hI, rfl⟩
        · intro v w6 hI _ hd _
          have h1 : v 7 = _ := hd 7 (by kernel_rfl) rfl
          clear hd
          go_light
          refine ⟨?_⟩
          unfold Gives
          simp only [fillL]
          go_simp
          exact ⟨nsR_of (by decide) (below_new _ _), grownBy_trans hI (grownBy_of_below (below_new _ _) _), _, rfl, by simp⟩
        · intro v w6 hI hJ hd _
          have h1 : v 1 = _ := hd 1 (by kernel_rfl) rfl
          obtain ⟨x, h2, hx⟩ := hd 8 (by kernel_rfl) rfl
          have hz6 := hI.size
          obtain ⟨A1, c1, w7, hrun, s7, g7, t7⟩ := ap_run1 22 w6 w1.heap.size Ah ch (pre (ninH hs) k) x 1 (1 - (nth hs k)) (FB.fr.hi.below (hJ rfl)) hx lh1 (by omega)
          have t8 : blk A1 = blk Ah ∨ ∃ g, blk A1 = some g ∧ wr.heap.size ≤ g := by
            rcases t7 with t | ⟨g, t, tl⟩
            · exact .inl t
            · exact .inr ⟨g, t, by omega⟩
          clear hd hJ
          go_light
          refine kept_ap _ _ _ rfl hrun (by simp only [fillL]; go_simp) (by simp only [fillL]; go_simp) ?_
          exact ⟨nsR_9 g7, grownBy_trans hI g7, ⟨A1, c1, rfl, s7, t8⟩, fun h => absurd h (by decide), fun h => absurd h (by decide)⟩
        · intro v w6 hI _ hd _
          go_light
          refine ⟨?_⟩
          unfold Gives
          simp only [fillL]
          go_simp
          exact ⟨nsR_of (by decide) (Below.refl _ _), hI, rfl⟩
        · intro v w6 hI hall
          obtain ⟨A1, c1, h1, s1, t1⟩ := hall 9 (by decide) (by decide)
          have h2 : v 10 = _ := hall 10 (by decide) (by decide)
          obtain ⟨x0, x1, f0, f1, xl⟩ := box_facts (FB.midH hI)
          have F1 := FB.stepH s1 hI t1
          simp only [List.length_append, List.length_cons, List.length_nil, Nat.zero_add] at F1
          clear hall
          go_light
          refine ⟨?_⟩
          unfold Gives
          simp only [fillL]
          go_simp
          exact ⟨A1, c1, F1⟩
      intro v wx hF
      obtain ⟨A1, c1, FB1⟩ := hF
      have zx := FB1.bel.size
      have x1 := FB1.c1
      have xl := FB1.rlt
      obtain ⟨a0, a1, _, _, al⟩ := box_facts ((FB1.bel.block w.heap.size (by omega)).trans HF1.out)
      have hc0' := hc'
      clear hc'
      have hc' : wx.cell? ⟨b', off' + k, none⟩ = some (.int .i64 (nth ls k)) := (FB1.bel.cell hbl').trans ((FB.bel.cell hbl').symm.trans hc0')
      have HFB1 := Lib.hid FB1
      refine ⟨?_⟩
      simp only [fillL]
      go_simp
      clear hc hc0' FB c0 rl hzw
      go_wp2_with fail
      have nr : some r ≠ blk Al := fun e => FB1.fr.lo.ne_box FB1.box r e.symm rfl
      have na : some w.heap.size ≠ blk Al := fun e => by have := (FB1.fr.lo.lt _ e.symm).1; omega
      have nb : some b' ≠ blk Al := fun e => by have := (FB1.fr.lo.lt _ e.symm).1; omega
      have w7 : IntKind.i64.wrap (4 - (nth ls k)) = 4 - (nth ls k) := IntWalk.i64_in _ (by omega)
      refine wp_region_use (nsR Al) (fun w' => wx.grownBy w' (blk Al)) (fun w' => Below wx.heap.size wx w') 9 (nsT wx w1.heap.size r 1 w.heap.size Al cl (pre (ninL ls) k) (some ⟨b', off', none⟩) ls.length d k b' off' (nth ls k) (4 - (nth ls k))) nsU 0 1 (fun _ _ => True)
        (fun _ w' => ∃ Ax cx, FrBox w1 w' r A1 Ax c1 cx (pre (ninH hs) k ++ [1 - nth hs k]) (pre (ninL ls) k ++ [4 - nth ls k])) 11 (by kernel_rfl) (by kernel_rfl) nsT_stable (fun i v w1 w2 hi hR hj => by rw [nsR, if_neg hi] at hR; exact bstep hj hR) (grownBy_of_below (Below.refl _ _).drew _) (Below.refl _ _).drew ?_ ?_
      · refine lawsU_cons rfl ?_ (lawsU_cons rfl ?_ (lawsU_cons rfl ?_ (lawsU_cons rfl ?_ (lawsU_cons rfl ?_ (lawsU_cons rfl ?_ (lawsU_cons rfl ?_ (lawsU_cons rfl ?_ (lawsU_cons rfl ?_ (lawsU_cons rfl ?_ (lawsU_cons rfl ?_ (lawsU_last rfl ?_)))))))))))
        · intro v w6 hI _ hd _
          go_light
          refine ⟨?_⟩
          unfold Gives
          simp only [fillL]
          go_simp
          exact ⟨nsR_of (by decide) (Below.refl _ _), hI, rfl⟩
        · intro v w6 hI _ hd _
          have h1 : v 0 = _ := hd 0 (by kernel_rfl) rfl
          have e1 := hI.cell x1 nr
          clear hd
          go_light
          refine ⟨?_⟩
          unfold Gives
          simp only [fillL]
          go_simp
          exact ⟨nsR_of (by decide) (Below.refl _ _), hI, rfl⟩
        · intro v w6 hI _ hd _
          go_light
          refine ⟨?_⟩
          unfold Gives
          simp only [fillL]
          go_simp
          exact ⟨nsR_of (by decide) (Below.refl _ _), hI, rfl⟩
        · intro v w6 hI _ hd _
          have h1 : v 2 = _ := hd 2 (by kernel_rfl) rfl
          have e1 := hI.cell a1 na
          clear hd
          go_light
          refine ⟨?_⟩
          unfold Gives
          simp only [fillL]
          go_simp
          exact ⟨nsR_of (by decide) (Below.refl _ _), hI, rfl⟩
        · intro v w6 hI _ hd _
          go_light
          refine ⟨?_⟩
          unfold Gives
          simp only [fillL]
          go_simp
          exact ⟨nsR_of (by decide) (Below.refl _ _), hI, rfl⟩
        · intro v w6 hI _ hd _
          have h1 : v 3 = _ := hd 3 (by kernel_rfl) rfl
          have h2 : v 4 = _ := hd 4 (by kernel_rfl) rfl
          clear hd
          go_light
          refine ⟨?_⟩
          unfold Gives
          simp only [fillL]
          go_simp
          exact ⟨nsR_of (by decide) (Below.refl _ _), hI, rfl⟩
        · intro v w6 hI _ hd _
          have h1 : v 5 = _ := hd 5 (by kernel_rfl) rfl
          have e1 := hI.cell hc' nb
          clear hd
          go_light
          refine ⟨?_⟩
          unfold Gives
          simp only [fillL]
          go_simp
          exact ⟨nsR_of (by decide) (Below.refl _ _), hI, rfl⟩
        · intro v w6 hI _ hd _
          have h1 : v 6 = _ := hd 6 (by kernel_rfl) rfl
          clear hd
          go_light
          refine ⟨?_⟩
          unfold Gives
          simp only [fillL]
          go_simp
          exact ⟨nsR_of (by decide) (Below.refl _ _), hI, rfl⟩
        · intro v w6 hI _ hd _
          have h1 : v 7 = _ := hd 7 (by kernel_rfl) rfl
          clear hd
          go_light
          refine ⟨?_⟩
          unfold Gives
          simp only [fillL]
          go_simp
          exact ⟨nsR_of (by decide) (below_new _ _), grownBy_trans hI (grownBy_of_below (below_new _ _) _), _, rfl, by simp⟩
        · intro v w6 hI hJ hd _
          have h1 : v 1 = _ := hd 1 (by kernel_rfl) rfl
          obtain ⟨x, h2, hx⟩ := hd 8 (by kernel_rfl) rfl
          have hz6 := hI.size
          obtain ⟨A1, c1, w7, hrun, s7, g7, t7⟩ := ap_run1 22 w6 w1.heap.size Al cl (pre (ninL ls) k) x 1 (4 - (nth ls k)) (FB1.fr.lo.below (hJ rfl)) hx ll1 (by omega)
          have t8 : blk A1 = blk Al ∨ ∃ g, blk A1 = some g ∧ wx.heap.size ≤ g := by
            rcases t7 with t | ⟨g, t, tl⟩
            · exact .inl t
            · exact .inr ⟨g, t, by omega⟩
          clear hd hJ
          go_light
          refine kept_ap _ _ _ rfl hrun (by simp only [fillL]; go_simp) (by simp only [fillL]; go_simp) ?_
          exact ⟨nsR_9 g7, grownBy_trans hI g7, ⟨A1, c1, rfl, s7, t8⟩, fun h => absurd h (by decide), fun h => absurd h (by decide)⟩
        · intro v w6 hI _ hd _
          go_light
          refine ⟨?_⟩
          unfold Gives
          simp only [fillL]
          go_simp
          exact ⟨nsR_of (by decide) (Below.refl _ _), hI, rfl⟩
        · intro v w6 hI hall
          obtain ⟨A1, c1, h1, s1, t1⟩ := hall 9 (by decide) (by decide)
          have h2 : v 10 = _ := hall 10 (by decide) (by decide)
          obtain ⟨x0, x1, f0, f1, xl⟩ := box_facts (FB1.midL hI)
          have F1 := FB1.stepL s1 hI t1
          simp only [List.length_append, List.length_cons, List.length_nil, Nat.zero_add] at F1
          clear hall
          go_light
          refine ⟨?_⟩
          unfold Gives
          simp only [fillL]
          go_simp
          exact ⟨A1, c1, F1⟩
      intro v wy hF
      obtain ⟨A2, c2, FB2⟩ := hF
      have HFB2 := Lib.hid FB2
      clear FB2 FB1 hc' a0 a1 x1 xl al zx
      refine ⟨?_⟩
      simp only [fillL]
      go_simp
      go_wp2_with fail
      go_roundw
      case rel =>
        have e1 : pre (ninH hs) (k + 1) = pre (ninH hs) k ++ [1 - nth hs k] := by rw [pre_succ (by rw [Hl1.out]; exact hlt), ninH_nth hlt]
        have e2 : pre (ninL ls) (k + 1) = pre (ninL ls) k ++ [4 - nth ls k] := by rw [pre_succ (by rw [Hl2.out]; exact k2), ninL_nth k2]
        exact ⟨k + 1, A1, A2, c1, c2, by omega, by go_num, by rw [e1, e2]; exact HFB2.out⟩
      case measure => simp [intOf]; omega
    · obtain rfl : k = hs.length := by omega
      have e1 := pre_all (ninH hs)
      rw [Hl1.out] at e1
      have e2 := pre_all (ninL ls)
      rw [Hl2.out, ← ok.len] at e2
      rw [e1, e2] at FB
      clear c0
      have c0 := FB.c0
      have c1 := FB.c1
      obtain ⟨x0, x1, f0, f1, xl⟩ := box_facts ((FB.bel.block (w.heap.size + 1) (by omega)).trans HF0.out)
      have HB1 := Lib.hid (bstep HB0.out FB.bel)
      have hzb := HB0.out.size
      have HFBe := Lib.hid FB
      clear FB e1 e2
      go_wp2_with fail
      refine bodyPost_ret (v := .tuple #[.agg #[.slice Ah (ninH hs).length ch, .slice Al (ninL ls).length cl], .bool true]) (by simp [results, Try.results30, go_sem, *]) rfl ?_
      have F := HFBe.out
      have hA : ∀ j, blk Ah = some j → j ≠ w.heap.size + 1 := fun j hj => by have := (F.fr.hi.lt j hj).1; omega
      have hB : ∀ j, blk Al = some j → j ≠ w.heap.size + 1 := fun j hj => by have := (F.fr.lo.lt j hj).1; omega
      exact ⟨Ah, Al, ch, cl, rfl, ((F.fr.far hA hB).far hA hB).down (by omega), (HB1.out.setCell (by simp) _).setCell (by simp) _⟩

set_option maxRecDepth 100000 in
theorem spec_FrameNines_n (A B : Option Addr) (c d : Nat) (hs ls : List Int) (w : World) (hr : FrRd w A B hs ls) (hh : hs.length ≤ 4194304) (hl : ls.length ≤ 4194304) (hbad : frB hs ls = false) :
    Calls Try.prog 30 #[.agg #[.slice A hs.length c, .slice B ls.length d]] w (NoFr w) := by
  have hb0 := ((Below.refl w.heap.size w).alloc (Nat.le_refl _) (.cells #[.slice A hs.length c, .slice B ls.length d] 27)).alloc (by simp) (.cells #[.slice none 0 0, .slice none 0 0] 27)
  have hr0 := hr.below hb0
  go_enter Try.func30, Try.ntmps30
  go_wp2_with fail
  refine (spec_FrameValid_b _ _ _ _ _ _ _ hr0 hh hl).mono ?_
  rintro e w1 ⟨rfl, q1⟩
  rw [hbad]
  obtain ⟨x0, x1, f0, f1, xl⟩ := box_facts (box_second q1)
  have hb1 := Lib.hid (bstep hb0 q1)
  go_wp2_with fail
  refine bodyPost_ret (v := .tuple #[.agg #[.slice none 0 0, .slice none 0 0], .bool false]) (by simp [results, Try.results30, go_sem, *]) rfl ?_
  exact ⟨rfl, (hb1.out.setCell (by simp) _).setCell (by simp) _⟩

theorem spec_FrameNines (A B : Option Addr) (c d : Nat) (hs ls : List Int) (w : World) (hr : FrRd w A B hs ls) (hh : hs.length ≤ 4194304) (hl : ls.length ≤ 4194304) :
    Calls Try.prog 30 #[.agg #[.slice A hs.length c, .slice B ls.length d]] w (FrPost w (nnH hs ls) (nnL hs ls) (frB hs ls)) := by
  cases hb : frB hs ls
  · exact hb ▸ (spec_FrameNines_n A B c d hs ls w hr hh hl hb).mono fun _ _ h => nnPost_no hb h
  · rw [show nnH hs ls = ninH hs by simp [nnH, hb], show nnL hs ls = ninL ls by simp [nnL, hb]]
    exact spec_FrameNines_y A B c d hs ls w hr (frB_ok hb)
end Go.Proofs.Ytfdbhaojdccomaa
