/- The contract of the reference's FrameOf. -/
import Derived.Test.YtfdbhaojdccomaaDoorFrOf
import Derived.Test.YtfdbhaojdccomaaDoorFrBox
namespace Go.Proofs.YtfdbhaojdccomaaDoor
open Go.RowKit

set_option maxRecDepth 100000 in
set_option maxHeartbeats 1000000 in
theorem spec_FrameOf_y (n : Nat) (v : Int) (w : World) (n1 : 1 ≤ n) (n6 : n ≤ 6) (h : inB v 0 (p10 n - 1) = true) : Calls Tryd.prog 12 #[.int .i64 (n : Int), .int .i64 v] w (FrPost w (ofH v n) (ofL v n) true) := by
  have ⟨v0, v1⟩ := inB_t h
  have hp := p10_bd n6
  have h1 : inB (n : Int) 1 6 = true := inB_of (by omega) (by omega)
  go_enter Tryd.func12, Tryd.ntmps12
  go_wp2_with fail
  refine (l6In _ _ _ _).mono ?_
  rintro e w' ⟨rfl, rfl⟩
  rw [h1]
  go_wp2_with fail
  refine (l5Ten n n6 _).mono ?_
  rintro e w' ⟨rfl, rfl⟩
  go_wp2_with fail
  refine (l6In _ _ _ _).mono ?_
  rintro e w' ⟨rfl, rfl⟩
  rw [h]
  go_wp2_with fail
  have hbr : Below w.heap.size w (w.alloc (.cells #[.slice none 0 0, .slice none 0 0] 27)) := (Below.refl _ _).alloc (Nat.le_refl _) _
  have HF0 := Lib.hid (FrBox.new (w.alloc (.cells #[.slice none 0 0, .slice none 0 0] 27)) (w.alloc (.cells #[.slice none 0 0, .slice none 0 0] 27)) (Below.refl _ _))
  have HRET : Hid ((w.alloc (.cells #[.slice none 0 0, .slice none 0 0] 27)).heap[w.heap.size]? = some (.cells #[.slice none 0 0, .slice none 0 0] 27 (0, 0))) := Lib.hid (heap_alloc_new _ _)
  have HW : Hid ((w.alloc (.cells #[.slice none 0 0, .slice none 0 0] 27)).heap.size = w.heap.size + 1) := Lib.hid (by simp)
  have HB := Lib.hid hbr
  clear hbr
  rw [HW.out] at HF0
  generalize w.alloc (.cells #[.slice none 0 0, .slice none 0 0] 27) = W at *
  go_loopw [1, 7] (fun q i wr => ∃ (k : Nat) (A B : Option Addr) (c d : Nat), k ≤ n ∧ i = .int .i64 k ∧ q = .int .i64 (v / p10 k) ∧ FrBox W wr (w.heap.size + 3) A B c d (ofH v k) (ofL v k)) (fun _ i _ => n - (intOf i).toNat)
  case atStart => exact ⟨0, _, _, _, _, Nat.zero_le _, rfl, by simp [p10], HF0.out⟩
  case round =>
    obtain ⟨k, A, B, c, d, hk, rfl, rfl, FB⟩ := hrel
    have c0 := FB.c0
    have c1 := FB.c1
    have rl := FB.rlt
    have hzw := FB.bel.size
    have hpk := p10_pos k
    have q0 : 0 ≤ v / p10 k := Int.ediv_nonneg v0 (by omega)
    have q1 : v / p10 k ≤ v := Int.ediv_le_self _ v0
    have lh : (ofH v k).length ≤ 4194304 := by rw [ofH_len]; omega
    have ll : (ofL v k).length ≤ 4194304 := by rw [ofL_len]; omega
    by_cases hlt : k < n
    · have HN : Hid (v / p10 (k + 1) = v / p10 k / 10) := Lib.hid (p10_next v k)
      go_wp2_with (at_builtin; refine wp_ap1 _ _ rfl rfl wr W.heap.size A c (ofH v k) (v / p10 k % 10 / 5) rfl rfl FB.fr.hi lh hzw ?_; intro A1 c2 w1 s1 g1 t1; refine Hid.out ?_)
      have FB1 := FB.stepH s1 g1 t1
      obtain ⟨x0, x1, f0, f1, xl⟩ := box_facts (FB.midH g1)
      simp only [List.length_append, List.length_cons, List.length_nil, Nat.zero_add] at FB1
      rw [← ofH_succ] at FB1
      have hz1 := FB1.bel.size
      have HFB := Lib.hid FB1
      clear FB FB1 c0 c1
      refine Lib.hid ?_
      go_wp2_with (at_builtin; refine wp_ap1 _ _ rfl rfl (w1.setCell ⟨w.heap.size + 3, 0, none⟩ (.slice A1 ((ofH v k).length + 1) c2)) W.heap.size B d (ofL v k) (v / p10 k % 5) rfl (by first | rfl | (go_simp; done) | simp) HFB.out.fr.lo ll hz1 ?_; intro B1 d2 w2 s2 g2 t2; refine Hid.out ?_)
      have FB2 := HFB.out.stepL s2 g2 t2
      clear x0 x1 f0 f1 xl
      obtain ⟨x0, x1, f0, f1, xl⟩ := box_facts (HFB.out.midL g2)
      simp only [List.length_append, List.length_cons, List.length_nil, Nat.zero_add] at FB2
      rw [show v / p10 k % 5 = v / p10 k % 10 % 5 by omega, ← ofL_succ] at FB2
      have HFB2 := Lib.hid FB2
      clear FB2 HFB
      refine Lib.hid ?_
      go_wp2_with fail
      go_roundw
      case rel => exact ⟨k + 1, _, _, _, _, by omega, by go_num, by rw [HN.out], HFB2.out⟩
      case measure => simp [intOf]; omega
    · obtain rfl : k = n := by omega
      have a0 := (FB.bel.block w.heap.size (by rw [HW.out]; omega)).trans HRET.out
      obtain ⟨x0, x1, f0, f1, xl⟩ := box_facts a0
      have HFB := Lib.hid FB
      clear FB a0
      go_wp2_with fail
      refine bodyPost_ret (v := .tuple #[.agg #[.slice A (ofH v k).length c, .slice B (ofL v k).length d], .bool true]) (by simp [results, Tryd.results12, go_sem, *]) rfl ?_
      have F := HFB.out
      have hW := HW.out
      have hA : ∀ j, blk A = some j → j ≠ w.heap.size := fun j hj => by have := (F.fr.hi.lt j hj).1; omega
      have hB : ∀ j, blk B = some j → j ≠ w.heap.size := fun j hj => by have := (F.fr.lo.lt j hj).1; omega
      exact ⟨A, B, c, d, rfl, ((F.fr.far hA hB).far hA hB).down (by omega), ((bstep HB.out F.bel).setCell (by simp) _).setCell (by simp) _⟩
theorem spec_FrameOf (n v : Int) (w : World) : Calls Tryd.prog 12 #[.int .i64 n, .int .i64 v] w (FrPost w (ofHs n v) (ofLs n v) (ofB n v)) := by
  cases h1 : inB n 1 6
  · exact (spec_FrameOf_n n v w h1).mono fun _ _ h => ofPost_no (ofB_n h1) h
  have ⟨n1, n6⟩ := inB_t h1
  obtain ⟨N, rfl⟩ := Int.eq_ofNat_of_zero_le (show 0 ≤ n by omega)
  cases h2 : inB v 0 (p10 N - 1)
  · exact (spec_FrameOf_v N v w (by omega) (by omega) h2).mono fun _ _ h => ofPost_no (ofB_v h2) h
  · have hb : ofB N v = true := ofB_y h1 h2
    rw [show ofHs N v = ofH v N by simp [ofHs, hb], show ofLs N v = ofL v N by simp [ofLs, hb], hb]
    exact spec_FrameOf_y N v w (by omega) (by omega) h2
end Go.Proofs.YtfdbhaojdccomaaDoor
