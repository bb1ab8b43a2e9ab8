/- Contracts of FrameOf, of the program and of the reference. -/
import Derived.Test.YtfdbhaojdccomaaDoorFrame
namespace Go.Proofs.YtfdbhaojdccomaaDoor
open Go.RowKit

/-- There is such a frame. -/
def ofB (n v : Int) : Bool := inB n 1 6 && inB v 0 (p10 n.toNat - 1)
def ofHs (n v : Int) : List Int := if ofB n v then ofH v n.toNat else []
def ofLs (n v : Int) : List Int := if ofB n v then ofL v n.toNat else []
theorem ofB_n {n v : Int} (h : inB n 1 6 = false) : ofB n v = false := by simp [ofB, h]
theorem ofB_v {n v : Int} (h : inB v 0 (p10 n.toNat - 1) = false) : ofB n v = false := by simp [ofB, h]
theorem ofB_y {n v : Int} (h : inB n 1 6 = true) (h' : inB v 0 (p10 n.toNat - 1) = true) : ofB n v = true := by simp [ofB, h, h']

/-- No frame is returned. -/
def NoFr (w : World) (e : Ending) (w' : World) : Prop := e = .returned (.tuple #[.agg #[.slice none 0 0, .slice none 0 0], .bool false]) ∧ Below w.heap.size w w'
theorem FrPost.no {w : World} {hs ls : List Int} {ok : Bool} (h1 : hs = []) (h2 : ls = []) (h3 : ok = false) {e : Ending} {w' : World} (h : NoFr w e w') : FrPost w hs ls ok e w' := by
  subst h1 h2 h3
  obtain ⟨rfl, hb⟩ := h
  exact ⟨none, none, 0, 0, rfl, FrSl.nil_ _ _, hb⟩
theorem ofPost_no {n v : Int} (hb : ofB n v = false) {w : World} {e : Ending} {w' : World} (h : NoFr w e w') : FrPost w (ofHs n v) (ofLs n v) (ofB n v) e w' :=
  FrPost.no (by simp [ofHs, hb]) (by simp [ofLs, hb]) hb h

set_option maxRecDepth 100000 in
theorem impl_FrameOf_n (n v : Int) (w : World) (h : inB n 1 6 = false) : Calls Tryd.prog 11 #[.int .i64 n, .int .i64 v] w (NoFr w) := by
  have hb0 : Below w.heap.size w (w.alloc (.cells #[.slice none 0 0, .slice none 0 0] 27)) := (Below.refl _ _).alloc (Nat.le_refl _) _
  rcases inB_f h with h1 | h1
  · go_enter Tryd.func11, Tryd.ntmps11
    go_wp2
    refine bodyPost_ret (v := .tuple #[.agg #[.slice none 0 0, .slice none 0 0], .bool false]) (by simp [results, Tryd.results11, go_sem, *]) rfl ?_
    exact ⟨rfl, hb0⟩
  · have d1 : decide (n < 1) = false := by simp; omega
    go_enter Tryd.func11, Tryd.ntmps11
    go_wp2
    refine bodyPost_ret (v := .tuple #[.agg #[.slice none 0 0, .slice none 0 0], .bool false]) (by simp [results, Tryd.results11, go_sem, *]) rfl ?_
    exact ⟨rfl, hb0⟩

set_option maxRecDepth 100000 in
theorem impl_FrameOf_v (n : Nat) (v : Int) (w : World) (n1 : 1 ≤ n) (n6 : n ≤ 6) (h : inB v 0 (p10 n - 1) = false) : Calls Tryd.prog 11 #[.int .i64 (n : Int), .int .i64 v] w (NoFr w) := by
  have hb0 : Below w.heap.size w (w.alloc (.cells #[.slice none 0 0, .slice none 0 0] 27)) := (Below.refl _ _).alloc (Nat.le_refl _) _
  have d1 : decide ((n : Int) < 1) = false := by simp; omega
  have d2 : decide (6 < (n : Int)) = false := by simp; omega
  rcases inB_f h with h1 | h1
  · go_enter Tryd.func11, Tryd.ntmps11
    go_wp2
    refine bodyPost_ret (v := .tuple #[.agg #[.slice none 0 0, .slice none 0 0], .bool false]) (by simp [results, Tryd.results11, go_sem, *]) rfl ?_
    exact ⟨rfl, hb0⟩
  · have hp := p10_pos n
    have d3 : decide (v < 0) = false := by simp; omega
    have d4 : p10 n ≤ v := by omega
    go_enter Tryd.func11, Tryd.ntmps11
    go_wp2_with fail
    refine (powerOfTen n n6 _).mono ?_
    rintro e w' ⟨rfl, rfl⟩
    go_wp2_with fail
    refine bodyPost_ret (v := .tuple #[.agg #[.slice none 0 0, .slice none 0 0], .bool false]) (by simp [results, Tryd.results11, go_sem, *]) rfl ?_
    exact ⟨rfl, hb0⟩

set_option maxRecDepth 100000 in
set_option maxHeartbeats 1000000 in
theorem impl_FrameOf_y (n : Nat) (v : Int) (w : World) (n1 : 1 ≤ n) (n6 : n ≤ 6) (h : inB v 0 (p10 n - 1) = true) : Calls Tryd.prog 11 #[.int .i64 (n : Int), .int .i64 v] w (FrPost w (ofH v n) (ofL v n) true) := by
  have ⟨v0, v1⟩ := inB_t h
  have d1 : decide ((n : Int) < 1) = false := by simp; omega
  have d2 : decide (6 < (n : Int)) = false := by simp; omega
  have d3 : decide (v < 0) = false := by simp; omega
  have d4 : decide (p10 n ≤ v) = false := by simp; omega
  go_enter Tryd.func11, Tryd.ntmps11
  go_wp2_with fail
  refine (powerOfTen n n6 _).mono ?_
  rintro e w' ⟨rfl, rfl⟩
  go_wp2_with (at_make; refine wp_mkR _ _ rfl rfl _ n rfl rfl (by omega) ?_; intro w0 hs0 hg0)
  have hsz : w0.heap.size ≠ w.heap.size + 1 := by have := (Array.getElem?_eq_some_iff.1 hs0).1; simp at this; omega
  have hfb : (w.alloc (.cells #[.slice none 0 0, .slice none 0 0] 27)).heap[w.heap.size]? = some (.cells #[.slice none 0 0, .slice none 0 0] 27 (0, 0)) := heap_alloc_new _ _
  have b0 : Below w.heap.size w w0 := ((Below.refl _ _).alloc (Nat.le_refl _) _).grown hg0 (by simp) (fun _ hk => by cases hk)
  have hf0 := hg0.block w.heap.size (by simp) (by simp)
  rw [hfb] at hf0
  have hzz := b0.size
  have R0 : Rods (w0.alloc (.cells #[.slice (some ⟨w.heap.size + 1, 0, none⟩) n n] 49)) w.heap.size w0.heap.size (w.heap.size + 1) (mix (ofH v n) (List.replicate n 0) 0) (mix (ofL v n) (List.replicate n 0) 0) := by
    rw [mix_zero, mix_zero]
    refine ⟨rfl, by rw [List.length_replicate]; exact heap_alloc_new _ _, ?_, hzz, by omega, hsz⟩
    rw [Below.heap_alloc _ _ _ (by have := (Array.getElem?_eq_some_iff.1 hs0).1; simpa using this)]
    simpa using hs0
  have F0 : (w0.alloc (.cells #[.slice (some ⟨w.heap.size + 1, 0, none⟩) n n] 49)).heap[w.heap.size]? = some (.cells #[.slice none 0 0, .slice none 0 0] 27 (0, 0)) := by
    rw [Below.heap_alloc _ _ _ (by have := (Array.getElem?_eq_some_iff.1 hf0).1; exact this)]; exact hf0
  have B0 := b0.alloc hzz (.cells #[.slice (some ⟨w.heap.size + 1, 0, none⟩) n n] 49)
  have HR0 := Lib.hid R0
  have HF0 := Lib.hid F0
  have HB0 := Lib.hid B0
  have HSZ := Lib.hid hsz
  clear R0 F0 B0 hs0 hg0 hfb hf0 b0 hsz
  generalize w0.heap.size = p at *
  have HlH : Hid ((ofH v n).length = (List.replicate n (0 : Int)).length) := Lib.hid (by rw [ofH_len, List.length_replicate])
  have HlL : Hid ((ofL v n).length = (List.replicate n (0 : Int)).length) := Lib.hid (by rw [ofL_len, List.length_replicate])
  go_loopw [1, 29] (fun q i wr => ∃ k : Nat, k ≤ n ∧ i = .int .i64 k ∧ q = .int .i64 (v / p10 k) ∧ Rods wr w.heap.size p (w.heap.size + 1) (mix (ofH v n) (List.replicate n 0) k) (mix (ofL v n) (List.replicate n 0) k) ∧ Hid (wr.heap[w.heap.size]? = some (.cells #[.slice none 0 0, .slice none 0 0] 27 (0, 0))) ∧ Below w.heap.size w wr) (fun _ i _ => n - (intOf i).toNat)
  case atStart => exact ⟨0, Nat.zero_le _, rfl, by simp [p10], HR0.out, HF0, HB0.out⟩
  case round =>
    obtain ⟨k, hk, rfl, rfl, R, HF, bw⟩ := hrel
    have hlh : (mix (ofH v n) (List.replicate n 0) k).length = n := by rw [mix_len HlH.out (by simpa using hk), List.length_replicate]
    have hlm : (mix (ofL v n) (List.replicate n 0) k).length = n := by rw [mix_len HlL.out (by simpa using hk), List.length_replicate]
    have hcb := R.cbox
    rw [hlh] at hcb
    have plt := R.plt
    have glt := R.glt
    have pb := R.pb
    have hp := p10_pos k
    have q0 : 0 ≤ v / p10 k := Int.ediv_nonneg v0 (by omega)
    have q1 : v / p10 k ≤ v := Int.ediv_le_self _ v0
    have hpn := p10_bd n6
    by_cases hlt : k < n
    · have ch := R.chi (j := k) (by omega)
      have cl := R.clo (j := k) (by omega)
      rw [mix_at HlH.out (by simpa using hlt)] at ch
      rw [mix_at HlL.out (by simpa using hlt)] at cl
      have fh := R.free (k * 2)
      have fl := R.free (k * 2 + 1)
      have r0 : 0 ≤ v / p10 k % 10 := Int.emod_nonneg _ (by omega)
      have r1 : v / p10 k % 10 ≤ 9 := by have := Int.emod_lt_of_pos (v / p10 k) (show (0 : Int) < 10 by omega); omega
      have HN : Hid (v / p10 (k + 1) = v / p10 k / 10) := Lib.hid (p10_next v k)
      have HeH : Hid (nth (ofH v n) k = v / p10 k % 10 / 5) := Lib.hid (ofH_nth v hlt)
      have HeL : Hid (nth (ofL v n) k = v / p10 k % 10 % 5) := Lib.hid (ofL_nth v hlt)
      have HR := Lib.hid R
      have u0 : 0 ≤ (k : Int) := by omega
      have u1 : (k : Int) < n := by omega
      clear R hlh hlm
      go_wp2_with fail
      refine (beadShow (w.heap.size + 1) (k * 2) _ _ _ wr ch cl fh fl r0 r1).mono ?_
      rintro e w2 ⟨rfl, w1, b1, rfl⟩
      have HS := Lib.hid ((HR.out.below b1).set_ k (v / p10 k % 10 / 5) (v / p10 k % 10 % 5))
      have HB := Lib.hid (((bstep bw b1).setCell (p := ⟨w.heap.size + 1, k * 2, none⟩) (by simp) (.int .i64 (v / p10 k % 10 / 5))).setCell (p := ⟨w.heap.size + 1, k * 2 + 1, none⟩) (by simp) (.int .i64 (v / p10 k % 10 % 5)))
      have HF1 : Hid (((w1.setCell ⟨w.heap.size + 1, k * 2, none⟩ (.int .i64 (v / p10 k % 10 / 5))).setCell ⟨w.heap.size + 1, k * 2 + 1, none⟩ (.int .i64 (v / p10 k % 10 % 5))).heap[w.heap.size]? = some (.cells #[.slice none 0 0, .slice none 0 0] 27 (0, 0))) := Lib.hid (by
        rw [Below.heap_setCell _ _ _ _ (by simp), Below.heap_setCell _ _ _ _ (by simp)]
        exact (b1.block _ (by omega)).trans HF.out)
      clear ch cl fh fl hcb
      generalize (w1.setCell ⟨w.heap.size + 1, k * 2, none⟩ (.int .i64 (v / p10 k % 10 / 5))).setCell ⟨w.heap.size + 1, k * 2 + 1, none⟩ (.int .i64 (v / p10 k % 10 % 5)) = w2 at *
      go_wp2_with fail
      go_roundw
      case rel => exact ⟨k + 1, by omega, by go_num, by rw [HN.out], by rw [← mix_succ HlH.out (by simpa using hlt), ← mix_succ HlL.out (by simpa using hlt), HeH.out, HeL.out]; exact HS.out, HF1, HB.out⟩
      case measure => simp [intOf]; omega
    · obtain rfl : k = n := by omega
      have e1 := mix_all (xs := ofH v k) (ys := List.replicate k 0) HlH.out
      have e2 := mix_all (xs := ofL v k) (ys := List.replicate k 0) HlL.out
      rw [List.length_replicate] at e1 e2
      rw [e1, e2] at R
      clear hlh hlm e1 e2 hcb
      have HlK : Hid ((ofH v k).length ≤ 6) := Lib.hid (by rw [ofH_len]; exact n6)
      go_wp2_with fail
      refine (beadsFrame p (w.heap.size + 1) w.heap.size (ofH v k) (ofL v k) wr R HlK.out).mono ?_
      rintro e w3 ⟨A, B, c, d, rfl, s3, b3⟩
      have a0 := (b3.block w.heap.size (by omega)).trans HF.out
      have x0 : w3.cell? ⟨w.heap.size, 0, none⟩ = some (.slice none 0 0) := by simp [World.cell?, a0]
      have x1 : w3.cell? ⟨w.heap.size, 1, none⟩ = some (.slice none 0 0) := by simp [World.cell?, a0]
      have f0 : w3.frozen? ⟨w.heap.size, 0, none⟩ = false := by simp [World.frozen?, a0]
      have f1 : w3.frozen? ⟨w.heap.size, 1, none⟩ = false := by simp [World.frozen?, a0]
      have hwl : w.heap.size < w3.heap.size := by have := b3.size; omega
      have HS3 := Lib.hid s3
      have HB3 := Lib.hid (bstep bw b3)
      clear R s3 b3 a0
      go_wp2_with fail
      refine bodyPost_ret (v := .tuple #[.agg #[.slice A (ofH v k).length c, .slice B (ofL v k).length d], .bool true]) (by simp [results, Tryd.results11, go_sem, *]) rfl ?_
      have hA : ∀ j, blk A = some j → j ≠ w.heap.size := fun j hj => by have := (HS3.out.hi.lt j hj).1; omega
      have hB : ∀ j, blk B = some j → j ≠ w.heap.size := fun j hj => by have := (HS3.out.lo.lt j hj).1; omega
      exact ⟨A, B, c, d, rfl, ((HS3.out.far hA hB).far hA hB).down (by omega), (HB3.out.setCell (by simp) _).setCell (by simp) _⟩

theorem impl_FrameOf (n v : Int) (w : World) : Calls Tryd.prog 11 #[.int .i64 n, .int .i64 v] w (FrPost w (ofHs n v) (ofLs n v) (ofB n v)) := by
  cases h1 : inB n 1 6
  · exact (impl_FrameOf_n n v w h1).mono fun _ _ h => ofPost_no (ofB_n h1) h
  have ⟨n1, n6⟩ := inB_t h1
  obtain ⟨N, rfl⟩ := Int.eq_ofNat_of_zero_le (show 0 ≤ n by omega)
  cases h2 : inB v 0 (p10 N - 1)
  · exact (impl_FrameOf_v N v w (by omega) (by omega) h2).mono fun _ _ h => ofPost_no (ofB_v h2) h
  · have hb : ofB N v = true := ofB_y h1 h2
    rw [show ofHs N v = ofH v N by simp [ofHs, hb], show ofLs N v = ofL v N by simp [ofLs, hb], hb]
    exact impl_FrameOf_y N v w (by omega) (by omega) h2

set_option maxRecDepth 100000 in
theorem spec_FrameOf_n (n v : Int) (w : World) (h : inB n 1 6 = false) : Calls Tryd.prog 12 #[.int .i64 n, .int .i64 v] w (NoFr w) := by
  have hb0 : Below w.heap.size w (w.alloc (.cells #[.slice none 0 0, .slice none 0 0] 27)) := (Below.refl _ _).alloc (Nat.le_refl _) _
  go_enter Tryd.func12, Tryd.ntmps12
  go_wp2_with fail
  refine (l6In _ _ _ _).mono ?_
  rintro e w' ⟨rfl, rfl⟩
  rw [h]
  go_wp2_with fail
  refine bodyPost_ret (v := .tuple #[.agg #[.slice none 0 0, .slice none 0 0], .bool false]) (by simp [results, Tryd.results12, go_sem, *]) rfl ?_
  exact ⟨rfl, hb0⟩

set_option maxRecDepth 100000 in
theorem spec_FrameOf_v (n : Nat) (v : Int) (w : World) (n1 : 1 ≤ n) (n6 : n ≤ 6) (h : inB v 0 (p10 n - 1) = false) : Calls Tryd.prog 12 #[.int .i64 (n : Int), .int .i64 v] w (NoFr w) := by
  have hb0 : Below w.heap.size w (w.alloc (.cells #[.slice none 0 0, .slice none 0 0] 27)) := (Below.refl _ _).alloc (Nat.le_refl _) _
  have hp := p10_bd n6
  have h1 : inB (n : Int) 1 6 = true := inB_of (by omega) (by omega)
  go_enter Tryd.func12, Tryd.ntmps12
  go_wp2_with fail
  refine (l6In _ _ _ _).mono ?_
  rintro e w' ⟨rfl, rfl⟩
  rw [h1]
  go_wp2_with fail
  refine (l5Ten n n6 _).mono ?_
  rintro e w' ⟨rfl, rfl⟩
  go_wp2_with fail
  refine (l6In _ _ _ _).mono ?_
  rintro e w' ⟨rfl, rfl⟩
  rw [h]
  go_wp2_with fail
  refine bodyPost_ret (v := .tuple #[.agg #[.slice none 0 0, .slice none 0 0], .bool false]) (by simp [results, Tryd.results12, go_sem, *]) rfl ?_
  exact ⟨rfl, hb0⟩

end Go.Proofs.YtfdbhaojdccomaaDoor
