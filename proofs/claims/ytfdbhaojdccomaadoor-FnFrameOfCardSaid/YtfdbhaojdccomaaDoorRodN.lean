/- The rods of a frame that is not valid: none; the program's FrameValid. -/
import Derived.Test.YtfdbhaojdccomaaDoorRod
namespace Go.Proofs.YtfdbhaojdccomaaDoor
open Go.RowKit

def NoPost (w : World) (e : Ending) (w' : World) : Prop := e = .returned (.tuple #[.pointer none, .bool false]) ∧ Below w.heap.size w w'

set_option maxRecDepth 100000 in
set_option maxHeartbeats 1000000 in
theorem rodsOf_bad (A B : Option Addr) (c d : Nat) (hs ls : List Int) (w : World) (hr : FrRd w A B hs ls) (n1 : 1 ≤ hs.length) (n6 : hs.length ≤ 6) (hlen : ls.length = hs.length) (hbad : frB hs ls = false) :
    Calls Tryd.prog 21 #[.agg #[.slice A hs.length c, .slice B ls.length d]] w (NoPost w) := by
  have HBAD := Lib.hid hbad
  have HLEN := Lib.hid hlen.symm
  have d1 : ((hs.length : Int) != (ls.length : Int)) = false := by simp [hlen]
  have l1 : hs.length ≤ ls.length := by omega
  have l2 : ls.length ≤ hs.length := by omega
  clear hbad hlen
  go_enter Tryd.func21, Tryd.ntmps21
  go_wp2_with (at_make; refine wp_mkR _ _ rfl rfl _ hs.length rfl rfl (by omega) ?_; intro w0 hs0 hg0)
  have hsz : w0.heap.size ≠ w.heap.size + 1 := by have := (Array.getElem?_eq_some_iff.1 hs0).1; simp at this; omega
  have hfb : (w.alloc (.cells #[.slice A hs.length c, .slice B ls.length d] 27)).heap[w.heap.size]? = some (.cells #[.slice A hs.length c, .slice B ls.length d] 27 (0, 0)) := heap_alloc_new _ _
  have b0 : Below w.heap.size w w0 := ((Below.refl _ _).alloc (Nat.le_refl _) _).grown hg0 (by simp) (fun _ hk => by cases hk)
  have hf0 := hg0.block w.heap.size (by simp) (by simp)
  rw [hfb] at hf0
  have hzz := b0.size
  have R0 : Rods (w0.alloc (.cells #[.slice (some ⟨w.heap.size + 1, 0, none⟩) hs.length hs.length] 49)) w.heap.size w0.heap.size (w.heap.size + 1) (copTo hs 0) (copTo ls 0) := by
    rw [copTo_zero, copTo_zero, ← HLEN.out]
    refine ⟨rfl, by rw [List.length_replicate]; exact heap_alloc_new _ _, ?_, hzz, by omega, hsz⟩
    rw [Below.heap_alloc _ _ _ (by have := (Array.getElem?_eq_some_iff.1 hs0).1; simpa using this)]
    simpa using hs0
  have F0 : (w0.alloc (.cells #[.slice (some ⟨w.heap.size + 1, 0, none⟩) hs.length hs.length] 49)).heap[w.heap.size]? = some (.cells #[.slice A hs.length c, .slice B ls.length d] 27 (0, 0)) := by
    rw [Below.heap_alloc _ _ _ (by have := (Array.getElem?_eq_some_iff.1 hf0).1; exact this)]; exact hf0
  have B0 := b0.alloc hzz (.cells #[.slice (some ⟨w.heap.size + 1, 0, none⟩) hs.length hs.length] 49)
  have HR0 := Lib.hid R0
  have HF0 := Lib.hid F0
  have HB0 := Lib.hid B0
  have HSZ := Lib.hid hsz
  clear R0 F0 B0 hs0 hg0 hfb hf0 b0 hsz
  generalize w0.heap.size = p at *
  go_loopw [31] (fun i wr => ∃ k : Nat, k ≤ hs.length ∧ i = .int .i64 k ∧ Hid (∀ j, j < k → (inB (nth hs j) 0 1 && inB (nth ls j) 0 4) = true) ∧ Rods wr w.heap.size p (w.heap.size + 1) (copTo hs k) (copTo ls k) ∧ Hid (wr.heap[w.heap.size]? = some (.cells #[.slice A hs.length c, .slice B ls.length d] 27 (0, 0))) ∧ Below w.heap.size w wr) (fun i _ => hs.length - (intOf i).toNat)
  case atStart => exact ⟨0, Nat.zero_le _, rfl, Lib.hid (fun j hj => by omega), HR0.out, HF0, HB0.out⟩
  case round =>
    obtain ⟨k, hk, rfl, HA, R, HF, bw⟩ := hrel
    have hlh := copTo_len hs k hk
    have hcb := R.cbox
    rw [hlh] at hcb
    have plt := R.plt
    have glt := R.glt
    have pb := R.pb
    have f0 : wr.cell? ⟨w.heap.size, 0, none⟩ = some (.slice A hs.length c) := by simp [World.cell?, HF.out]
    have f1 : wr.cell? ⟨w.heap.size, 1, none⟩ = some (.slice B ls.length d) := by simp [World.cell?, HF.out]
    have flt : w.heap.size < wr.heap.size := by omega
    by_cases hlt : k < hs.length
    · obtain ⟨b, off, rfl, hbl, hc⟩ := hr.hi.at hlt
      obtain ⟨b', off', rfl, hbl', hc'⟩ := hr.lo.at (i := k) (by omega)
      have hky : k < ls.length := by omega
      have hd := bw.cell (p := ⟨b, off + k, none⟩) hbl
      have hd' := bw.cell (p := ⟨b', off' + k, none⟩) hbl'
      rw [hc] at hd
      rw [hc'] at hd'
      have bl : b < wr.heap.size := by omega
      have bl' : b' < wr.heap.size := by omega
      have bn : ¬ b = w.heap.size + 1 := by omega
      have bn' : ¬ b' = w.heap.size + 1 := by omega
      have ch := R.chi (j := k) (by omega)
      have cl := R.clo (j := k) (by omega)
      have fh := R.free (k * 2)
      have fl := R.free (k * 2 + 1)
      have HS := Lib.hid (R.set_ k (nth hs k) (nth ls k))
      clear hlh hc hc' hbl hbl'
      go_wp2
      go_region
      by_cases x0 : nth hs k < 0
      · go_wp2
        go_ret2
        exact ⟨rfl, ((bw.setCell (by simp) _).setCell (by simp) _).drew⟩
      have x0' : decide (nth hs k < 0) = false := by simpa using x0
      by_cases x1 : 1 < nth hs k
      · go_wp2
        go_ret2
        exact ⟨rfl, ((bw.setCell (by simp) _).setCell (by simp) _).drew⟩
      have x1' : decide (1 < nth hs k) = false := by simpa using x1
      by_cases y0 : nth ls k < 0
      · go_wp2
        go_ret2
        exact ⟨rfl, ((bw.setCell (by simp) _).setCell (by simp) _).drew⟩
      have y0' : decide (nth ls k < 0) = false := by simpa using y0
      by_cases y1 : 4 < nth ls k
      · go_wp2
        go_ret2
        exact ⟨rfl, ((bw.setCell (by simp) _).setCell (by simp) _).drew⟩
      have y1' : decide (4 < nth ls k) = false := by simpa using y1
      go_wp2
      go_roundw
      case rel =>
        refine ⟨k + 1, by omega, by go_num, Lib.hid (fun j hj => ?_), ?_, Lib.hid ?_, ?_⟩
        · rcases Nat.lt_or_ge j k with h | h
          · exact HA.out j h
          · obtain rfl : j = k := by omega
            rw [inB_of (by omega) (by omega), inB_of (by omega) (by omega)]; rfl
        · rw [← copTo_succ hs k hlt, ← copTo_succ ls k hky]
          exact HS.out.drew
        · show ((wr.setCell ⟨w.heap.size + 1, k * 2, none⟩ (.int .i64 (nth hs k))).setCell ⟨w.heap.size + 1, k * 2 + 1, none⟩ (.int .i64 (nth ls k))).heap[w.heap.size]? = _
          rw [Below.heap_setCell _ _ _ _ (by simp), Below.heap_setCell _ _ _ _ (by simp)]
          exact HF.out
        · exact ((bw.setCell (by simp) _).setCell (by simp) _).drew
      case measure => simp [intOf]; omega
    · obtain rfl : k = hs.length := by omega
      exfalso
      have := frB_y (inB_of (by omega) (by omega)) HLEN.out.symm HA.out
      rw [HBAD.out] at this
      cases this

set_option maxRecDepth 100000 in
theorem rodsOf_no (A B : Option Addr) (c d : Nat) (hs ls : List Int) (w : World) (hr : FrRd w A B hs ls) (hh : hs.length ≤ 4194304) (_ : ls.length ≤ 4194304) (hbad : frB hs ls = false) :
    Calls Tryd.prog 21 #[.agg #[.slice A hs.length c, .slice B ls.length d]] w (NoPost w) := by
  have HBE := Lib.hid (fun o => (Below.refl w.heap.size w).alloc (Nat.le_refl _) o)
  by_cases h1 : hs.length = ls.length
  · have d1 : ((hs.length : Int) != (ls.length : Int)) = false := by simp [h1]
    by_cases n1 : hs.length < 1
    · clear h1
      go_enter Tryd.func21, Tryd.ntmps21
      go_wp2
      go_ret2
      exact ⟨rfl, HBE.out _⟩
    by_cases n6 : 6 < hs.length
    · clear h1
      go_enter Tryd.func21, Tryd.ntmps21
      go_wp2
      go_ret2
      exact ⟨rfl, HBE.out _⟩
    exact rodsOf_bad A B c d hs ls w hr (by omega) (by omega) h1.symm hbad
  · have d1 : ((hs.length : Int) != (ls.length : Int)) = true := by simp; omega
    clear h1
    go_enter Tryd.func21, Tryd.ntmps21
    go_wp2
    go_ret2
    exact ⟨rfl, HBE.out _⟩

end Go.Proofs.YtfdbhaojdccomaaDoor
