/- Contracts of toTallyS, eqTallyS and the reference's TalliesValid. -/
import Derived.Test.YtfdabeikcpccgaaTsO
namespace Go.Proofs.Ytfdabeikcpccgaa
open Go.RowKit

set_option maxRecDepth 100000 in
theorem toTallyS (A : Option Addr) (cap : Nat) (ts : List Tl) (w : World) (h : TRd w A ts) (hn : ts.length ≤ 1048576) :
    Calls Try.prog 26 #[.slice A ts.length cap] w fun e w' => e = .returned (.slice (some ⟨w.heap.size, 0, none⟩) ts.length ts.length) ∧ TSl w' w.heap.size (some ⟨w.heap.size, 0, none⟩) ts.length ts ∧ Below w.heap.size w w' := by
  go_enter Try.func26, Try.ntmps26
  go_wp2_with (at_make; refine wp_mkT _ _ rfl rfl _ w.heap.size ts.length rfl rfl (by omega) (by omega) ?_; intro w0 hs0 hg0)
  have hb0 := below_of_grown hg0 (Nat.le_refl _) (fun k hk => by cases hk)
  clear hg0
  go_loopw [4] (fun i wr => ∃ (k : Nat) (us : List Tl), k ≤ ts.length ∧ i = .int .i64 k ∧ Hid (us.length = ts.length) ∧ Hid (∀ j, j < k → us[j]? = ts[j]?) ∧ w.heap.size < wr.heap.size ∧ TSl wr w.heap.size (some ⟨w.heap.size, 0, none⟩) ts.length us ∧ Below w.heap.size w wr) (fun i _ => ts.length - (intOf i).toNat)
  case atStart => exact ⟨0, _, Nat.zero_le _, rfl, Lib.hid (by simp), Lib.hid (fun j hj => by omega), by rcases hs0.form with ⟨h1, _⟩ | ⟨g, h1, _, h2, _⟩ <;> simp at h1; omega, hs0, hb0⟩
  case round =>
    obtain ⟨k, us, hk, rfl, HU, HE, hz, hs, hb⟩ := hrel
    by_cases hlt : k < ts.length
    · obtain ⟨b, off, t, rfl, hbl, ht, hc⟩ := h.at hlt
      obtain ⟨c0, c1, c2, c3⟩ := hc.below hb hbl
      have HT := Lib.hid ht
      clear ht hc
      have f0 := hs.free (k * 4)
      have f1 := hs.free (k * 4 + 1)
      have f2 := hs.free (k * 4 + 2)
      have f3 := hs.free (k * 4 + 3)
      go_wp2_with fail
      refine (toTally _ _ _ _ _).mono ?_
      rintro e w1 ⟨rfl, b1⟩
      have hs1 := hs.below b1
      have hb1 := bstep hb b1
      have g0 := hs1.free (k * 4)
      have g1 := hs1.free (k * 4 + 1)
      have g2 := hs1.free (k * 4 + 2)
      have g3 := hs1.free (k * 4 + 3)
      obtain ⟨u, hu, e0, e1, e2, e3⟩ := hs1.at0 (k := k) (by have := HU.out; omega)
      have HS := Lib.hid (hs1.set_ k t (by have := HU.out; omega))
      have HB := Lib.hid (fun v0 v1 v2 v3 => (((hb1.setCell (p := ⟨w.heap.size, k * 4, none⟩) (Nat.le_refl _) v0).setCell (p := ⟨w.heap.size, k * 4 + 1, none⟩) (Nat.le_refl _) v1).setCell (p := ⟨w.heap.size, k * 4 + 2, none⟩) (Nat.le_refl _) v2).setCell (p := ⟨w.heap.size, k * 4 + 3, none⟩) (Nat.le_refl _) v3)
      have hz1 : w.heap.size < w1.heap.size := by have := b1.size; omega
      clear f0 f1 f2 f3 c0 c1 c2 c3 hs1 hb1 b1 hs hb hu
      go_wp2_with fail
      go_roundw
      case rel =>
        refine ⟨k + 1, us.set k t, by omega, by go_num, Lib.hid (by rw [List.length_set]; exact HU.out), Lib.hid (fun j hj => ?_), by simpa using hz1, HS.out, HB.out _ _ _ _⟩
        rcases Nat.lt_or_ge j k with h1 | h1
        · rw [List.getElem?_set_ne (by omega)]
          exact HE.out j h1
        · obtain rfl : j = k := by omega
          rw [List.getElem?_set_self (by have := HU.out; omega)]
          exact HT.out.symm
      case measure => simp [intOf]; omega
    · go_wp2_with fail
      go_ret
      obtain rfl : us = ts := by
        apply List.ext_getElem?
        intro j
        rcases Nat.lt_or_ge j k with h1 | h1
        · exact HE.out j h1
        · rw [List.getElem?_eq_none (by have := HU.out; omega), List.getElem?_eq_none (by omega)]
      exact ⟨rfl, hs, hb⟩

set_option maxRecDepth 100000 in
theorem eqTally_self (d c : Int) (s f : ByteArray) (w : World) : Calls Try.prog 36 #[.agg #[.int .i64 d, .int .i64 c, .string s, .string f], .agg #[.int .i64 d, .int .i64 c, .string s, .string f]] w fun e w' => e = .returned (.bool true) ∧ Below w.heap.size w w' := by
  have HBE := Lib.hid (fun o o1 => ((Below.refl w.heap.size w).alloc (Nat.le_refl _) o).alloc (by simp) o1)
  go_enter Try.func36, Try.ntmps36
  go_wp2
  go_ret
  exact ⟨rfl, HBE.out _ _⟩

set_option maxRecDepth 100000 in
theorem eqTallyS (A B : Option Addr) (c d : Nat) (ts : List Tl) (w : World) (hA : TRd w A ts) (hB : TRd w B ts) (hn : ts.length ≤ 1048576) :
    Calls Try.prog 28 #[.slice A ts.length c, .slice B ts.length d] w fun e w' => e = .returned (.bool true) ∧ Below w.heap.size w w' := by
  go_enter Try.func28, Try.ntmps28
  go_wp2
  go_loopw [5] (fun i wr => ∃ (k : Nat), k ≤ ts.length ∧ i = .int .i64 k ∧ Below w.heap.size w wr) (fun i _ => ts.length - (intOf i).toNat)
  case atStart => exact ⟨0, Nat.zero_le _, rfl, Below.refl _ _⟩
  case round =>
    obtain ⟨k, hk, rfl, hb⟩ := hrel
    by_cases hlt : k < ts.length
    · obtain ⟨b, off, t, rfl, hbl, ht, hc⟩ := hA.at hlt
      obtain ⟨b', off', t', rfl, hbl', ht', hc'⟩ := hB.at hlt
      obtain rfl : t = t' := by rw [ht] at ht'; injection ht'
      obtain ⟨c0, c1, c2, c3⟩ := hc.below hb hbl
      obtain ⟨d0, d1, d2, d3⟩ := hc'.below hb hbl'
      clear ht ht' hc hc' hA hB
      have y0 := later_cell c0
      have y1 := later_cell c1
      have y2 := later_cell c2
      have y3 := later_cell c3
      have x0 := later_cell d0
      have x1 := later_cell d1
      have x2 := later_cell d2
      have x3 := later_cell d3
      have hy := later_refl wr
      clear c0 c1 c2 c3 d0 d1 d2 d3
      go_wp2_with fail
      refine wp_region_later (by kernel_rfl) (by kernel_rfl) ?_
      iterate 8 quiet_step (fail)
      refine wpQuiet_step (fun K hK => ?_)
      go_simp
      refine ⟨.bool true, fun x => later_call (x := x) (eqTally_self _ _ _ _ _), hK _ ?_⟩
      clear hK K
      quiet_step (fail)
      refine wpQuiet_nil ?_
      intro w' hw'
      obtain ⟨⟨w1, b1⟩, hw''⟩ := hw'
      obtain rfl : w' = w1 := hw''
      clear hy y0 y1 y2 y3 x0 x1 x2 x3
      have hb1 := bstep hb b1
      clear hb b1
      go_wp2_with fail
      go_roundw
      case rel => exact ⟨k + 1, by omega, by go_num, hb1⟩
      case measure => simp [intOf]; omega
    · go_wp2_with fail
      go_ret
      exact ⟨rfl, hb⟩
end Go.Proofs.Ytfdabeikcpccgaa
