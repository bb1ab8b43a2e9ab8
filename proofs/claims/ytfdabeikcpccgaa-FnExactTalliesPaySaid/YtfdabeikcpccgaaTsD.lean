/- The program's debtsOf. -/
import Derived.Test.YtfdabeikcpccgaaTsV
namespace Go.Proofs.Ytfdabeikcpccgaa
open Go.RowKit

theorem lsum_pos {s : ByteArray} (hb : notB s = true) (he : s.toList.isEmpty = false) : 1 ≤ lsum s.data.toList := by
  rw [Lib.toList_data] at he
  simp only [notB, Option.isSome_iff_exists] at hb
  obtain ⟨t, ht⟩ := hb
  cases hl : s.data.toList with
  | nil => simp [hl] at he
  | cons x l =>
    rw [hl] at ht
    cases hs : nstep nst0 x.toNat with
    | none => rw [nrun_none hs] at ht; cases ht
    | some u =>
      have h0 := (lsum_bd l).1
      simp only [lsum]
      rcases nstep_cases hs with ⟨hx, _⟩ | ⟨hx, _⟩ | ⟨hx, _⟩ | ⟨hx, _⟩ <;> rw [hx] <;> simp [lw] <;> omega
theorem lsum_le {s : ByteArray} (hb : notB s = true) : lsum s.data.toList ≤ 9999 := by
  simp only [notB, Option.isSome_iff_exists] at hb
  obtain ⟨t, ht⟩ := hb
  have h1 := nrun_worth ht
  have o := nrun_ok nst0_ok ht
  have := o.a9; have := o.b9; have := o.c9; have := o.d9
  simp only [NSt.worth, nst0] at h1
  omega

def dbOf (t : Tl) : Db := ⟨t.d, t.c, lsum t.s.data.toList⟩

def DebtsPost (ts : List Tl) (w : World) (e : Ending) (w' : World) : Prop := Below w.heap.size w w' ∧
  ((tsB ts = false ∧ e = .returned (.tuple #[.slice none 0 0, .bool false])) ∨
   (tsB ts = true ∧ ∃ A c, e = .returned (.tuple #[.slice A (ts.map dbOf).length c, .bool true]) ∧ DSl w' w.heap.size A c (ts.map dbOf)))

set_option maxRecDepth 100000 in
set_option maxHeartbeats 1000000 in
theorem debtsOf (A : Option Addr) (c : Nat) (ts : List Tl) (w : World) (hA : TRd w A ts) (hn : ts.length ≤ 1048576) (hz : ∀ t ∈ ts, t.s.size ≤ 1048576 ∧ t.f.size ≤ 1048576) :
    Calls Try.prog 48 #[.slice A ts.length c] w (DebtsPost ts w) := by
  have HZ := Lib.hid hz
  clear hz
  by_cases h12 : 12 < ts.length
  · have HF : tsB ts = false := by simp [tsB]; omega
    go_enter Try.func48, Try.ntmps48
    go_wp2
    go_ret2
    exact ⟨Below.refl _ _, .inl ⟨HF, rfl⟩⟩
  go_enter Try.func48, Try.ntmps48
  go_wp2_with (at_make; refine wp_mkD0 _ _ rfl rfl _ w.heap.size ts.length rfl rfl (by omega) (by omega) ?_; intro A0 w0 hs0 hg0)
  have hb0 := below_of_grown hg0 (Nat.le_refl _) (fun k hk => by cases hk)
  clear hg0
  go_loopw [4, 16] (fun q i wr => ∃ (k : Nat) (A1 : Option Addr) (c1 : Nat) (ds : List Db), k ≤ ts.length ∧ i = .int .i64 k ∧ q = .slice A1 ds.length c1 ∧ Hid (ds = (ts.take k).map dbOf) ∧ ds.length ≤ 12 ∧ Hid (∀ j t, j < k → ts[j]? = some t → tOk t = true) ∧ DSl wr w.heap.size A1 c1 ds ∧ Below w.heap.size w wr) (fun _ i _ => ts.length - (intOf i).toNat)
  case atStart => exact ⟨0, _, _, [], Nat.zero_le _, rfl, rfl, Lib.hid (by simp), by simp, Lib.hid (fun j t hj => by omega), hs0, hb0⟩
  case round =>
    obtain ⟨k, A1, c1, ds, hk, rfl, rfl, HD, hd12, HK, hs, hb⟩ := hrel
    by_cases hlt : k < ts.length
    · obtain ⟨b, off, t, rfl, hbl, ht, hc⟩ := hA.at hlt
      obtain ⟨c0, c1, c2, c3⟩ := hc.below hb hbl
      have hsz := HZ.out t (List.mem_of_getElem? ht)
      have HT := Lib.hid ht
      clear ht hA
      have hba := Lib.hid (hb.alloc hb.size (.cells #[.int .i64 t.d, .int .i64 t.c, .string t.s, .string t.f] 28))
      have hsa := Lib.hid (hs.below ((Below.refl _ _).alloc (Nat.le_refl _) (.cells #[.int .i64 t.d, .int .i64 t.c, .string t.s, .string t.f] 28)))
      have hbs := hb.size
      go_wp2_with fail
      refine (impl_NotchesWorth _ _ hsz.1).mono ?_
      rintro e w1 ⟨rfl, b1⟩
      obtain ⟨q1, _⟩ := bcell b1
      have hz1 : wr.heap.size < w1.heap.size := by have := b1.size; simp at this; omega
      have hb1 := Lib.hid (bstep hba.out b1)
      have hs1 := Lib.hid (hsa.out.below b1)
      clear hb hs hba hsa b1 c0 c1 c2 c3 hc
      go_wp2_with fail
      refine (impl_TallyMatches _ _ _ _ _ hsz.1).mono ?_
      rintro e w2 ⟨rfl, b2⟩
      obtain ⟨q2, _⟩ := bcell b2
      have hb2 := Lib.hid (bstep hb1.out b2)
      have hs2 := Lib.hid (hs1.out.below b2)
      have hz2 := b2.size
      clear hb1 hs1 b2
      cases hm : twoB t.d t.c && notB t.s && (t.s.toList == t.f.toList)
      · have HF := Lib.hid (tsB_no HT.out (by simp [tOk, hm]))
        go_wp2_with fail
        go_ret2
        exact ⟨hb2.out, .inl ⟨HF.out, rfl⟩⟩
      have hv : notB t.s = true := by
        simp only [Bool.and_eq_true] at hm
        exact hm.1.2
      have hw : notW t.s = lsum t.s.data.toList := by simp [notW, hv]
      cases h0 : t.s.toList.isEmpty
      · have p1 := lsum_pos hv h0
        have p2 := lsum_le hv
        have HK2 : Hid (∀ j t, j < k + 1 → ts[j]? = some t → tOk t = true) := Lib.hid (fun j t' hj ht' => by
          rcases Nat.lt_or_ge j k with h1 | h1
          · exact HK.out j t' h1 ht'
          · obtain rfl : j = k := by omega
            have := HT.out.symm.trans ht'
            injection this with this
            subst this
            simp [tOk, hm, h0])
        clear hm hv h0
        rw [hw]
        clear hw
        have hbz := hb2.out.size
        go_wp2_with (at_builtin; refine wp_apD _ _ rfl rfl w2 w.heap.size A1 c1 ds ⟨t.d, t.c, lsum t.s.data.toList⟩ rfl rfl hs2.out (by omega) (by omega) ?_; intro A3 c3 w3 hs3 hg3 hr3)
        have hb3 := Lib.hid (hb2.out.grown hg3 hbz hr3)
        have hs4 := Lib.hid hs3
        have hE : (ds ++ [(⟨t.d, t.c, lsum t.s.data.toList⟩ : Db)]) = (ts.take (k + 1)).map dbOf := by
          rw [List.take_succ_eq_append_getElem hlt, List.map_append, ← HD.out]
          have : ts[k] = t := by
            have := HT.out
            rw [List.getElem?_eq_getElem hlt] at this
            injection this
          simp [this, dbOf]
        have HE := Lib.hid hE
        have hl1 : (ds ++ [(⟨t.d, t.c, lsum t.s.data.toList⟩ : Db)]).length ≤ 12 := by
          rw [hE, List.length_map, List.length_take]
          omega
        have HL := Lib.hid hl1
        clear hs3 hg3 hr3 hE hl1
        go_wp2_with fail
        go_roundw
        case rel => exact ⟨k + 1, A3, c3, ds ++ [(⟨t.d, t.c, lsum t.s.data.toList⟩ : Db)], by omega, by go_num, by simp, HE, HL.out, HK2, hs4.out, hb3.out⟩
        case measure => simp [intOf]; omega
      · have HF := Lib.hid (tsB_no HT.out (by simp [tOk, h0]))
        have p0 : lsum t.s.data.toList = 0 := by
          rw [Lib.toList_data] at h0
          rw [List.isEmpty_iff.1 h0]
          rfl
        rw [hw, p0]
        clear hw p0 hm hv h0
        go_wp2_with fail
        go_ret2
        exact ⟨hb2.out, .inl ⟨HF.out, rfl⟩⟩
    · go_wp2_with fail
      go_ret2
      obtain rfl : k = ts.length := by omega
      have hD := HD.out
      rw [List.take_length] at hD
      subst hD
      exact ⟨hb, .inr ⟨by rw [tsB_all (fun j t hj => HK.out j t hj)]; simp; omega, _, _, rfl, hs⟩⟩
end Go.Proofs.Ytfdabeikcpccgaa
