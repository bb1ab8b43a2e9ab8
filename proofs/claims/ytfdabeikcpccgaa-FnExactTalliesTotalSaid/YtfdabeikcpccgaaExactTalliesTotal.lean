/- The law FnExactTalliesTotal returns true for every input: the program's TalliesTotal is the reference's. No condition. -/
import Derived.Test.YtfdabeikcpccgaaTsD
namespace Go.Proofs.Ytfdabeikcpccgaa
open Go.ChangeShapes Go.WideShapes Go.ChangeAt Go.RowKit

/-- The worth of all tallies. -/
def tsum : List Tl → Int
  | [] => 0
  | t :: ts => lsum t.s.data.toList + tsum ts
theorem tsum_snoc (ts : List Tl) (t : Tl) : tsum (ts ++ [t]) = tsum ts + lsum t.s.data.toList := by
  induction ts with
  | nil => simp [tsum]
  | cons y l ih => simp only [List.cons_append, tsum, ih]; omega
def tsT (ts : List Tl) : Int := if tsB ts then tsum ts else -1
theorem tsB_ok {ts : List Tl} (h : tsB ts = true) : ts.length ≤ 12 ∧ ∀ t ∈ ts, tOk t = true := by
  simp only [tsB, Bool.and_eq_true, decide_eq_true_eq, List.all_eq_true] at h
  exact ⟨h.2, h.1⟩
theorem tOk_le {t : Tl} (h : tOk t = true) : 0 ≤ lsum t.s.data.toList ∧ lsum t.s.data.toList ≤ 9999 := by
  simp only [tOk, Bool.and_eq_true] at h
  exact ⟨(lsum_bd _).1, lsum_le h.1.1.2⟩
theorem tsum_take {ts : List Tl} {k : Nat} {t : Tl} (h : ts[k]? = some t) : tsum (ts.take (k + 1)) = tsum (ts.take k) + lsum t.s.data.toList := by
  have hk := (List.getElem?_eq_some_iff.1 h).1
  rw [List.take_succ_eq_append_getElem hk, tsum_snoc]
  rw [List.getElem?_eq_getElem hk] at h
  injection h with h
  rw [h]
theorem tsum_bd {ts : List Tl} (h : ∀ t ∈ ts, tOk t = true) : 0 ≤ tsum ts ∧ tsum ts ≤ 9999 * ts.length := by
  induction ts with
  | nil => simp [tsum]
  | cons t ts ih =>
    have h1 := tOk_le (h t (by simp))
    have h2 := ih (fun u hu => h u (by simp [hu]))
    simp only [tsum, List.length_cons]
    omega

set_option maxRecDepth 100000 in
theorem spec_TalliesTotal (A : Option Addr) (c : Nat) (ts : List Tl) (w : World) (hA : TRd w A ts) (hn : ts.length ≤ 1048576) (hz : ∀ t ∈ ts, t.s.size ≤ 1048576 ∧ t.f.size ≤ 1048576) :
    Calls Try.prog 31 #[.slice A ts.length c] w fun e w' => e = .returned (.int .i64 (tsT ts)) ∧ Below w.heap.size w w' := by
  have HZ := Lib.hid hz
  cases hb : tsB ts
  · have HF : Hid (tsT ts = -1) := Lib.hid (by simp [tsT, hb])
    go_enter Try.func31, Try.ntmps31
    go_wp2_with fail
    refine (spec_TalliesValid A c ts w hA hn hz).mono ?_
    rintro e w1 ⟨rfl, b1⟩
    rw [hb]
    clear hz hb
    go_wp2_with fail
    go_ret
    exact ⟨ret_int HF.out.symm, b1⟩
  have HF : Hid (tsT ts = tsum ts) := Lib.hid (by simp [tsT, hb])
  obtain ⟨h12, hok⟩ := tsB_ok hb
  have HO := Lib.hid hok
  clear hok
  go_enter Try.func31, Try.ntmps31
  go_wp2_with fail
  refine (spec_TalliesValid A c ts w hA hn hz).mono ?_
  rintro e w1 ⟨rfl, b1⟩
  rw [hb]
  clear hz hb
  have hA1 := hA.below b1
  clear hA
  go_wp2_with fail
  go_loopw [3, 4] (fun q i wr => ∃ (k : Nat), k ≤ ts.length ∧ i = .int .i64 k ∧ q = .int .i64 (tsum (ts.take k)) ∧ wr = w1) (fun _ i _ => ts.length - (intOf i).toNat)
  case atStart => exact ⟨0, Nat.zero_le _, rfl, rfl, rfl⟩
  case round =>
    obtain ⟨k, hk, rfl, rfl, rfl⟩ := hrel
    by_cases hlt : k < ts.length
    · obtain ⟨b, off, t, rfl, hbl, ht, c0, c1, c2, c3⟩ := hA1.at hlt
      have hm := List.mem_of_getElem? ht
      have hsz := HZ.out t hm
      have hl := tOk_le (HO.out t hm)
      have hl1 := tsum_bd (ts := ts.take k) (fun u hu => HO.out u (List.mem_of_mem_take hu))
      have hl2 : (ts.take k).length ≤ 12 := by rw [List.length_take]; omega
      have HT := Lib.hid (tsum_take ht)
      have l0 := hl.1
      have l1 := hl.2
      have l2 := hl1.1
      have l3 : tsum (ts.take k) ≤ 9999 * 12 := by have := hl1.2; omega
      clear ht hm hl hl1 hl2 hA1
      go_wp2_with fail
      refine (spec_l6ySum _ _ hsz.1).mono ?_
      rintro e w2 ⟨rfl, rfl⟩
      clear c0 c1 c2 c3
      go_wp2_with fail
      go_roundw
      case rel => exact ⟨k + 1, by omega, by go_num, by rw [HT.out], by first | rfl | trivial⟩
      case measure => simp [intOf]; omega
    · go_wp2_with fail
      go_ret
      exact ⟨ret_int (by rw [HF.out, List.take_of_length_le (by omega)]), b1⟩

set_option maxRecDepth 100000 in
theorem impl_TalliesTotal (A : Option Addr) (c : Nat) (ts : List Tl) (w : World) (hA : TRd w A ts) (hn : ts.length ≤ 1048576) (hz : ∀ t ∈ ts, t.s.size ≤ 1048576 ∧ t.f.size ≤ 1048576) :
    Calls Try.prog 32 #[.slice A ts.length c] w fun e w' => e = .returned (.int .i64 (tsT ts)) ∧ Below w.heap.size w w' := by
  go_enter Try.func32, Try.ntmps32
  go_wp2_with fail
  refine (debtsOf A c ts w hA hn hz).mono ?_
  rintro e w1 ⟨b1, ⟨h1, rfl⟩ | ⟨h1, A1, c1, rfl, s1⟩⟩
  · have HF : Hid (tsT ts = -1) := Lib.hid (by simp [tsT, h1])
    clear h1
    go_wp2_with fail
    go_ret
    exact ⟨ret_int HF.out.symm, b1⟩
  have HF : Hid (tsT ts = tsum ts) := Lib.hid (by simp [tsT, h1])
  obtain ⟨h12, hok⟩ := tsB_ok h1
  have HO := Lib.hid hok
  clear hok h1
  have hml : (ts.map dbOf).length ≤ 12 := by simpa using h12
  have HE : Hid ((ts.map dbOf).length = ts.length) := Lib.hid (by simp)
  have HG : Hid (∀ k : Nat, (ts.map dbOf)[k]? = ts[k]?.map dbOf) := Lib.hid (fun k => List.getElem?_map)
  generalize hds : ts.map dbOf = ds at s1 hml HE HG
  clear hds hA hz
  go_wp2_with fail
  go_loopw [5, 17] (fun q i wr => ∃ (k : Nat), k ≤ ds.length ∧ i = .int .i64 k ∧ q = .int .i64 (tsum (ts.take k)) ∧ DSl wr w.heap.size A1 c1 ds ∧ Below w.heap.size w wr) (fun _ i _ => ds.length - (intOf i).toNat)
  case atStart => exact ⟨0, Nat.zero_le _, rfl, rfl, s1, b1⟩
  case round =>
    obtain ⟨k, hk, rfl, rfl, hs, hb⟩ := hrel
    by_cases hlt : k < ds.length
    · obtain ⟨g, u, rfl, hgl, hu, c0, c1', c2⟩ := hs.at hlt
      obtain ⟨t, ht, rfl⟩ : ∃ t, ts[k]? = some t ∧ dbOf t = u := by
        have := HG.out k
        rw [hu] at this
        cases hq : ts[k]? with
        | none => rw [hq] at this; cases this
        | some t => rw [hq] at this; injection this with this; exact ⟨t, rfl, this.symm⟩
      have hm := List.mem_of_getElem? ht
      have hl := tOk_le (HO.out t hm)
      have hl1 := tsum_bd (ts := ts.take k) (fun u hu => HO.out u (List.mem_of_mem_take hu))
      have hl2 : (ts.take k).length ≤ 12 := by rw [List.length_take]; omega
      have HT := Lib.hid (tsum_take ht)
      have l0 := hl.1
      have l1 := hl.2
      have l2 := hl1.1
      have l3 : tsum (ts.take k) ≤ 9999 * 12 := by have := hl1.2; omega
      have hs1 := Lib.hid (fun o => hs.below ((Below.refl _ _).alloc (Nat.le_refl _) o))
      have hb1 := Lib.hid (fun o => hb.alloc hb.size o)
      simp only [dbOf] at c0 c1' c2
      clear ht hm hl hl1 hl2 hu hs hb
      go_wp2_with fail
      go_roundw
      case rel => exact ⟨k + 1, by omega, by go_num, by rw [HT.out], hs1.out _, hb1.out _⟩
      case measure => simp [intOf]; omega
    · go_wp2_with fail
      go_ret
      exact ⟨ret_int (by rw [HF.out, List.take_of_length_le (by have := HE.out; omega)]), hb⟩

set_option maxRecDepth 100000 in
theorem walk_FnExactTalliesTotal (A : Option Addr) (cap : Nat) (ts : List Tl) (w : World) (h0 : TCame w A cap ts) :
    Calls Try.prog 9 #[.slice A ts.length cap] w fun e w' => e = .returned (.bool true) ∧ Below w.heap.size w w' := by
  go_enter Try.func9, Try.ntmps9
  go_wp2_with fail
  refine (szTallyS A cap ts w h0).mono ?_
  rintro e w1 ⟨b1, rfl | ⟨L, hL, rfl, hn, hs⟩⟩
  · go_wp2_with fail
    go_ret
    exact ⟨rfl, b1⟩
  have HS := Lib.hid hs
  have HR := Lib.hid h0.2.2.1
  clear hs h0
  go_wp2_with fail
  refine (toTallyS A cap ts w1 (HR.out.below b1) hn).mono ?_
  rintro e w2 ⟨rfl, s2, b2⟩
  have r2 := bstep b1 b2
  go_wp2_with fail
  refine (spec_TalliesTotal _ _ ts w2 s2.rd hn HS.out).mono ?_
  rintro e w3 ⟨rfl, b3⟩
  have r3 := bstep r2 b3
  clear b1 b2 s2 r2 b3
  go_wp2_with fail
  refine (toTallyS A cap ts w3 (HR.out.below r3) hn).mono ?_
  rintro e w4 ⟨rfl, s4, b4⟩
  have r4 := bstep r3 b4
  go_wp2_with fail
  refine (impl_TalliesTotal _ _ ts w4 s4.rd hn HS.out).mono ?_
  rintro e w5 ⟨rfl, b5⟩
  have r5 := bstep r4 b5
  have s5 := s4.below b5
  clear r3 b4 r4 b5 s4
  go_wp2_with fail
  refine (toTallyS A cap ts w5 (HR.out.below r5) hn).mono ?_
  rintro e w6 ⟨rfl, s6, b6⟩
  have r6 := bstep r5 b6
  have s5' := s5.below b6
  clear r5 b6 s5
  go_wp2_with fail
  refine (eqTallyS _ _ _ _ ts w6 s5'.rd s6.rd hn).mono ?_
  rintro e w7 ⟨rfl, b7⟩
  have r7 := bstep r6 b7
  clear r6 b7 s5' s6
  go_wp2_with fail
  go_ret
  exact ⟨rfl, r7⟩

/-! The row's step, after the kit's own shell of such a proof. -/
set_option linter.unusedVariables false in
set_option maxRecDepth 100000 in
theorem lifted_FnExactTalliesTotal (os : Os) (started : os.Started) (H : Type) (enc : TypeId × Value → H) :
    ReturnsInHanded {} Try.checked os 9 .any (Rows.fnExactTalliesTotalSpec.pre6 enc Try.prog Try.f9 Rows.fnExactTalliesTotalRow.domain false) (Rows.fnExactTalliesTotalSpec.post enc Try.prog Try.f9 false true false false) := by
  refine returnsInHanded_of_change (C := Try.checked) own started (by kernel_rfl) Try.func9
    (ChangeSpec.witness6 (enc := enc) (C := Try.checked) false ⟨#[], #[.slice none 0 0], []⟩ 8 (by kernel_rfl) (by kernel_rfl) (by kernel_rfl) (by kernel_rfl)) ?_
  intro W base args ds gs before hval0 hW hcnd _
  have hval : ∀ (j : Nat) t v, Try.f9.params[j]? = some t → args[j]? = some v → Value.okWide Try.prog W .any base t v := hval0
  have hW' := hW
  obtain ⟨p, q, hA0, hV, rfl, hfz, hnd⟩ := hW
  have hA : DataW.TrodAll enc Try.prog W 0 (fun _ => true) true Try.f9.params.toList args.toList ds p := hA0
  rw [Try.params9] at hA hval
  obtain ⟨v0, vs0, d0, ds0, p0, q0, hargs, rfl, rfl, h0, r0⟩ := trodAll_cons hA
  obtain ⟨rfl, rfl, rfl⟩ := trodAll_nil r0
  obtain rfl : args = #[v0] := by cases args; simp_all
  obtain ⟨rfl, rfl⟩ := trodVars_none hV
  obtain ⟨A0, len0, cap0, rfl⟩ := okWide_slice Try.underlying32 (hval 0 32 v0 rfl rfl)
  have k0 := h0
  have lt0 : ∀ x ∈ p0, x.block < W.heap.size := by obtain ⟨m, hm⟩ := k0; exact DataW.trod_lt m _ _ _ hm
  obtain ⟨z0, rfl, w0⟩ := open_tallies h0
  clear hA0 hval0
  refine (walk_FnExactTalliesTotal A0 cap0 z0 W w0).mono fun e W' ⟨he, bel⟩ => ?_
  subst he
  exact ⟨_, rfl, _, _, _, [], _, [], hW', trodAll_mk1 (shut_bool Try.underlying4 _), (trodAll_cons_mk (Below.trod laidOut (by kernel_rfl) (of_decide_eq_true (by kernel_rfl)) k0 bel lt0) trodAll_mk0), rfl, bel.frame _, fun h => by cases h⟩

theorem over_FnExactTalliesTotal : Rows.fnExactTalliesTotalRow.holds Try.pinned (OpenSpec.ofChange Rows.fnExactTalliesTotalSpec) :=
  OpenClaim.holds_of_wide 9 Try.f9 rfl rfl rfl rfl rfl rfl rfl ⟨rfl, rfl, rfl, rfl, rfl⟩ rfl rfl rfl rfl rfl (by kernel_rfl) Try.func9 (by kernel_rfl)
    (of_decide_eq_true (by kernel_rfl)) (by unfold Func.isWrapper; first | (rw [if_pos (by decide +kernel)]; kernel_rfl) | (rw [if_neg (by decide +kernel)]; exact ⟨rfl, rfl⟩))
    (fun os started H enc _ => lifted_FnExactTalliesTotal os started H enc)

/-- The statement. -/
theorem holds_FnExactTalliesTotal : Rows.FnExactTalliesTotalSaid := over_FnExactTalliesTotal
#print axioms holds_FnExactTalliesTotal
end Go.Proofs.Ytfdabeikcpccgaa
