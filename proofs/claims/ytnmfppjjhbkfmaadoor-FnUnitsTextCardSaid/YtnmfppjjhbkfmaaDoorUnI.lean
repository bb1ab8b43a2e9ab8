/- Units: the program's unitsOf and UnitsText. -/
import Derived.Test.YtnmfppjjhbkfmaaDoorUni
import Derived.Test.YtnmfppjjhbkfmaaDoorBrdT
namespace Go.Proofs.YtnmfppjjhbkfmaaDoor
open Go.RowKit

/-- A chain of units. -/
def Chain (w : World) : Option Addr → List Int → Prop
  | p, [] => p = none
  | p, x :: xs => ∃ b q, p = some ⟨b, 0, none⟩ ∧ w.heap[b]? = some (.cells #[.int .i64 x, .pointer q] 36 (0, 0)) ∧ Chain w q xs
theorem Chain.below {w w' : World} (hb : Below w.heap.size w w') : ∀ {xs : List Int} {p : Option Addr}, Chain w p xs → Chain w' p xs
  | [], _, h => h
  | _ :: _, _, ⟨b, q, h1, h2, h3⟩ => ⟨b, q, h1, (hb.block b (Array.getElem?_eq_some_iff.1 h2).1).trans h2, h3.below hb⟩

/-- A denominator at its place, seen from behind. -/
def okI (zs : List Int) (k : Nat) : Prop := 2 ≤ nth zs k ∧ nth zs k ≤ 1000000000 ∧ (k + 1 < zs.length → nth zs k < nth zs (k + 1))
theorem asc_okI {zs : List Int} : ascTo zs zs.length = true ↔ ∀ k, k < zs.length → okI zs k := by
  rw [ascTo_iff]
  constructor
  · intro h k hk
    refine ⟨asc_low h k hk, (h k hk).2, fun h1 => ?_⟩
    have := (h (k + 1) h1).1
    simp [lastN] at this
    omega
  · intro h k hk
    refine ⟨?_, (h k hk).2.1⟩
    unfold lastN
    by_cases h0 : k = 0
    · rw [if_pos h0]
      have := (h k hk).1
      omega
    · rw [if_neg h0]
      have := (h (k - 1) (by omega)).2.2 (by omega)
      rw [show k - 1 + 1 = k by omega] at this
      omega
theorem untB_notI {zs : List Int} {k : Nat} (hk : k < zs.length) (h : ¬ okI zs k) : untB zs = false := by
  cases hu : untB zs
  · rfl
  · have : zs.length ≤ 8 ∧ ascTo zs zs.length = true := by simpa [untB] using hu
    exact absurd (asc_okI.1 this.2 k hk) h

/-- What unitsOf answers. -/
def UniPost (w : World) (zs : List Int) (e : Ending) (w' : World) : Prop :=
  ∃ p, e = .returned (.tuple #[.pointer p, .bool (untB zs)]) ∧ (untB zs = true → Chain w' p zs) ∧ Below w.heap.size w w'
theorem uni_no {w w' : World} {zs : List Int} {e : Ending} (h : untB zs = false) (he : e = .returned (.tuple #[.pointer none, .bool false])) (hb : Below w.heap.size w w') : UniPost w zs e w' :=
  ⟨none, by rw [h]; exact he, fun h2 => (by rw [h] at h2; cases h2), hb⟩
theorem drop_nth {zs : List Int} {k : Nat} (h : k < zs.length) : zs.drop k = nth zs k :: zs.drop (k + 1) := by
  rw [List.drop_eq_getElem_cons h, nth_get h]

set_option maxRecDepth 100000 in
set_option maxHeartbeats 1000000 in
theorem unitsOf (A : Option Addr) (c : Nat) (zs : List Int) (w : World) (hr : Rd .i64 w A zs) (hl : zs.length ≤ 4194304) :
    Calls Tryd.prog 13 #[.slice A zs.length c] w (UniPost w zs) := by
  by_cases h8 : 8 < zs.length
  · have HU : Hid (untB zs = false) := Lib.hid (by simp [untB]; intro h; omega)
    go_enter Tryd.func13, Tryd.ntmps13
    go_wp2_with fail
    go_ret2
    exact uni_no HU.out rfl (Below.refl _ _)
  · have HU : Hid (ascTo zs zs.length = true → untB zs = true) := Lib.hid (fun h => by simp [untB, h]; omega)
    have w7 : IntKind.i64.wrap ((zs.length : Int) - 1) = (zs.length : Int) - 1 := IntWalk.i64_in _ (by omega)
    go_enter Tryd.func13, Tryd.ntmps13
    go_wp2_with fail
    go_loopw [4, 5] (fun h i wr => ∃ (j : Nat) (p : Option Addr), j ≤ zs.length ∧ i = .int .i64 ((zs.length : Int) - 1 - (j : Int)) ∧ h = .pointer p ∧ Chain wr p (zs.drop (zs.length - j)) ∧ Hid (∀ k, zs.length - j ≤ k → k < zs.length → okI zs k) ∧ Below w.heap.size w wr) (fun _ i _ => (intOf i + 1).toNat)
    case atStart => exact ⟨0, none, Nat.zero_le _, by simp, rfl, by rw [Nat.sub_zero, List.drop_length]; rfl, Lib.hid (fun k h1 h2 => by omega), Below.refl _ _⟩
    case round =>
      obtain ⟨j, p, hj, rfl, rfl, hch, HK, hb⟩ := hrel
      by_cases hlt : j < zs.length
      · obtain ⟨k, hk⟩ : ∃ k : Nat, (zs.length : Int) - 1 - (j : Int) = (k : Int) := ⟨zs.length - 1 - j, by omega⟩
        have hkn : zs.length - j = k + 1 := by omega
        have hkl : k < zs.length := by omega
        obtain ⟨b, off, rfl, hbl, hc⟩ := (hr.below hb).at hkl
        rw [hkn] at hch HK
        have w9 : IntKind.i64.wrap ((k : Int) - 1) = (k : Int) - 1 := IntWalk.i64_in _ (by omega)
        have HKN := Lib.hid hkn
        have HKE := Lib.hid hk
        have z0 : 0 ≤ (k : Int) := by omega
        rw [hk]
        clear hk hkn
        have HCH := Lib.hid hch
        have HBL := Lib.hid hb
        by_cases c1 : nth zs k < 2
        · have d1 : decide (nth zs k < 2) = true := by simpa using c1
          have HN := Lib.hid (untB_notI hkl (fun h => by have := h.1; omega))
          clear hch hb
          go_wp2_with fail
          go_quiet (fail)
          go_wp2_with fail
          go_ret2
          exact uni_no HN.out rfl (HBL.out.drewN _)
        have d1 : decide (nth zs k < 2) = false := by simpa using c1
        by_cases c2 : 1000000000 < nth zs k
        · have d2 : decide (1000000000 < nth zs k) = true := by simpa using c2
          have HN := Lib.hid (untB_notI hkl (fun h => by have := h.2.1; omega))
          clear hch hb
          go_wp2_with fail
          go_quiet (fail)
          go_wp2_with fail
          go_ret2
          exact uni_no HN.out rfl (HBL.out.drewN _)
        have d2 : decide (1000000000 < nth zs k) = false := by simpa using c2
        by_cases hj0 : k + 1 = zs.length
        · have hnil : zs.drop (k + 1) = [] := by rw [hj0]; exact List.drop_length
          rw [hnil] at hch
          obtain rfl : p = none := hch
          have HNEW : Hid (∀ W : World, W = wr.drewN 0 → True) := Lib.hid (fun _ _ => trivial)
          have HKK : Hid (∀ i, k ≤ i → i < zs.length → okI zs i) := Lib.hid (fun i h1 h2 => by
            rcases Nat.lt_or_ge k i with h3 | h3
            · exact HK.out i (by omega) h2
            · obtain rfl : i = k := by omega
              exact ⟨by omega, by omega, fun h => by omega⟩)
          have HDR : Hid (zs.drop k = [nth zs k]) := Lib.hid (by rw [drop_nth hkl, hnil])
          clear hb hnil HNEW
          go_wp2_with fail
          go_quiet (fail)
          go_wp2_with fail
          go_roundw
          case rel =>
            refine ⟨j + 1, some ⟨wr.heap.size, 0, none⟩, by omega, by have h9 := HKE.out; simp only [Value.int.injEq, true_and]; omega, by first | rfl | simp, ?_, ?_, ?_⟩
            · rw [show zs.length - (j + 1) = k by have := HKN.out; omega, HDR.out]
              exact ⟨_, none, rfl, heap_alloc_new _ _, rfl⟩
            · rw [show zs.length - (j + 1) = k by have := HKN.out; omega]
              exact HKK
            · exact (HBL.out.drewN _).alloc (by have := HBL.out.size; simpa using this) _
          case measure => have h9 := HKE.out; simp [intOf] <;> omega
        · have hk1 : k + 1 < zs.length := by omega
          rw [drop_nth hk1] at hch
          obtain ⟨b', q, rfl, hbq, hcq⟩ := hch
          have hb' : b' < wr.heap.size := (Array.getElem?_eq_some_iff.1 hbq).1
          have g0 : wr.cell? ⟨b', 0, none⟩ = some (.int .i64 (nth zs (k + 1))) := by simp [World.cell?, hbq]
          clear hbq hcq
          by_cases c3 : nth zs (k + 1) ≤ nth zs k
          · have d3 : decide (nth zs (k + 1) ≤ nth zs k) = true := by simpa using c3
            have HN := Lib.hid (untB_notI hkl (fun h => by have := h.2.2 hk1; omega))
            clear hb
            go_wp2_with fail
            go_quiet (fail)
            go_wp2_with fail
            go_ret2
            exact uni_no HN.out rfl (HBL.out.drewN _)
          · have d3 : decide (nth zs (k + 1) ≤ nth zs k) = false := by simpa using c3
            have HKK : Hid (∀ i, k ≤ i → i < zs.length → okI zs i) := Lib.hid (fun i h1 h2 => by
              rcases Nat.lt_or_ge k i with h3 | h3
              · exact HK.out i (by omega) h2
              · obtain rfl : i = k := by omega
                exact ⟨by omega, by omega, fun h => by omega⟩)
            have HDR : Hid (zs.drop k = nth zs k :: zs.drop (k + 1)) := Lib.hid (drop_nth hkl)
            clear hb
            go_wp2_with fail
            go_quiet (fail)
            go_wp2_with fail
            go_roundw
            case rel =>
              refine ⟨j + 1, some ⟨wr.heap.size, 0, none⟩, by omega, by have h9 := HKE.out; simp only [Value.int.injEq, true_and]; omega, by first | rfl | simp, ?_, ?_, ?_⟩
              · rw [show zs.length - (j + 1) = k by have := HKN.out; omega, HDR.out]
                exact ⟨_, _, rfl, heap_alloc_new _ _, HCH.out.below (((Below.refl _ _).drewN _).alloc (by simp) _)⟩
              · rw [show zs.length - (j + 1) = k by have := HKN.out; omega]
                exact HKK
              · exact (HBL.out.drewN _).alloc (by have := HBL.out.size; simpa using this) _
            case measure => have h9 := HKE.out; simp [intOf] <;> omega
      · obtain rfl : j = zs.length := by omega
        rw [Nat.sub_self, List.drop_zero] at hch
        have HF : Hid (untB zs = true) := Lib.hid (HU.out (asc_okI.2 (fun k hk => HK.out k (by omega) hk)))
        have HCH := Lib.hid hch
        clear hch
        go_wp2_with fail
        go_ret2
        exact ⟨p, by rw [HF.out]; rfl, fun _ => HCH.out, hb⟩

/-- The word of a unit. -/
def uwd (z : Int) : ByteArray := dtx ([49, 47] ++ Lib.decDigits z.toNat)
theorem join_snoc (sep y : List UInt8) : ∀ xs : List (List UInt8), Lib.join (xs ++ [y]) sep = Lib.join xs sep ++ (if xs = [] then [] else sep) ++ y
  | [] => by simp [Lib.join_one, Lib.join_nil]
  | x :: r => by
    rw [List.cons_append, Lib.join_cons, Lib.join_cons, if_neg (by simp)]
    simp [Lib.joinTail]
theorem join_utx (zs : List Int) : ∀ j, j ≤ zs.length → Lib.join (((zs.take j).map uwd).map (·.data.toList)) [32, 43, 32] = utx zs j
  | 0, _ => by simp [utx, Lib.join_nil]
  | j + 1, h => by
    rw [take_nth (by omega), List.map_append, List.map_append, List.map_cons, List.map_nil, List.map_cons, List.map_nil, join_snoc, join_utx zs j (by omega), utx]
    have e : (((zs.take j).map uwd).map (·.data.toList) = []) ↔ ¬ 0 < j := by
      rw [← List.length_eq_zero_iff]
      simp only [List.length_map, List.length_take]
      omega
    have e2 : (uwd (nth zs j)).data.toList = [49, 47] ++ Lib.decDigits (nth zs j).toNat := by simp [uwd, dtx]
    rw [e2]
    by_cases h0 : 0 < j
    · rw [if_pos h0, if_neg (fun h1 => e.1 h1 h0)]
      simp [List.append_assoc]
    · rw [if_neg h0, if_pos (e.2 h0)]
      simp [List.append_assoc]
theorem joinU_at (g c : Nat) (zs : List Int) (xs : List ByteArray) (base : Nat) (w : World) (hx : xs = (zs.take zs.length).map uwd) (hz : zs.length ≤ 8) (hb : ∀ k, k < zs.length → nth zs k ≤ 1000000000) (h : Ss w base (some ⟨g, 0, none⟩) c xs) (hg : g < w.heap.size) (hc : xs.length ≤ c) :
    Calls Tryd.prog 15 #[.slice (some ⟨g, 0, none⟩) xs.length c, .string { data := #[32, 43, 32] }] w fun e w' => e = .returned (.string (dtx (utx zs zs.length))) ∧ Below w.heap.size w w' := by
  have hn : xs.length = zs.length := by rw [hx]; simp
  have hj : Lib.join (xs.map (·.data.toList)) [32, 43, 32] = utx zs zs.length := by rw [hx]; exact join_utx zs zs.length (Nat.le_refl _)
  have := Tryd.strings_Join g 0 c xs { data := #[32, 43, 32] } w (fun j x hj => by
      have hjl : j < xs.length := (List.getElem?_eq_some_iff.1 hj).1
      rw [Nat.zero_add, h.cell hjl, hj]
      rfl) hg (by omega) hc (by
      show (Lib.join (xs.map (·.data.toList)) [32, 43, 32]).length ≤ _
      rw [hj]
      have := utx_len hb zs.length (Nat.le_refl _)
      omega)
  refine this.mono ?_
  rintro e w' ⟨rfl, b⟩
  refine ⟨?_, b⟩
  show Ending.returned (.string ⟨(Lib.join (xs.map (·.data.toList)) [32, 43, 32]).toArray⟩) = _
  rw [hj]
  rfl

set_option maxRecDepth 100000 in
set_option maxHeartbeats 1000000 in
theorem impl_UnitsText (A : Option Addr) (c : Nat) (zs : List Int) (w : World) (hr : Rd .i64 w A zs) (hl : zs.length ≤ 4194304) (ht : Tab w) :
    Calls Tryd.prog 6 #[.slice A zs.length c] w fun e w' => e = .returned (.string (utxt zs)) ∧ Below w.heap.size w w' := by
  cases hf : untB zs
  · have HF : Hid (utxt zs = dtx []) := Lib.hid (by simp [utxt, hf])
    go_enter Tryd.func6, Tryd.ntmps6
    go_wp2_with fail
    refine (unitsOf _ _ _ _ hr hl).mono ?_
    rintro e w' ⟨p, rfl, _, hb⟩
    rw [hf]
    go_wp2_with fail
    go_ret
    exact ⟨ret_strU HF.out.symm, hb⟩
  · by_cases hz : zs = []
    · subst hz
      have HF : Hid (utxt [] = dtx [48]) := Lib.hid (by simp [utxt, hf])
      have HC := Lib.hid (unitsOf A c [] w hr hl)
      go_enter Tryd.func6, Tryd.ntmps6
      go_wp2_with fail
      refine HC.out.mono ?_
      rintro e w' ⟨p, rfl, hch, hb⟩
      have hch := hch hf
      rw [hf]
      obtain rfl : p = none := hch
      clear hf hch
      go_wp2_with fail
      go_ret
      exact ⟨ret_strU HF.out.symm, hb⟩
    · have HF : Hid (utxt zs = dtx (utx zs zs.length)) := Lib.hid (by simp [utxt, hf, hz])
      have hb8 : zs.length ≤ 8 ∧ ascTo zs zs.length = true := by simpa [untB] using hf
      have HA := Lib.hid (asc_okI.1 hb8.2)
      have H8 := Lib.hid hb8.1
      have hpos : 0 < zs.length := List.length_pos_iff.2 hz
      have HP := Lib.hid hpos
      have HC := Lib.hid (unitsOf A c zs w hr hl)
      have HFF := Lib.hid hf
      have HTab := Lib.hid ht
      clear hb8 hz hf hr ht
      go_enter Tryd.func6, Tryd.ntmps6
      go_wp2_with fail
      refine HC.out.mono ?_
      rintro e w1 ⟨p, rfl, hch, hb⟩
      have hch := hch HFF.out
      rw [HFF.out]
      have hch2 := hch
      rw [show zs = nth zs 0 :: zs.drop 1 from drop_nth hpos] at hch2
      obtain ⟨b, q, rfl, _, _⟩ := hch2
      have HCH := Lib.hid hch
      have HB := Lib.hid hb
      have hs1 := hb.size
      clear hch hb hpos
      go_wp2_with fail
      go_loopw [5, 6] (fun v u wr => ∃ (j : Nat) (A : Option Addr) (c : Nat) (xs : List ByteArray) (p : Option Addr), j ≤ zs.length ∧ u = .pointer p ∧ v = .slice A xs.length c ∧ Hid (xs = (zs.take j).map uwd) ∧ Ss wr w1.heap.size A c xs ∧ Chain w1 p (zs.drop j) ∧ Below w1.heap.size w1 wr ∧ Hid (j = xs.length)) (fun v _ _ => match v with | .slice _ n _ => zs.length - n | _ => 0)
      case atStart => exact ⟨0, none, 0, [], _, Nat.zero_le _, rfl, rfl, Lib.hid (by simp), World.ownsRow_nil _ _ _ _, HCH.out, Below.refl _ _, Lib.hid rfl⟩
      case round =>
        obtain ⟨j, A3, c3, xs, p, hj, rfl, rfl, HX, s3, hch, q3, HJ⟩ := hrel
        have HS := Lib.hid s3
        have HQ := Lib.hid q3
        have z3 := q3.size
        have xl : xs.length ≤ 10 := by rw [← HJ.out]; have := H8.out; omega
        by_cases hlt : j < zs.length
        · rw [drop_nth hlt] at hch
          obtain ⟨b2, q2, rfl, hbq, hcq⟩ := hch
          have hbl : b2 < w1.heap.size := (Array.getElem?_eq_some_iff.1 hbq).1
          have hok := HA.out j hlt
          obtain ⟨m, hm⟩ : ∃ m : Nat, nth zs j = (m : Int) := ⟨(nth zs j).toNat, by have := hok.1; omega⟩
          have hm9 : m ≤ 1000000000 := by have := hok.2.1; omega
          have hbr := (q3.block b2 hbl).trans hbq
          have g0 : wr.cell? ⟨b2, 0, none⟩ = some (.int .i64 (m : Int)) := by simp [World.cell?, hbr, hm]
          have HBQ := Lib.hid hbq
          have HCQ := Lib.hid hcq
          have hdl := decD_len 9 m (by omega)
          have HI := Lib.hid (itoaU m wr (by omega) ((HTab.out.below HB.out).below (HQ.out)))
          have hwd : uwd (nth zs j) = dtx ([49, 47] ++ Lib.decDigits m) := by rw [uwd, hm]; rfl
          obtain ⟨D, hD⟩ : ∃ D, Lib.decDigits m = D := ⟨_, rfl⟩
          rw [hD] at HI hdl hwd
          have y3 : ¬ (9223372036854775807 < ({ data := #[49, 47] } : ByteArray).size + (dtx D).size) := by rw [dtx_size]; simp only [ByteArray.size]; simp; omega
          have a2 : ({ data := #[49, 47] } : ByteArray) ++ dtx D = uwd (nth zs j) := by rw [hwd]; exact dtx_app [49, 47] D
          obtain ⟨W, hW⟩ : ∃ W, uwd (nth zs j) = W := ⟨_, rfl⟩
          rw [hW] at a2
          have HX2 : Hid (xs ++ [W] = (zs.take (j + 1)).map uwd) := Lib.hid (by rw [take_nth hlt, List.map_append, ← HX.out, List.map_cons, List.map_nil, hW])
          clear hwd hW hD hm hok hbq hcq s3 q3 hbr
          go_wp2_with fail
          refine HI.out.mono ?_
          rintro e w4 ⟨rfl, b4⟩
          have z4 := b4.size
          have HS4 := Lib.hid (HS.out.below b4)
          have HQ4 := Lib.hid (bstep HQ.out b4)
          clear b4 g0
          go_wp2_with (at_builtin; refine wp_ap1s _ _ rfl rfl w4 w1.heap.size A3 c3 xs W rfl rfl HS4.out (by omega) (by omega) ?_; intro A5 c5 w5 s5 g5; refine Hid.out ?_)
          have HS5 := Lib.hid s5
          have hq5 : Below w1.heap.size w1 w5 := HQ4.out.grown g5 HQ4.out.size (fun k hk => (HS4.out.lt k hk).1)
          have HQ5 := Lib.hid hq5
          have g1 : w5.cell? ⟨b2, 1, none⟩ = some (.pointer q2) := by simp [World.cell?, (hq5.block b2 hbl).trans HBQ.out]
          have z5 := g5.size
          clear s5 g5 hq5 hbl
          refine Lib.hid ?_
          go_wp2_with fail
          go_roundw
          case rel => exact ⟨j + 1, A5, c5, xs ++ [W], q2, by omega, by first | rfl | simp, by first | rfl | simp, HX2, HS5.out, HCQ.out, HQ5.out, Lib.hid (by rw [List.length_append, ← HJ.out]; rfl)⟩
          case measure => have h9 := HJ.out; simp <;> omega
        · obtain rfl : j = zs.length := by omega
          rw [List.drop_length] at hch
          obtain rfl : p = none := hch
          obtain ⟨g, rfl, hg0, hg1, hg2, hg3⟩ : ∃ g, A3 = some ⟨g, 0, none⟩ ∧ w1.heap.size ≤ g ∧ g < wr.heap.size ∧ xs.length ≤ c3 ∧ c3 ≤ maxLen := by
            rcases s3.form with ⟨_, _, h⟩ | h
            · have h1 := HJ.out
              have h2 := HP.out
              rw [h, List.length_nil] at h1
              omega
            · exact h
          have HJN := Lib.hid (joinU_at g c3 zs xs _ wr HX.out H8.out (fun k hk => (HA.out k hk).2.1) s3 hg1 hg2)
          clear s3 q3 hch
          go_wp2_with fail
          refine HJN.out.mono ?_
          rintro e w6 ⟨rfl, b6⟩
          go_wp2_with fail
          go_ret
          exact ⟨ret_strU HF.out.symm, bstep (bstep HB.out HQ.out) b6⟩
end Go.Proofs.YtnmfppjjhbkfmaaDoor
