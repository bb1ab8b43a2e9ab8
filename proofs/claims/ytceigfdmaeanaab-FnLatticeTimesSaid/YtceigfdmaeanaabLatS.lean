/- Lattices: the reference's LatticeSums, LatticeDigits and LatticeTimes. -/
import Derived.Test.YtceigfdmaeanaabLatI
namespace Go.Proofs.Ytceigfdmaeanaab
open Go.RowKit

theorem quiet_lat {P : Program} {f : FuncId} {args : Array Value} {w : World} {n : Nat} {v : Value} (h : Calls P f args (w.drewN n) fun e w' => e = .returned v ∧ w.drewN n = w') : Calls P f args (w.drewN n) fun e w'' => e = .returned v ∧ ∃ m, w'' = w.drewN m :=
  h.mono fun _ _ ⟨h1, h2⟩ => ⟨h1, n, h2.symm⟩

theorem RodCell (x y : Int) (w : World) (x0 : 0 ≤ x) (x9 : x ≤ 9) (y0 : 0 ≤ y) (y9 : y ≤ 9) :
    Calls Try.prog 68 #[.int .i64 x, .int .i64 y] w fun e w' => e = .returned (.tuple #[.int .i64 (x * y / 10), .int .i64 (x * y % 10), .bool true]) ∧ w = w' := by
  have hx : inB x 0 9 = true := inB_of x0 x9
  have hy : inB y 0 9 = true := inB_of y0 y9
  have c0 : 0 ≤ x * y := Int.mul_nonneg x0 y0
  have c1 : x * y ≤ 9 * 9 := Int.mul_le_mul x9 y9 y0 (by omega)
  have wc : IntKind.i64.wrap (x * y) = x * y := IntWalk.i64_in _ (by omega)
  have w1 : IntKind.i64.wrap (x * y % 10) = x * y % 10 := IntWalk.i64_in _ (by omega)
  have w2 : IntKind.i64.wrap (x * y / 10) = x * y / 10 := IntWalk.i64_in _ (by omega)
  go_enter Try.func68, Try.ntmps68
  go_wp2_with (go_at_call 58; refine (l3Digit _ _).mono ?_; rintro e w' ⟨rfl, rfl⟩; simp only [hx, hy])
  go_ret3
  exact ⟨rfl, rfl⟩

/-- What the sums hold when the last I digits of a, and J of b at the next, are done. -/
def latW (a b : List Int) (I J : Nat) : Int := dv a a.length I * valTo b b.length + nth a (a.length - 1 - I) * p10 I * dv b b.length J
theorem latW_zero (a b : List Int) : latW a b 0 0 = 0 := by simp [latW, dv]
theorem latW_row {a b : List Int} {I : Nat} : latW a b I b.length = latW a b (I + 1) 0 := by
  rw [latW, latW, dv_all, dv, dv, Int.add_mul]; simp
theorem latW_all (a b : List Int) : latW a b a.length 0 = valTo a a.length * valTo b b.length := by
  rw [latW, dv_all, dv]; simp
theorem latW_step {a b : List Int} {I J : Nat} : latW a b I (J + 1) = latW a b I J + nth a (a.length - 1 - I) * nth b (b.length - 1 - J) * p10 (I + J) := by
  rw [latW, latW, dv, p10_add, Int.mul_add]
  have e : nth a (a.length - 1 - I) * p10 I * (nth b (b.length - 1 - J) * p10 J) = nth a (a.length - 1 - I) * nth b (b.length - 1 - J) * (p10 I * p10 J) := by
    rw [Int.mul_assoc, Int.mul_assoc]
    congr 1
    rw [← Int.mul_assoc, ← Int.mul_assoc, Int.mul_comm (p10 _) (nth b _)]
  rw [e]; omega

set_option maxRecDepth 100000 in
set_option maxHeartbeats 1000000 in
theorem spec_LatticeSums (A B : Option Addr) (c d : Nat) (a b : List Int) (w : World) (ra : Rd .i64 w A a) (rb : Rd .i64 w B b) (la : a.length ≤ 4194304) (lb : b.length ≤ 4194304) :
    Calls Try.prog 63 #[.slice A a.length c, .slice B b.length d] w (LatSPost a b w) := by
  have HA := Lib.hid (spec_NumeralValid A c a w ra la)
  have HB := Lib.hid (spec_NumeralValid B d b w rb lb)
  cases ha : numB a
  · have HF : Hid (bothB a b = false) := Lib.hid (by simp [bothB, ha])
    go_enter Try.func63, Try.ntmps63
    go_wp2_with fail
    refine HA.out.mono ?_
    rintro e w' ⟨rfl, rfl⟩
    rw [ha]
    go_wp2_with fail
    go_ret2
    exact ⟨_, 0, [], by rw [HF.out]; rfl, Sl.lit w w.heap.size (Nat.le_refl _) [] #[] rfl (by simp), fun h => (by rw [HF.out] at h; cases h), by simp, (Below.refl _ w).alloc (Nat.le_refl _) _⟩
  cases hb : numB b
  · have HF : Hid (bothB a b = false) := Lib.hid (by simp [bothB, hb])
    go_enter Try.func63, Try.ntmps63
    go_wp2_with fail
    refine HA.out.mono ?_
    rintro e w' ⟨rfl, rfl⟩
    rw [ha]
    go_wp2_with fail
    refine HB.out.mono ?_
    rintro e w' ⟨rfl, rfl⟩
    rw [hb]
    go_wp2_with fail
    go_ret2
    exact ⟨_, 0, [], by rw [HF.out]; rfl, Sl.lit w w.heap.size (Nat.le_refl _) [] #[] rfl (by simp), fun h => (by rw [HF.out] at h; cases h), by simp, (Below.refl _ w).alloc (Nat.le_refl _) _⟩
  have HF : Hid (bothB a b = true) := Lib.hid (by simp [bothB, ha, hb])
  have ⟨a1, a6, _⟩ := numB_t ha
  have ⟨b1, b6, _⟩ := numB_t hb
  have HDA := Lib.hid (numB_digit ha)
  have HDB := Lib.hid (numB_digit hb)
  have HNA := Lib.hid ha
  have HNB := Lib.hid hb
  clear ha hb
  go_enter Try.func63, Try.ntmps63
  go_wp2_with fail
  refine HA.out.mono ?_
  rintro e w' ⟨rfl, rfl⟩
  rw [HNA.out]
  go_wp2_with fail
  refine HB.out.mono ?_
  rintro e w' ⟨rfl, rfl⟩
  rw [HNB.out]
  go_wp2_with (at_make; refine wp_mkN _ _ rfl rfl _ w.heap.size (a.length + b.length) (by first | rfl | simp) (by first | rfl | simp) (by omega) (by omega) ?_; intro w0 hs0 hg0; refine Hid.out ?_)
  have HS0 := Lib.hid hs0
  have HB0 := Lib.hid ((Below.refl w.heap.size w).grown hg0 (Nat.le_refl _) (fun _ hk => by cases hk))
  clear hs0 hg0
  refine Lib.hid ?_
  go_wp2_with fail
  go_loopw [7] (fun q wr => ∃ (I : Nat) (S : List Int), I ≤ a.length ∧ q = .int .i64 (I : Int) ∧ Sl wr w.heap.size (some ⟨w.heap.size, 0, none⟩) (a.length + b.length) S ∧ Below w.heap.size w wr ∧ Hid (S.length = a.length + b.length ∧ lv S (a.length + b.length) = latW a b I 0 ∧ ∀ i, 0 ≤ nth S i ∧ nth S i ≤ 18 * (6 * (I : Int)))) (fun q _ => a.length - (intOf q).toNat)
  case atStart => exact ⟨0, _, Nat.zero_le _, rfl, HS0.out, HB0.out, Lib.hid ⟨List.length_replicate, by rw [lv_zero, latW_zero], fun i => by rw [lat_zero]; simp⟩⟩
  case round =>
    obtain ⟨I, S, hI, rfl, hs, hbl, HI⟩ := hrel
    by_cases hlt : I < a.length
    · have HS1 := Lib.hid hs
      have HB1 := Lib.hid hbl
      clear hs hbl
      go_wp2_with fail
      go_loopw [8] (fun q wr => ∃ (J : Nat) (S : List Int), J ≤ b.length ∧ q = .int .i64 (J : Int) ∧ Sl wr w.heap.size (some ⟨w.heap.size, 0, none⟩) (a.length + b.length) S ∧ Below w.heap.size w wr ∧ Hid (S.length = a.length + b.length ∧ lv S (a.length + b.length) = latW a b I J ∧ ∀ i, 0 ≤ nth S i ∧ nth S i ≤ 18 * (6 * (I : Int) + (J : Int)))) (fun q _ => b.length - (intOf q).toNat)
      case atStart => exact ⟨0, S, Nat.zero_le _, rfl, HS1.out, HB1.out, Lib.hid ⟨HI.out.1, HI.out.2.1, fun i => by have := HI.out.2.2 i; omega⟩⟩
      case round =>
        obtain ⟨J, S, hJ, rfl, hs, hbl, HJ⟩ := hrel
        by_cases hltj : J < b.length
        · obtain ⟨i', hi'⟩ : ∃ k : Nat, k = a.length - 1 - I := ⟨_, rfl⟩
          obtain ⟨j', hj'⟩ : ∃ k : Nat, k = b.length - 1 - J := ⟨_, rfl⟩
          have wi0 : IntKind.i64.wrap ((a.length : Int) - 1) = (a.length : Int) - 1 := IntWalk.i64_in _ (by omega)
          have wj0 : IntKind.i64.wrap ((b.length : Int) - 1) = (b.length : Int) - 1 := IntWalk.i64_in _ (by omega)
          have wi : IntKind.i64.wrap ((a.length : Int) - 1 - (I : Int)) = (i' : Int) := by rw [show (a.length : Int) - 1 - (I : Int) = (i' : Int) by omega]; exact IntWalk.i64_in _ (by omega)
          have wj : IntKind.i64.wrap ((b.length : Int) - 1 - (J : Int)) = (j' : Int) := by rw [show (b.length : Int) - 1 - (J : Int) = (j' : Int) by omega]; exact IntWalk.i64_in _ (by omega)
          obtain ⟨pa, oa, rfl, pal, hca⟩ := (ra.below hbl).at (i := i') (by omega)
          obtain ⟨pb, ob, rfl, pbl, hcb⟩ := (rb.below hbl).at (i := j') (by omega)
          have hil : i' < a.length := by omega
          have hjl : j' < b.length := by omega
          obtain ⟨k, hk⟩ : ∃ k : Nat, k = I + J := ⟨_, rfl⟩
          have wk : IntKind.i64.wrap ((I : Int) + (J : Int)) = (k : Int) := by rw [show (I : Int) + (J : Int) = (k : Int) by omega]; exact IntWalk.i64_in _ (by omega)
          have hk1 : k + 1 < a.length + b.length := by omega
          have hk11 : k ≤ 11 := by omega
          have ⟨x0, x9⟩ := HDA.out i'
          have ⟨y0, y9⟩ := HDB.out j'
          have c0 : 0 ≤ nth a i' * nth b j' := Int.mul_nonneg x0 y0
          have c1 : nth a i' * nth b j' ≤ 9 * 9 := Int.mul_le_mul x9 y9 y0 (by omega)
          have HRC := Lib.hid (fun w => RodCell (nth a i') (nth b j') w x0 x9 y0 y9)
          have HSTEP : Hid (latW a b I (J + 1) = latW a b I J + nth a i' * nth b j' * p10 k) := Lib.hid (by rw [latW_step, ← hi', ← hj', hk])
          obtain ⟨c, hc⟩ : ∃ c, nth a i' * nth b j' = c := ⟨_, rfl⟩
          rw [hc] at HSTEP c0 c1 HRC
          have hlen := HJ.out.1
          have bk := HJ.out.2.2 k
          have bk1 := HJ.out.2.2 (k + 1)
          obtain ⟨u, hu⟩ : ∃ u, u = nth S k + c % 10 := ⟨_, rfl⟩
          obtain ⟨v, hv⟩ : ∃ v, v = nth S (k + 1) + c / 10 := ⟨_, rfl⟩
          have w3 : IntKind.i64.wrap (nth S k + c % 10) = u := by rw [← hu]; exact IntWalk.i64_in _ (by omega)
          have w4 : IntKind.i64.wrap (nth S (k + 1) + c / 10) = v := by rw [← hv]; exact IntWalk.i64_in _ (by omega)
          have HHS := Lib.hid hs
          have HBB := Lib.hid hbl
          have HNEW : Hid (((S.set k u).set (k + 1) v).length = a.length + b.length ∧ lv ((S.set k u).set (k + 1) v) (a.length + b.length) = latW a b I (J + 1) ∧ ∀ i, 0 ≤ nth ((S.set k u).set (k + 1) v) i ∧ nth ((S.set k u).set (k + 1) v) i ≤ 18 * (6 * (I : Int) + ((J + 1 : Nat) : Int))) := Lib.hid (by
            refine ⟨by rw [List.length_set, List.length_set]; exact hlen, ?_, fun i => ?_⟩
            · rw [lv_cell hk1 hlen hu hv, HJ.out.2.1, HSTEP.out]
            · have := bd_cell HJ.out.2.2 c0 (by omega) hu hv (by omega) i
              omega)
          have hkl : k < S.length := by omega
          have hkl1 : k + 1 < S.length := by omega
          clear hc hu hv hk hs hbl hlen hi' hj'
          go_wp2_with fail
          go_quiet ((go_at_call 68; exact quiet_lat (HRC.out _)))
          have hsD := HHS.out.drewN nq
          have hbD := HBB.out.drewN nq
          have cK := hsD.cell (j := k) hkl
          have cK1 := hsD.cell (j := k + 1) hkl1
          have fK := hsD.free k
          have fK1 := hsD.free (k + 1)
          have s1 := hsD.set_ k u
          have cK2 : ((wr.drewN nq).setCell ⟨w.heap.size, k, none⟩ (.int .i64 u)).cell? ⟨w.heap.size, k + 1, none⟩ = some (.int .i64 (nth S (k + 1))) := by
            rw [s1.cell (j := k + 1) (by rw [List.length_set]; exact hkl1), lat_ne (by omega)]
          have fK2 := s1.free (k + 1)
          have HS2 := Lib.hid (s1.set_ (k + 1) v)
          have HB2 := Lib.hid ((hbD.setCell (p := ⟨w.heap.size, k, none⟩) (Nat.le_refl _) (.int .i64 u)).setCell (p := ⟨w.heap.size, k + 1, none⟩) (Nat.le_refl _) (.int .i64 v))
          clear s1 hsD hbD
          go_wp2_with fail
          go_roundw
          case rel => exact ⟨J + 1, _, by omega, by go_num, HS2.out, HB2.out, HNEW⟩
          case measure => simp [intOf]; omega
        · obtain rfl : J = b.length := by omega
          have HR : Hid (latW a b I b.length = latW a b (I + 1) 0) := Lib.hid latW_row
          go_wp2_with fail
          go_roundw
          case rel => exact ⟨I + 1, S, by omega, by go_num, hs, hbl, Lib.hid ⟨HJ.out.1, by rw [HJ.out.2.1, HR.out], fun i => by have := HJ.out.2.2 i; omega⟩⟩
          case measure => simp [intOf]; omega
    · obtain rfl : I = a.length := by omega
      go_wp2_with fail
      go_ret2
      obtain ⟨h1, h2, h3⟩ := HI.out
      exact ⟨_, _, S, by rw [h1, HF.out]; rfl, hs, fun _ => ⟨h1, by rw [h2, latW_all], fun i => by have := h3 i; omega⟩, by omega, hbl⟩

theorem valTo_cons (d : Int) (D : List Int) : ∀ j, valTo (d :: D) (j + 1) = d * p10 j + valTo D j
  | 0 => by simp [valTo, p10, nth]
  | j + 1 => by
    rw [valTo, valTo_cons d D j, valTo, p10, show nth (d :: D) (j + 1) = nth D j by simp [nth]]
    rw [Int.add_mul, Int.mul_assoc]
    omega
theorem nth_cons_bd {d : Int} {D : List Int} (h0 : 0 ≤ d) (h9 : d ≤ 9) (h : ∀ i, 0 ≤ nth D i ∧ nth D i ≤ 9) : ∀ i, 0 ≤ nth (d :: D) i ∧ nth (d :: D) i ≤ 9
  | 0 => by simp [nth]; exact ⟨h0, h9⟩
  | i + 1 => by rw [show nth (d :: D) (i + 1) = nth D i by simp [nth]]; exact h i

set_option maxRecDepth 100000 in
set_option maxHeartbeats 1000000 in
theorem spec_LatticeDigits (A B : Option Addr) (c d : Nat) (a b : List Int) (w : World) (ra : Rd .i64 w A a) (rb : Rd .i64 w B b) (la : a.length ≤ 4194304) (lb : b.length ≤ 4194304) :
    Calls Try.prog 51 #[.slice A a.length c, .slice B b.length d] w (LatDPost a b w) := by
  have HA := Lib.hid (spec_LatticeSums A B c d a b w ra rb la lb)
  clear ra rb
  go_enter Try.func51, Try.ntmps51
  go_wp2_with fail
  refine HA.out.mono ?_
  rintro e w1 ⟨A1, c1, S, rfl, s1, hS, l1, b1⟩
  cases hv : bothB a b
  · have HV := Lib.hid hv
    clear hS hv
    go_wp2_with fail
    go_ret2
    exact ⟨_, 0, [], by rw [HV.out]; rfl, Sl.lit w1 w.heap.size b1.size [] #[] rfl (by simp), fun h => (by rw [HV.out] at h; cases h), by simp, b1.alloc b1.size _⟩
  have HV := Lib.hid hv
  have HS := Lib.hid (hS hv)
  have HSB := Lib.hid (hS hv).2.2
  have r1 := s1.rd
  have hw1 := b1.size
  have HB1 := Lib.hid b1
  have HL0 := Lib.hid (Sl.lit w1 w1.heap.size (Nat.le_refl _) [] #[] rfl (by simp))
  have HBN := Lib.hid ((Below.refl w1.heap.size w1).alloc (Nat.le_refl _) (.cells #[] 3))
  clear hS hv s1 b1
  go_wp2_with fail
  go_loopw [8, 9, 10] (fun o q x wr => ∃ (i : Nat) (r : Int) (A : Option Addr) (c : Nat) (D : List Int), i ≤ S.length ∧ x = .int .i64 (i : Int) ∧ q = .int .i64 r ∧ o = .slice A D.length c ∧ 0 ≤ r ∧ r ≤ 1000 ∧ Sl wr w1.heap.size A c D ∧ Below w1.heap.size w1 wr ∧ Hid (D.length = i) ∧ Hid (valTo D i + r * p10 i = lv S i ∧ ∀ i, 0 ≤ nth D i ∧ nth D i ≤ 9)) (fun _ _ x _ => S.length - (intOf x).toNat)
  case atStart => exact ⟨0, 0, _, _, [], Nat.zero_le _, rfl, rfl, rfl, by omega, by omega, HL0.out, HBN.out, Lib.hid rfl, Lib.hid ⟨by simp [valTo, lv], fun i => by simp [nth]⟩⟩
  case round =>
    obtain ⟨i, r, A3, c3, D, hi, rfl, rfl, rfl, r0, r1', hs, hbl, HL, HI⟩ := hrel
    have lD : D.length ≤ 12 := by rw [HL.out]; omega
    by_cases hlt : i < S.length
    · obtain ⟨p, off, rfl, hpl, hc⟩ := (r1.below hbl).at hlt
      have bS := HSB.out i
      obtain ⟨t, ht⟩ : ∃ t, t = r + nth S i := ⟨_, rfl⟩
      have w1' : IntKind.i64.wrap (r + nth S i) = t := by rw [← ht]; exact IntWalk.i64_in _ (by omega)
      have t0 : 0 ≤ t := by omega
      have t1 : t ≤ 1648 := by omega
      have w2 : IntKind.i64.wrap (t % 10) = t % 10 := IntWalk.i64_in _ (by omega)
      have w3 : IntKind.i64.wrap (t / 10) = t / 10 := IntWalk.i64_in _ (by omega)
      have hz := hbl.size
      have HN : Hid (valTo (t % 10 :: D) (i + 1) + t / 10 * p10 (i + 1) = lv S (i + 1) ∧ ∀ j, 0 ≤ nth (t % 10 :: D) j ∧ nth (t % 10 :: D) j ≤ 9) := Lib.hid (by
        refine ⟨?_, nth_cons_bd (by omega) (by omega) HI.out.2⟩
        rw [valTo_cons, lv, ← HI.out.1, p10]
        have e : t % 10 * p10 i + t / 10 * (p10 i * 10) = t * p10 i := by
          rw [Int.mul_comm (p10 i) 10, ← Int.mul_assoc, ← Int.add_mul]
          congr 1; omega
        rw [ht, Int.add_mul] at e
        rw [ht]
        omega)
      have HY := Lib.hid (Sl.lit wr w1.heap.size hz [t % 10] _ rfl (by simp))
      have HD := Lib.hid ((hs.alloc (.cells #[.int .i64 (t % 10)] 3)).rd)
      have HNZ := Lib.hid hs.nz
      have HB := Lib.hid (hbl.alloc hz (.cells #[.int .i64 (t % 10)] 3))
      have HT := Lib.hid ht
      clear ht hs hbl
      go_wp2_with (at_builtin; refine wp_apS _ _ rfl rfl _ w1.heap.size _ _ _ _ [t % 10] D rfl rfl HY.out HD.out HNZ.out (by simp; omega) (by simp; omega) ?_; intro A4 c4 w4 s4 g4 _; refine Hid.out ?_)
      have s4' : Sl w4 w1.heap.size A4 c4 (t % 10 :: D) := s4
      have HS4 := Lib.hid s4'
      have HB4 := Lib.hid (HB.out.grown g4 HB.out.size (fun j hj => by simp [blk] at hj; omega))
      clear s4 s4' g4
      refine Lib.hid ?_
      go_wp2_with fail
      go_roundw
      case rel => exact ⟨i + 1, t / 10, A4, c4, t % 10 :: D, by omega, by go_num, rfl, by first | rfl | simp [Nat.add_comm], by omega, by omega, HS4.out, HB4.out, Lib.hid (by rw [List.length_cons, HL.out]), HN⟩
      case measure => simp [intOf]; omega
    · obtain rfl : i = S.length := by omega
      have HDG : Hid (DigsOf a b D) := Lib.hid (DigsOf.of (bothB_t HV.out).1 (bothB_t HV.out).2 HS.out HL.out HI.out.2 r0 (by rw [HL.out]; exact HI.out.1))
      have HSL := Lib.hid hs
      have HBL := Lib.hid hbl
      clear hs hbl
      go_wp2_with fail
      go_ret2
      exact ⟨A3, c3, D, by rw [HV.out]; rfl, HSL.out.down hw1, fun _ => HDG.out, lD, bstep HB1.out HBL.out⟩

theorem spec_LatticeTimes (A B : Option Addr) (c d : Nat) (a b : List Int) (w : World) (ra : Rd .i64 w A a) (rb : Rd .i64 w B b) (la : a.length ≤ 4194304) (lb : b.length ≤ 4194304) :
    Calls Try.prog 28 #[.slice A a.length c, .slice B b.length d] w fun e w' => e = .returned (.int .i64 (latT a b)) ∧ Below w.heap.size w w' := by
  have HA := Lib.hid (spec_LatticeDigits A B c d a b w ra rb la lb)
  clear ra rb
  go_enter Try.func28, Try.ntmps28
  go_wp2_with fail
  refine HA.out.mono ?_
  rintro e w1 ⟨A1, c1, D, rfl, s1, hD, l1, b1⟩
  cases hv : bothB a b
  · have HF : Hid (latT a b = -1) := Lib.hid (by simp [latT, hv])
    clear hD hv
    go_wp2_with fail
    go_ret
    exact ⟨ret_int HF.out.symm, b1⟩
  have HF : Hid (latT a b = valTo D D.length) := Lib.hid (by rw [(hD hv).2.1]; simp [latT, hv])
  have HV3 := Lib.hid (l3Value A1 c1 D w1 s1.rd l1 (hD hv).2.2)
  clear hD hv s1
  go_wp2_with fail
  refine HV3.out.mono ?_
  rintro e w' ⟨rfl, rfl⟩
  go_wp2_with fail
  go_ret
  exact ⟨ret_int HF.out.symm, b1⟩
end Go.Proofs.Ytceigfdmaeanaab
