/- The law FnLatticeTimes returns true for every input: lattices multiply as duplation does. No condition. -/
import Derived.Test.YtceigfdmaeanaabLatS
import Derived.Test.YtceigfdmaeanaabDup
import Derived.Test.YtceigfdmaeanaabDrawN
namespace Go.Proofs.Ytceigfdmaeanaab
open Go.ChangeShapes Go.WideShapes Go.ChangeAt Go.RowKit

theorem valTo_app (a l : List Int) : ∀ j, j ≤ a.length → valTo (a ++ l) j = valTo a j
  | 0, _ => rfl
  | j + 1, h => by
    rw [valTo, valTo, valTo_app a l j (by omega)]
    congr 1
    unfold nth
    rw [List.getElem?_append_left (by omega)]
theorem valTo_snoc (a : List Int) (d : Int) : valTo (a ++ [d]) (a ++ [d]).length = valTo a a.length * 10 + d := by
  rw [List.length_append, List.length_cons, List.length_nil, valTo, valTo_app a [d] _ (Nat.le_refl _)]
  congr 1
  simp [nth]
theorem numB_snoc {a : List Int} {d : Int} (h : numB a = true) (hl : a.length ≠ 6) (d0 : 0 ≤ d) (d9 : d ≤ 9) : numB (a ++ [d]) = true := by
  obtain ⟨h1, h6, h9⟩ := numB_t h
  refine numB_of (by simp) (by simp; omega) fun z hz => ?_
  rcases List.mem_append.1 hz with h | h
  · exact h9 z h
  · simp at h; subst h; exact ⟨d0, d9⟩
theorem latT_snoc {a b : List Int} {d x y : Int} (ha : numB a = true) (hb : numB b = true) (hl : a.length ≠ 6) (d0 : 0 ≤ d) (d9 : d ≤ 9) (hx : valTo a a.length = x) (hy : valTo b b.length = y) : latT (a ++ [d]) b = 10 * (x * y) + d * y := by
  have hv : bothB (a ++ [d]) b = true := by simp [bothB, numB_snoc ha hl d0 d9, hb]
  rw [latT, if_pos hv, valTo_snoc, hx, hy, Int.add_mul, Int.mul_comm x 10, Int.mul_assoc]

/-- Two lists are drawn. -/
def DrawLat (w : World) (e : Ending) (w' : World) : Prop := ∃ A c xs B d ys, e = .returned (.tuple #[.slice A xs.length c, .slice B ys.length d]) ∧ (A = none → c = 0) ∧ Rd .i64 w' A xs ∧ Rd .i64 w' B ys ∧ xs.length ≤ 7 ∧ ys.length ≤ 7 ∧ Below w.heap.size w w'
theorem DrawLatticeTimes (A : Option Addr) (c : Nat) (zs : List Int) (w : World) (h : Came .u8 w A c zs) : Calls Try.prog 26 #[.slice A zs.length c] w (DrawLat w) := by
  go_enter Try.func26, Try.ntmps26
  go_wp2_with fail
  refine (l6Open _ _ _ _ h).mono ?_
  rintro e w1 ⟨rfl, r1, b1⟩
  have hr1 := RdyI.of r1
  have hgl := r1.lt
  go_wp2_with fail
  refine (show Calls Try.prog 50 #[.pointer (some ⟨w.heap.size, 0, none⟩)] w1 (fun e w' => ∃ A c xs B d ys, e = .returned (.tuple #[.slice A xs.length c, .slice B ys.length d]) ∧ (A = none → c = 0) ∧ Rd .i64 w' A xs ∧ Rd .i64 w' B ys ∧ xs.length ≤ 7 ∧ ys.length ≤ 7 ∧ w1.grownBy w' (some w.heap.size)) from ?pair).mono ?_
  case pair =>
    go_enter Try.func50, Try.ntmps50
    go_wp2_with fail
    refine (l91Numeral w1.heap.size w.heap.size 0 4 w1 hr1 (Nat.le_refl _) (by omega) (by omega) (by omega)).mono ?_
    rintro e w2 ⟨A2, c2, xs, rfl, s2, l2, r2, g2⟩
    have hz2 := g2.size
    go_wp2_with fail
    refine (l91Numeral w1.heap.size w.heap.size 10 4 w2 r2 hz2 (by omega) (by omega) (by omega)).mono ?_
    rintro e w3 ⟨A3, c3, ys, rfl, s3, l3, r3, g3⟩
    have s2' := s2.pick g3 hgl
    go_wp2_with fail
    go_ret2
    exact ⟨A2, c2, xs, A3, c3, ys, rfl, s2'.nz, s2'.rd, s3.rd, l2, l3, grownBy_trans g2 g3⟩
  rintro e w2 ⟨A2, c2, xs, A3, c3, ys, rfl, hz, h2, h3, l2, l3, g2⟩
  go_wp2_with fail
  go_ret2
  exact ⟨A2, c2, xs, A3, c3, ys, rfl, hz, h2, h3, l2, l3, b1.trans (below_of_g g2 b1.size (Nat.le_refl _))⟩

set_option maxRecDepth 100000 in
set_option maxHeartbeats 1000000 in
theorem walk_FnLatticeTimes (A0 : Option Addr) (cap0 : Nat) (z0 : List Int) (A1 : Option Addr) (cap1 : Nat) (z1 : List Int) (w : World) (h0 : Came .u8 w A0 cap0 z0) (h1 : Came .u8 w A1 cap1 z1) :
    Calls Try.prog 8 #[.slice A0 z0.length cap0, .slice A1 z1.length cap1] w fun e w' => e = .returned (.bool true) ∧ Below w.heap.size w w' := by
  have hm0 := h0.ml
  have hm1 := h1.ml
  by_cases hb0 : 1048576 < z0.length
  · go_enter Try.func8, Try.ntmps8
    go_wp2
    go_ret
    exact ⟨rfl, Below.refl _ _⟩
  by_cases hb1 : 1048576 < z1.length
  · go_enter Try.func8, Try.ntmps8
    go_wp2
    go_ret
    exact ⟨rfl, Below.refl _ _⟩
  go_enter Try.func8, Try.ntmps8
  go_wp2_with fail
  refine (DrawLatticeTimes _ _ _ _ h0).mono ?_
  rintro e w1 ⟨A, c, a, B, d, b, rfl, hnz, ra1, rb1, la, lb, b1⟩
  clear h0 h1
  go_wp2_with fail
  refine (impl_LatticeTimes A B c d a b w1 ra1 rb1 (by omega) (by omega)).mono ?_
  rintro e w2 ⟨rfl, b2⟩
  have ra2 := ra1.below b2
  have rb2 := rb1.below b2
  have q2 := bstep b1 b2
  clear b1 b2 ra1 rb1
  go_wp2_with fail
  refine (spec_LatticeTimes A B c d a b w2 ra2 rb2 (by omega) (by omega)).mono ?_
  rintro e w3 ⟨rfl, b3⟩
  have ra3 := ra2.below b3
  have rb3 := rb2.below b3
  have q3 := bstep q2 b3
  clear b3 ra2 rb2 q2
  cases hv : bothB a b
  · rw [show latT a b = -1 by simp [latT, hv]]
    go_wp2_with fail
    go_ret
    exact ⟨rfl, q3⟩
  have ⟨hna, hnb⟩ := bothB_t hv
  obtain ⟨x, hx⟩ : ∃ x, valTo a a.length = x := ⟨_, rfl⟩
  obtain ⟨y, hy⟩ : ∃ y, valTo b b.length = y := ⟨_, rfl⟩
  obtain ⟨P, hP⟩ : ∃ P, x * y = P := ⟨_, rfl⟩
  have hx2 := valTo_bd6 hna (j := a.length) (numB_t hna).2.1
  have hy2 := valTo_bd6 hnb (j := b.length) (numB_t hnb).2.1
  rw [hx] at hx2
  rw [hy] at hy2
  obtain ⟨x0, x6⟩ := hx2
  obtain ⟨y0, y6⟩ := hy2
  have P0 : 0 ≤ P := by rw [← hP]; exact Int.mul_nonneg x0 y0
  have P1 : P ≤ 1000000 * 1000000 := by rw [← hP]; exact Int.mul_le_mul (by omega) (by omega) y0 (by omega)
  have hlt : latT a b = P := by rw [latT, if_pos hv, hx, hy, hP]
  have HVA : Hid (numV a = x) := Lib.hid (by rw [numV, if_pos hna, hx])
  have HVB : Hid (numV b = y) := Lib.hid (by rw [numV, if_pos hnb, hy])
  have HSN := Lib.hid (fun dg (h6 : a.length ≠ 6) (d0 : 0 ≤ dg) (d9 : dg ≤ 9) => latT_snoc (d := dg) hna hnb h6 d0 d9 hx hy)
  have wP : IntKind.i64.wrap (x * y) = P := by rw [hP]; exact IntWalk.i64_in _ (by omega)
  have HV := Lib.hid hv
  have HQ3 := Lib.hid q3
  have HRA3 := Lib.hid ra3
  have HRB3 := Lib.hid rb3
  have HNZ := Lib.hid hnz
  have HDG : Hid (∀ D, DigsOf a b D → valTo D D.length = P) := Lib.hid (fun D h => by rw [h.2.1, hx, hy, hP])
  have HP := Lib.hid hP
  have n0 : ¬ P < 0 := by omega
  rw [hlt]
  rw [hP] at HSN
  clear hx hy hP hna hnb hv q3 ra3 rb3 hnz hlt
  go_wp2_with fail
  refine (impl_LatticeDigits A B c d a b w3 HRA3.out HRB3.out (by omega) (by omega)).mono ?_
  rintro e w4 ⟨A4, c4, D, rfl, s4, hD, l4, b4⟩
  rw [HV.out]
  have hD2 := hD HV.out
  have HDV := Lib.hid (HDG.out D hD2)
  have HD9 := Lib.hid hD2.2.2
  have HS4 := Lib.hid s4
  have HRA4 := Lib.hid (HRA3.out.below b4)
  have HRB4 := Lib.hid (HRB3.out.below b4)
  have HQ4 := Lib.hid (bstep HQ3.out b4)
  clear hD hD2 s4 b4
  go_wp2_with fail
  refine (impl_NumeralValue A c a w4 HRA4.out (by omega)).mono ?_
  rintro e w5 ⟨rfl, b5⟩
  rw [HVA.out]
  have HRA5 := Lib.hid (HRA4.out.below b5)
  have HRB5 := Lib.hid (HRB4.out.below b5)
  have HR5 := Lib.hid (HS4.out.rd.below b5)
  have HQ5 := Lib.hid (bstep HQ4.out b5)
  clear b5
  go_wp2_with fail
  refine (impl_NumeralValue B d b w5 HRB5.out (by omega)).mono ?_
  rintro e w6 ⟨rfl, b6⟩
  rw [HVB.out]
  have HRA := Lib.hid (HRA5.out.below b6)
  have HRB := Lib.hid (HRB5.out.below b6)
  have HR6 := Lib.hid (HR5.out.below b6)
  have HQ := Lib.hid (bstep HQ5.out b6)
  clear b6
  go_wp2_with fail
  refine (valueOf A4 c4 D w6 HR6.out l4 HD9.out).mono ?_
  rintro e w' ⟨rfl, rfl⟩
  rw [HDV.out]
  obtain ⟨dg, hdg⟩ : ∃ dg : Int, (z1.length : Int) % 10 = dg := ⟨_, rfl⟩
  have d0 : 0 ≤ dg := by omega
  have d9 : dg ≤ 9 := by omega
  by_cases c0 : 0 < x
  · by_cases c1 : 0 < y
    · by_cases c2 : x ≤ 100000
      · by_cases c3 : y ≤ 100000
        · obtain ⟨X, rfl⟩ := Int.eq_ofNat_of_zero_le x0
          obtain ⟨Y, rfl⟩ := Int.eq_ofNat_of_zero_le y0
          have HDT := Lib.hid (DupTimes X Y w6 (by simp [facB]; omega) (by simp [facB]; omega))
          have HXY : Hid (((Y * X : Nat) : Int) = P) := Lib.hid ((Int.natCast_mul Y X).trans ((Int.mul_comm (Y : Int) (X : Int)).trans HP.out))
          have HC := Lib.hid (And.intro x6 y6)
          clear x6 y6
          go_wp2_with fail
          refine HDT.out.mono ?_
          rintro e w7 ⟨rfl, b7⟩
          rw [HXY.out]
          have HRA7 := Lib.hid (HRA.out.below b7)
          have HRB7 := Lib.hid (HRB.out.below b7)
          have HQ7 := Lib.hid (bstep HQ.out b7)
          have y6 := HC.out.2
          clear b7
          have HL0 := Lib.hid (Sl.lit w7 w7.heap.size (Nat.le_refl _) [] #[] rfl (by simp))
          have HRD := Lib.hid (HRA7.out.alloc (.cells #[] 3))
          go_wp2_with (at_builtin; refine wp_apS _ _ rfl rfl _ w7.heap.size _ _ _ _ [] a rfl rfl HL0.out HRD.out HNZ.out (by simp; omega) (by simp) ?_; intro A8 c8 w8 s8 g8 _; refine Hid.out ?_)
          have s8' : Sl w8 w7.heap.size A8 c8 a := s8
          have hz8 := g8.size
          simp at hz8
          have HB8 := Lib.hid ((below_new w7 (.cells #[] 3)).grown g8 (by simp) (fun j hj => by simp [blk] at hj; omega))
          have HS8 := Lib.hid s8'
          clear s8 s8' g8
          refine Lib.hid ?_
          go_wp2_with (at_builtin; refine wp_ap1 _ _ rfl rfl w8 w7.heap.size A8 c8 a dg rfl rfl HS8.out (by omega) (by omega) ?_; intro A9 c9 w9 s9 g9 _; refine Hid.out ?_)
          have HB9 := Lib.hid (HB8.out.grown g9 HB8.out.size (fun j hj => (HS8.out.lt j hj).1))
          have HQ9 := Lib.hid (bstep HQ7.out HB9.out)
          have HI : Hid (Calls Try.prog 27 #[.slice A9 (a.length + 1) c9, .slice B b.length d] w9 fun e w' => e = .returned (.int .i64 (latT (a ++ [dg]) b)) ∧ Below w9.heap.size w9 w') := Lib.hid (by
            have := impl_LatticeTimes A9 B c9 d (a ++ [dg]) b w9 s9.rd (HRB7.out.below HB9.out) (by simp; omega) (by omega)
            rwa [List.length_append] at this)
          clear s9 g9
          refine Lib.hid ?_
          by_cases h6 : a.length = 6
          · have e6 : (a.length : Int) = 6 := by omega
            have HL6 := Lib.hid h6
            clear h6
            go_wp2_with fail
            go_ret
            exact ⟨rfl, HQ9.out⟩
          · have e6 : ((a.length : Int) == 6) = false := beq_eq_false_iff_ne.2 (by omega)
            obtain ⟨r, hr⟩ : ∃ r, latT (a ++ [dg]) b = r := ⟨_, rfl⟩
            have hrv := HSN.out dg h6 d0 d9
            rw [hr] at hrv HI
            have m0 : 0 ≤ dg * (Y : Int) := Int.mul_nonneg d0 (by omega)
            have m1 : dg * (Y : Int) ≤ 9 * 1000000 := Int.mul_le_mul d9 (by omega) (by omega) (by omega)
            obtain ⟨s, hs⟩ : ∃ s, dg * (Y : Int) = s := ⟨_, rfl⟩
            have ws : IntKind.i64.wrap (dg * (Y : Int)) = s := by rw [hs]; exact IntWalk.i64_in _ (by omega)
            rw [hs] at hrv m0 m1
            have wr : IntKind.i64.wrap (10 * P + s) = r := by rw [← hrv]; exact IntWalk.i64_in _ (by omega)
            have wt : IntKind.i64.wrap (10 * P) = 10 * P := IntWalk.i64_in _ (by omega)
            clear hs hr hrv
            go_wp2_with fail
            refine HI.out.mono ?_
            rintro e w10 ⟨rfl, b10⟩
            go_wp2_with fail
            go_ret
            exact ⟨rfl, bstep HQ9.out b10⟩
        · have e3 : decide (y ≤ 100000) = false := by simpa using c3
          have HL0 := Lib.hid (Sl.lit w6 w6.heap.size (Nat.le_refl _) [] #[] rfl (by simp))
          have HRD := Lib.hid (HRA.out.alloc (.cells #[] 3))
          go_wp2_with (at_builtin; refine wp_apS _ _ rfl rfl _ w6.heap.size _ _ _ _ [] a rfl rfl HL0.out HRD.out HNZ.out (by simp; omega) (by simp) ?_; intro A8 c8 w8 s8 g8 _; refine Hid.out ?_)
          have s8' : Sl w8 w6.heap.size A8 c8 a := s8
          have hz8 := g8.size
          simp at hz8
          have HB8 := Lib.hid ((below_new w6 (.cells #[] 3)).grown g8 (by simp) (fun j hj => by simp [blk] at hj; omega))
          have HS8 := Lib.hid s8'
          clear s8 s8' g8
          refine Lib.hid ?_
          go_wp2_with (at_builtin; refine wp_ap1 _ _ rfl rfl w8 w6.heap.size A8 c8 a dg rfl rfl HS8.out (by omega) (by omega) ?_; intro A9 c9 w9 s9 g9 _; refine Hid.out ?_)
          have HB9 := Lib.hid (HB8.out.grown g9 HB8.out.size (fun j hj => (HS8.out.lt j hj).1))
          have HQ9 := Lib.hid (bstep HQ.out HB9.out)
          have HI : Hid (Calls Try.prog 27 #[.slice A9 (a.length + 1) c9, .slice B b.length d] w9 fun e w' => e = .returned (.int .i64 (latT (a ++ [dg]) b)) ∧ Below w9.heap.size w9 w') := Lib.hid (by
            have := impl_LatticeTimes A9 B c9 d (a ++ [dg]) b w9 s9.rd (HRB.out.below HB9.out) (by simp; omega) (by omega)
            rwa [List.length_append] at this)
          clear s9 g9
          refine Lib.hid ?_
          by_cases h6 : a.length = 6
          · have e6 : (a.length : Int) = 6 := by omega
            have HL6 := Lib.hid h6
            clear h6
            go_wp2_with fail
            go_ret
            exact ⟨rfl, HQ9.out⟩
          · have e6 : ((a.length : Int) == 6) = false := beq_eq_false_iff_ne.2 (by omega)
            obtain ⟨r, hr⟩ : ∃ r, latT (a ++ [dg]) b = r := ⟨_, rfl⟩
            have hrv := HSN.out dg h6 d0 d9
            rw [hr] at hrv HI
            have m0 : 0 ≤ dg * y := Int.mul_nonneg d0 (by omega)
            have m1 : dg * y ≤ 9 * 1000000 := Int.mul_le_mul d9 (by omega) (by omega) (by omega)
            obtain ⟨s, hs⟩ : ∃ s, dg * y = s := ⟨_, rfl⟩
            have ws : IntKind.i64.wrap (dg * y) = s := by rw [hs]; exact IntWalk.i64_in _ (by omega)
            rw [hs] at hrv m0 m1
            have wr : IntKind.i64.wrap (10 * P + s) = r := by rw [← hrv]; exact IntWalk.i64_in _ (by omega)
            have wt : IntKind.i64.wrap (10 * P) = 10 * P := IntWalk.i64_in _ (by omega)
            clear hs hr hrv
            go_wp2_with fail
            refine HI.out.mono ?_
            rintro e w10 ⟨rfl, b10⟩
            go_wp2_with fail
            go_ret
            exact ⟨rfl, bstep HQ9.out b10⟩
      · have e2 : decide (x ≤ 100000) = false := by simpa using c2
        have HL0 := Lib.hid (Sl.lit w6 w6.heap.size (Nat.le_refl _) [] #[] rfl (by simp))
        have HRD := Lib.hid (HRA.out.alloc (.cells #[] 3))
        go_wp2_with (at_builtin; refine wp_apS _ _ rfl rfl _ w6.heap.size _ _ _ _ [] a rfl rfl HL0.out HRD.out HNZ.out (by simp; omega) (by simp) ?_; intro A8 c8 w8 s8 g8 _; refine Hid.out ?_)
        have s8' : Sl w8 w6.heap.size A8 c8 a := s8
        have hz8 := g8.size
        simp at hz8
        have HB8 := Lib.hid ((below_new w6 (.cells #[] 3)).grown g8 (by simp) (fun j hj => by simp [blk] at hj; omega))
        have HS8 := Lib.hid s8'
        clear s8 s8' g8
        refine Lib.hid ?_
        go_wp2_with (at_builtin; refine wp_ap1 _ _ rfl rfl w8 w6.heap.size A8 c8 a dg rfl rfl HS8.out (by omega) (by omega) ?_; intro A9 c9 w9 s9 g9 _; refine Hid.out ?_)
        have HB9 := Lib.hid (HB8.out.grown g9 HB8.out.size (fun j hj => (HS8.out.lt j hj).1))
        have HQ9 := Lib.hid (bstep HQ.out HB9.out)
        have HI : Hid (Calls Try.prog 27 #[.slice A9 (a.length + 1) c9, .slice B b.length d] w9 fun e w' => e = .returned (.int .i64 (latT (a ++ [dg]) b)) ∧ Below w9.heap.size w9 w') := Lib.hid (by
          have := impl_LatticeTimes A9 B c9 d (a ++ [dg]) b w9 s9.rd (HRB.out.below HB9.out) (by simp; omega) (by omega)
          rwa [List.length_append] at this)
        clear s9 g9
        refine Lib.hid ?_
        by_cases h6 : a.length = 6
        · have e6 : (a.length : Int) = 6 := by omega
          have HL6 := Lib.hid h6
          clear h6
          go_wp2_with fail
          go_ret
          exact ⟨rfl, HQ9.out⟩
        · have e6 : ((a.length : Int) == 6) = false := beq_eq_false_iff_ne.2 (by omega)
          obtain ⟨r, hr⟩ : ∃ r, latT (a ++ [dg]) b = r := ⟨_, rfl⟩
          have hrv := HSN.out dg h6 d0 d9
          rw [hr] at hrv HI
          have m0 : 0 ≤ dg * y := Int.mul_nonneg d0 (by omega)
          have m1 : dg * y ≤ 9 * 1000000 := Int.mul_le_mul d9 (by omega) (by omega) (by omega)
          obtain ⟨s, hs⟩ : ∃ s, dg * y = s := ⟨_, rfl⟩
          have ws : IntKind.i64.wrap (dg * y) = s := by rw [hs]; exact IntWalk.i64_in _ (by omega)
          rw [hs] at hrv m0 m1
          have wr : IntKind.i64.wrap (10 * P + s) = r := by rw [← hrv]; exact IntWalk.i64_in _ (by omega)
          have wt : IntKind.i64.wrap (10 * P) = 10 * P := IntWalk.i64_in _ (by omega)
          clear hs hr hrv
          go_wp2_with fail
          refine HI.out.mono ?_
          rintro e w10 ⟨rfl, b10⟩
          go_wp2_with fail
          go_ret
          exact ⟨rfl, bstep HQ9.out b10⟩
    · have e1 : decide (0 < y) = false := by simpa using c1
      have HL0 := Lib.hid (Sl.lit w6 w6.heap.size (Nat.le_refl _) [] #[] rfl (by simp))
      have HRD := Lib.hid (HRA.out.alloc (.cells #[] 3))
      go_wp2_with (at_builtin; refine wp_apS _ _ rfl rfl _ w6.heap.size _ _ _ _ [] a rfl rfl HL0.out HRD.out HNZ.out (by simp; omega) (by simp) ?_; intro A8 c8 w8 s8 g8 _; refine Hid.out ?_)
      have s8' : Sl w8 w6.heap.size A8 c8 a := s8
      have hz8 := g8.size
      simp at hz8
      have HB8 := Lib.hid ((below_new w6 (.cells #[] 3)).grown g8 (by simp) (fun j hj => by simp [blk] at hj; omega))
      have HS8 := Lib.hid s8'
      clear s8 s8' g8
      refine Lib.hid ?_
      go_wp2_with (at_builtin; refine wp_ap1 _ _ rfl rfl w8 w6.heap.size A8 c8 a dg rfl rfl HS8.out (by omega) (by omega) ?_; intro A9 c9 w9 s9 g9 _; refine Hid.out ?_)
      have HB9 := Lib.hid (HB8.out.grown g9 HB8.out.size (fun j hj => (HS8.out.lt j hj).1))
      have HQ9 := Lib.hid (bstep HQ.out HB9.out)
      have HI : Hid (Calls Try.prog 27 #[.slice A9 (a.length + 1) c9, .slice B b.length d] w9 fun e w' => e = .returned (.int .i64 (latT (a ++ [dg]) b)) ∧ Below w9.heap.size w9 w') := Lib.hid (by
        have := impl_LatticeTimes A9 B c9 d (a ++ [dg]) b w9 s9.rd (HRB.out.below HB9.out) (by simp; omega) (by omega)
        rwa [List.length_append] at this)
      clear s9 g9
      refine Lib.hid ?_
      by_cases h6 : a.length = 6
      · have e6 : (a.length : Int) = 6 := by omega
        have HL6 := Lib.hid h6
        clear h6
        go_wp2_with fail
        go_ret
        exact ⟨rfl, HQ9.out⟩
      · have e6 : ((a.length : Int) == 6) = false := beq_eq_false_iff_ne.2 (by omega)
        obtain ⟨r, hr⟩ : ∃ r, latT (a ++ [dg]) b = r := ⟨_, rfl⟩
        have hrv := HSN.out dg h6 d0 d9
        rw [hr] at hrv HI
        have m0 : 0 ≤ dg * y := Int.mul_nonneg d0 (by omega)
        have m1 : dg * y ≤ 9 * 1000000 := Int.mul_le_mul d9 (by omega) (by omega) (by omega)
        obtain ⟨s, hs⟩ : ∃ s, dg * y = s := ⟨_, rfl⟩
        have ws : IntKind.i64.wrap (dg * y) = s := by rw [hs]; exact IntWalk.i64_in _ (by omega)
        rw [hs] at hrv m0 m1
        have wr : IntKind.i64.wrap (10 * P + s) = r := by rw [← hrv]; exact IntWalk.i64_in _ (by omega)
        have wt : IntKind.i64.wrap (10 * P) = 10 * P := IntWalk.i64_in _ (by omega)
        clear hs hr hrv
        go_wp2_with fail
        refine HI.out.mono ?_
        rintro e w10 ⟨rfl, b10⟩
        go_wp2_with fail
        go_ret
        exact ⟨rfl, bstep HQ9.out b10⟩
  · have e0 : decide (0 < x) = false := by simpa using c0
    have HL0 := Lib.hid (Sl.lit w6 w6.heap.size (Nat.le_refl _) [] #[] rfl (by simp))
    have HRD := Lib.hid (HRA.out.alloc (.cells #[] 3))
    go_wp2_with (at_builtin; refine wp_apS _ _ rfl rfl _ w6.heap.size _ _ _ _ [] a rfl rfl HL0.out HRD.out HNZ.out (by simp; omega) (by simp) ?_; intro A8 c8 w8 s8 g8 _; refine Hid.out ?_)
    have s8' : Sl w8 w6.heap.size A8 c8 a := s8
    have hz8 := g8.size
    simp at hz8
    have HB8 := Lib.hid ((below_new w6 (.cells #[] 3)).grown g8 (by simp) (fun j hj => by simp [blk] at hj; omega))
    have HS8 := Lib.hid s8'
    clear s8 s8' g8
    refine Lib.hid ?_
    go_wp2_with (at_builtin; refine wp_ap1 _ _ rfl rfl w8 w6.heap.size A8 c8 a dg rfl rfl HS8.out (by omega) (by omega) ?_; intro A9 c9 w9 s9 g9 _; refine Hid.out ?_)
    have HB9 := Lib.hid (HB8.out.grown g9 HB8.out.size (fun j hj => (HS8.out.lt j hj).1))
    have HQ9 := Lib.hid (bstep HQ.out HB9.out)
    have HI : Hid (Calls Try.prog 27 #[.slice A9 (a.length + 1) c9, .slice B b.length d] w9 fun e w' => e = .returned (.int .i64 (latT (a ++ [dg]) b)) ∧ Below w9.heap.size w9 w') := Lib.hid (by
      have := impl_LatticeTimes A9 B c9 d (a ++ [dg]) b w9 s9.rd (HRB.out.below HB9.out) (by simp; omega) (by omega)
      rwa [List.length_append] at this)
    clear s9 g9
    refine Lib.hid ?_
    by_cases h6 : a.length = 6
    · have e6 : (a.length : Int) = 6 := by omega
      have HL6 := Lib.hid h6
      clear h6
      go_wp2_with fail
      go_ret
      exact ⟨rfl, HQ9.out⟩
    · have e6 : ((a.length : Int) == 6) = false := beq_eq_false_iff_ne.2 (by omega)
      obtain ⟨r, hr⟩ : ∃ r, latT (a ++ [dg]) b = r := ⟨_, rfl⟩
      have hrv := HSN.out dg h6 d0 d9
      rw [hr] at hrv HI
      have m0 : 0 ≤ dg * y := Int.mul_nonneg d0 (by omega)
      have m1 : dg * y ≤ 9 * 1000000 := Int.mul_le_mul d9 (by omega) (by omega) (by omega)
      obtain ⟨s, hs⟩ : ∃ s, dg * y = s := ⟨_, rfl⟩
      have ws : IntKind.i64.wrap (dg * y) = s := by rw [hs]; exact IntWalk.i64_in _ (by omega)
      rw [hs] at hrv m0 m1
      have wr : IntKind.i64.wrap (10 * P + s) = r := by rw [← hrv]; exact IntWalk.i64_in _ (by omega)
      have wt : IntKind.i64.wrap (10 * P) = 10 * P := IntWalk.i64_in _ (by omega)
      clear hs hr hrv
      go_wp2_with fail
      refine HI.out.mono ?_
      rintro e w10 ⟨rfl, b10⟩
      go_wp2_with fail
      go_ret
      exact ⟨rfl, bstep HQ9.out b10⟩

/-! The row's step, after the kit's own shell of such a proof. -/
set_option linter.unusedVariables false in
set_option maxRecDepth 100000 in
theorem lifted_FnLatticeTimes (os : Os) (started : os.Started) (H : Type) (enc : TypeId × Value → H) :
    ReturnsInHanded {} Try.checked os 8 .any (Rows.fnLatticeTimesSpec.pre6 enc Try.prog Try.f8 Rows.fnLatticeTimesRow.domain false) (Rows.fnLatticeTimesSpec.post enc Try.prog Try.f8 false true false false) := by
  refine returnsInHanded_of_change (C := Try.checked) own started (by kernel_rfl) Try.func8
    (ChangeSpec.witness6 (enc := enc) (C := Try.checked) false ⟨#[], #[.slice none 0 0, .slice none 0 0], []⟩ 8 (by kernel_rfl) (by kernel_rfl) (by kernel_rfl) (by kernel_rfl)) ?_
  intro W base args ds gs before hval0 hW hcnd _
  have hval : ∀ (j : Nat) t v, Try.f8.params[j]? = some t → args[j]? = some v → Value.okWide Try.prog W .any base t v := hval0
  have hW' := hW
  obtain ⟨p, q, hA0, hV, rfl, hfz, hnd⟩ := hW
  have hA : DataW.TrodAll enc Try.prog W 0 (fun _ => true) true Try.f8.params.toList args.toList ds p := hA0
  rw [Try.params8] at hA hval
  obtain ⟨v0, vs0, d0, ds0, p0, q0, hargs, rfl, rfl, h0, r0⟩ := trodAll_cons hA
  obtain ⟨v1, vs1, d1, ds1, p1, q1, rfl, rfl, rfl, h1, r1⟩ := trodAll_cons r0
  obtain ⟨rfl, rfl, rfl⟩ := trodAll_nil r1
  obtain rfl : args = #[v0, v1] := by cases args; simp_all
  obtain ⟨rfl, rfl⟩ := trodVars_none hV
  obtain ⟨A0, len0, cap0, rfl⟩ := okWide_slice Try.underlying22 (hval 0 22 v0 rfl rfl)
  have k0 := h0
  have lt0 : ∀ x ∈ p0, x.block < W.heap.size := by obtain ⟨m, hm⟩ := k0; exact DataW.trod_lt m _ _ _ hm
  obtain ⟨z0, rfl, w0⟩ := row_open Try.underlying22 Try.underlying5 (by kernel_rfl) h0
  obtain ⟨A1, len1, cap1, rfl⟩ := okWide_slice Try.underlying22 (hval 1 22 v1 rfl rfl)
  have k1 := h1
  have lt1 : ∀ x ∈ p1, x.block < W.heap.size := by obtain ⟨m, hm⟩ := k1; exact DataW.trod_lt m _ _ _ hm
  obtain ⟨z1, rfl, w1⟩ := row_open Try.underlying22 Try.underlying5 (by kernel_rfl) h1
  clear hA0 hval0
  refine (walk_FnLatticeTimes A0 cap0 z0 A1 cap1 z1 W w0 w1).mono fun e W' ⟨he, bel⟩ => ?_
  subst he
  exact ⟨_, rfl, _, _, _, [], _, [], hW', trodAll_mk1 (shut_bool Try.underlying4 _), (trodAll_cons_mk (Below.trod laidOut (by kernel_rfl) (of_decide_eq_true (by kernel_rfl)) k0 bel lt0) (trodAll_cons_mk (Below.trod laidOut (by kernel_rfl) (of_decide_eq_true (by kernel_rfl)) k1 bel lt1) trodAll_mk0)), rfl, bel.frame _, fun h => by cases h⟩

theorem over_FnLatticeTimes : Rows.fnLatticeTimesRow.holds Try.pinned (OpenSpec.ofChange Rows.fnLatticeTimesSpec) :=
  OpenClaim.holds_of_wide 8 Try.f8 rfl rfl rfl rfl rfl rfl rfl ⟨rfl, rfl, rfl, rfl, rfl⟩ rfl rfl rfl rfl rfl (by kernel_rfl) Try.func8 (by kernel_rfl)
    (of_decide_eq_true (by kernel_rfl)) (by unfold Func.isWrapper; first | (rw [if_pos (by decide +kernel)]; kernel_rfl) | (rw [if_neg (by decide +kernel)]; exact ⟨rfl, rfl⟩))
    (fun os started H enc _ => lifted_FnLatticeTimes os started H enc)

/-- The statement. -/
theorem holds_FnLatticeTimes : Rows.FnLatticeTimesSaid := over_FnLatticeTimes
#print axioms holds_FnLatticeTimes
end Go.Proofs.Ytceigfdmaeanaab
