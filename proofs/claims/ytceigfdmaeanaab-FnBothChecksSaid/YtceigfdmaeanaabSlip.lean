/- Contracts of copyDigits and NumeralSlip, of the program and of the reference. -/
import Derived.Test.YtceigfdmaeanaabChk
namespace Go.Proofs.Ytceigfdmaeanaab
open Go.RowKit

set_option maxRecDepth 100000 in
theorem copyDigits (A : Option Addr) (c : Nat) (zs : List Int) (w : World) (hr : Rd .i64 w A zs) (hl : zs.length ≤ 4194304) :
    Calls Try.prog 40 #[.slice A zs.length c] w (NewSl w zs) := by
  have hlr : (List.replicate zs.length (0 : Int)).length = zs.length := by simp
  have HL := Lib.hid hlr
  clear hlr
  go_enter Try.func40, Try.ntmps40
  go_wp2_with (at_make; refine wp_mkN _ _ rfl rfl _ w.heap.size zs.length rfl rfl (by omega) (by omega) ?_; intro w0 hs0 hg0; refine Hid.out ?_)
  refine Lib.hid ?_
  have hb0 : Below w.heap.size w w0 := (Below.refl _ _).grown hg0 (Nat.le_refl _) (fun _ hk => by cases hk)
  go_wp2_with (with_reducible refine wp_copyS (.tmp 7) (.tmp 8) rfl rfl w0 w.heap.size w.heap.size zs.length zs.length c A (List.replicate zs.length 0) zs rfl rfl HL.out hs0 (hr.below hb0) HL.out.symm ?_; intro w1 hs1 hb1)
  go_ret
  exact ⟨_, _, rfl, hs1, hb0.trans hb1⟩

/-- A digit can be changed so. -/
def slipB (zs : List Int) (i d : Int) : Bool := numB zs && inB i 0 ((zs.length : Int) - 1) && inB d 0 9 && !(nth zs i.toNat == d)
def slipL (zs : List Int) (i d : Int) : List Int := if slipB zs i d then zs.set i.toNat d else []
theorem slip_no {zs : List Int} {i d : Int} (h : slipB zs i d = false) : slipL zs i d = [] := by simp [slipL, h]
theorem slip_yes {zs : List Int} {i d : Int} (h : slipB zs i d = true) : slipL zs i d = zs.set i.toNat d := by simp [slipL, h]
theorem slipB_a {zs : List Int} {i d : Int} (h : numB zs = false) : slipB zs i d = false := by simp [slipB, h]
theorem slipB_b {zs : List Int} {i d : Int} (h : inB i 0 ((zs.length : Int) - 1) = false) : slipB zs i d = false := by simp [slipB, h]
theorem slipB_c {zs : List Int} {i d : Int} (h : inB d 0 9 = false) : slipB zs i d = false := by simp [slipB, h]
theorem slipB_d {zs : List Int} {i d : Int} (h : (nth zs i.toNat == d) = true) : slipB zs i d = false := by simp [slipB, h]
theorem slipB_y {zs : List Int} {i d : Int} (h : numB zs = true) (h1 : inB i 0 ((zs.length : Int) - 1) = true) (h2 : inB d 0 9 = true) (h3 : (nth zs i.toNat == d) = false) : slipB zs i d = true := by
  simp only [slipB, h, h1, h2, h3]; rfl

theorem slipL_le (zs : List Int) (i d : Int) (h : zs.length ≤ 4194304) : (slipL zs i d).length ≤ 4194304 := by
  unfold slipL; split <;> simp; exact h

theorem SlPost.no {w w' : World} {zs : List Int} {A : Option Addr} {c : Nat} {zs' : List Int} {ok : Bool} (h : zs' = []) (h' : ok = false) (hs : Sl w' w.heap.size A c zs) (hz : zs = []) (hb : Below w.heap.size w w') : SlPost w zs' ok (.returned (.tuple #[.slice A 0 c, .bool false])) w' := by
  subst h h' hz
  exact ⟨A, c, rfl, hs, hb⟩

set_option maxRecDepth 100000 in
theorem impl_NumeralSlip (A : Option Addr) (c : Nat) (zs : List Int) (i d : Int) (w : World) (hr : Rd .i64 w A zs) (hl : zs.length ≤ 4194304) :
    Calls Try.prog 12 #[.slice A zs.length c, .int .i64 i, .int .i64 d] w (SlPost w (slipL zs i d) (slipB zs i d)) := by
  cases n1 : numB zs
  · have hb := Lib.hid (slipB_a (i := i) (d := d) n1)
    go_enter Try.func12, Try.ntmps12
    go_wp2_with fail
    refine (impl_NumeralValid _ _ _ _ hr hl).mono ?_
    rintro e w1 ⟨rfl, b1⟩
    rw [n1]
    go_wp2_with fail
    go_ret2
    exact SlPost.no (slip_no hb.out) hb.out (Sl.nil_ _ _) rfl b1
  have l6 := (numB_t n1).2.1
  cases n2 : inB i 0 ((zs.length : Int) - 1)
  · have hb := Lib.hid (slipB_b (d := d) n2)
    rcases inB_f n2 with h | h
    all_goals
      go_enter Try.func12, Try.ntmps12
      go_wp2_with fail
      refine (impl_NumeralValid _ _ _ _ hr hl).mono ?_
      rintro e w1 ⟨rfl, b1⟩
      rw [n1]
      have h' : ¬ (0 ≤ i ∧ i < zs.length) := by omega
      clear h'
    · go_wp2_with fail
      go_ret2
      exact SlPost.no (slip_no hb.out) hb.out (Sl.nil_ _ _) rfl b1
    · have h2 : decide (i < 0) = false := by simp; omega
      have h3 : (zs.length : Int) ≤ i := by omega
      go_wp2_with fail
      go_ret2
      exact SlPost.no (slip_no hb.out) hb.out (Sl.nil_ _ _) rfl b1
  have ⟨i0, i1⟩ := inB_t n2
  obtain ⟨I, rfl⟩ := Int.eq_ofNat_of_zero_le i0
  have hI : I < zs.length := by omega
  cases n3 : inB d 0 9
  · have hb := Lib.hid (slipB_c (zs := zs) (i := (I : Int)) n3)
    go_enter Try.func12, Try.ntmps12
    go_wp2_with fail
    refine (impl_NumeralValid _ _ _ _ hr hl).mono ?_
    rintro e w1 ⟨rfl, b1⟩
    rw [n1]
    go_wp2_with fail
    refine (isDigit _ _).mono ?_
    rintro e w' ⟨rfl, rfl⟩
    rw [n3]
    go_wp2_with fail
    go_ret2
    exact SlPost.no (slip_no hb.out) hb.out (Sl.nil_ _ _) rfl b1
  have ⟨d0, d1⟩ := inB_t n3
  obtain ⟨b, off, rfl, hbl, hc⟩ := hr.at hI
  cases n4 : (nth zs I == d)
  · have hb := Lib.hid (slipB_y n1 n2 n3 (by rw [Int.toNat_natCast]; exact n4))
    go_enter Try.func12, Try.ntmps12
    go_wp2_with fail
    refine (impl_NumeralValid _ _ _ _ hr hl).mono ?_
    rintro e w1 ⟨rfl, b1⟩
    rw [n1]
    have hc1 := b1.cell (p := ⟨b, off + I, none⟩) hbl
    rw [hc] at hc1
    go_wp2_with fail
    refine (isDigit _ _).mono ?_
    rintro e w' ⟨rfl, rfl⟩
    rw [n3]
    go_wp2_with fail
    refine (copyDigits _ _ _ _ (hr.below b1) hl).mono ?_
    rintro e w2 ⟨A2, c2, rfl, s2, b2⟩
    obtain ⟨g, rfl, hbg, hgl⟩ := s2.addr (by intro h0; rw [h0] at hI; simp at hI)
    have hcell := s2.cell hI
    have hf := s2.free I
    have HS := Lib.hid (s2.set_ I d)
    have hs1 := b1.size
    have HB := Lib.hid ((bstep b1 b2).setCell (p := ⟨g, I, none⟩) (by simp; omega) (.int .i64 d))
    go_wp2_with fail
    go_ret2
    rw [hb.out, slip_yes hb.out, Int.toNat_natCast]
    exact ⟨some ⟨g, 0, none⟩, c2, by rw [List.length_set]; rfl, HS.out.down (by omega), HB.out⟩
  · have hb := Lib.hid (slipB_d (zs := zs) (i := (I : Int)) (d := d) (by rw [Int.toNat_natCast]; exact n4))
    go_enter Try.func12, Try.ntmps12
    go_wp2_with fail
    refine (impl_NumeralValid _ _ _ _ hr hl).mono ?_
    rintro e w1 ⟨rfl, b1⟩
    rw [n1]
    have hc1 := b1.cell (p := ⟨b, off + I, none⟩) hbl
    rw [hc] at hc1
    go_wp2_with fail
    refine (isDigit _ _).mono ?_
    rintro e w' ⟨rfl, rfl⟩
    rw [n3]
    go_wp2_with fail
    go_ret2
    exact SlPost.no (slip_no hb.out) hb.out (Sl.nil_ _ _) rfl b1

/-- The empty slice that the reference hands back. -/
theorem Sl.empty (w w0 : World) (h : w0.heap.size ≤ w.heap.size) : Sl (w.alloc (.cells #[] 3)) w0.heap.size (some ⟨w.heap.size, 0, none⟩) 0 [] := Sl.lit w _ h [] #[] rfl (by simp)

set_option maxRecDepth 100000 in
theorem spec_NumeralSlip (A : Option Addr) (c : Nat) (zs : List Int) (i d : Int) (w : World) (hr : Rd .i64 w A zs) (hz : A = none → c = 0) (hl : zs.length ≤ 4194304) :
    Calls Try.prog 36 #[.slice A zs.length c, .int .i64 i, .int .i64 d] w (SlPost w (slipL zs i d) (slipB zs i d)) := by
  have be : Below w.heap.size w (w.alloc (.cells #[] 3)) := (Below.refl _ _).alloc (Nat.le_refl _) _
  cases n1 : numB zs
  · have hb := Lib.hid (slipB_a (i := i) (d := d) n1)
    go_enter Try.func36, Try.ntmps36
    go_wp2_with fail
    refine (spec_NumeralValid _ _ _ _ hr hl).mono ?_
    rintro e w' ⟨rfl, rfl⟩
    rw [n1]
    go_wp2_with fail
    go_ret2
    exact SlPost.no (slip_no hb.out) hb.out (Sl.empty w w (Nat.le_refl _)) rfl be
  have l6 := (numB_t n1).2.1
  cases n2 : inB i 0 ((zs.length : Int) - 1)
  · have hb := Lib.hid (slipB_b (d := d) n2)
    go_enter Try.func36, Try.ntmps36
    go_wp2_with fail
    refine (spec_NumeralValid _ _ _ _ hr hl).mono ?_
    rintro e w' ⟨rfl, rfl⟩
    rw [n1]
    go_wp2_with fail
    refine (l6In _ _ _ _).mono ?_
    rintro e w' ⟨rfl, rfl⟩
    rw [n2]
    go_wp2_with fail
    go_ret2
    exact SlPost.no (slip_no hb.out) hb.out (Sl.empty w w (Nat.le_refl _)) rfl be
  have ⟨i0, i1⟩ := inB_t n2
  obtain ⟨I, rfl⟩ := Int.eq_ofNat_of_zero_le i0
  have hI : I < zs.length := by omega
  cases n3 : inB d 0 9
  · have hb := Lib.hid (slipB_c (zs := zs) (i := (I : Int)) n3)
    go_enter Try.func36, Try.ntmps36
    go_wp2_with fail
    refine (spec_NumeralValid _ _ _ _ hr hl).mono ?_
    rintro e w' ⟨rfl, rfl⟩
    rw [n1]
    go_wp2_with fail
    refine (l6In _ _ _ _).mono ?_
    rintro e w' ⟨rfl, rfl⟩
    rw [n2]
    go_wp2_with fail
    refine (l3Digit _ _).mono ?_
    rintro e w' ⟨rfl, rfl⟩
    rw [n3]
    go_wp2_with fail
    go_ret2
    exact SlPost.no (slip_no hb.out) hb.out (Sl.empty w w (Nat.le_refl _)) rfl be
  have ⟨d0, d1⟩ := inB_t n3
  obtain ⟨b, off, rfl, hbl, hc⟩ := hr.at hI
  cases n4 : (nth zs I == d)
  · have hb := Lib.hid (slipB_y n1 n2 n3 (by rw [Int.toNat_natCast]; exact n4))
    have HE := Lib.hid (Sl.empty w w (Nat.le_refl _))
    go_enter Try.func36, Try.ntmps36
    go_wp2_with fail
    refine (spec_NumeralValid _ _ _ _ hr hl).mono ?_
    rintro e w' ⟨rfl, rfl⟩
    rw [n1]
    go_wp2_with fail
    refine (l6In _ _ _ _).mono ?_
    rintro e w' ⟨rfl, rfl⟩
    rw [n2]
    go_wp2_with fail
    refine (l3Digit _ _).mono ?_
    rintro e w' ⟨rfl, rfl⟩
    rw [n3]
    go_wp2_with (at_builtin; refine wp_apS _ _ rfl rfl _ w.heap.size _ _ _ _ [] zs rfl rfl HE.out (hr.alloc _) hz (by simp; omega) (by simp) ?_; intro A2 c2 w2 s2 g2 _; refine Hid.out ?_)
    refine Lib.hid ?_
    rw [List.nil_append] at s2
    obtain ⟨g, rfl, hbg, hgl⟩ := s2.addr (by intro h0; rw [h0] at hI; simp at hI)
    have hcell := s2.cell hI
    have hf := s2.free I
    have HS := Lib.hid (s2.set_ I d)
    have HB := Lib.hid ((be.grown g2 (by simp) (fun k hk => (HE.out.lt k hk).1)).setCell (p := ⟨g, I, none⟩) (by simp; omega) (.int .i64 d))
    clear HE
    go_wp2_with fail
    go_ret2
    rw [hb.out, slip_yes hb.out, Int.toNat_natCast]
    exact ⟨some ⟨g, 0, none⟩, c2, by rw [List.length_set]; rfl, HS.out, HB.out⟩
  · have hb := Lib.hid (slipB_d (zs := zs) (i := (I : Int)) (d := d) (by rw [Int.toNat_natCast]; exact n4))
    go_enter Try.func36, Try.ntmps36
    go_wp2_with fail
    refine (spec_NumeralValid _ _ _ _ hr hl).mono ?_
    rintro e w' ⟨rfl, rfl⟩
    rw [n1]
    go_wp2_with fail
    refine (l6In _ _ _ _).mono ?_
    rintro e w' ⟨rfl, rfl⟩
    rw [n2]
    go_wp2_with fail
    refine (l3Digit _ _).mono ?_
    rintro e w' ⟨rfl, rfl⟩
    rw [n3]
    go_wp2_with fail
    go_ret2
    exact SlPost.no (slip_no hb.out) hb.out (Sl.empty w w (Nat.le_refl _)) rfl be
end Go.Proofs.Ytceigfdmaeanaab
