/- Contracts of NumeralExchange, of the program and of the reference. -/
import Derived.Test.YtceigfdmaeanaabSlip
import Derived.Test.YtceigfdmaeanaabLater
import Derived.RegionTactic
import Derived.BigRegion
namespace Go.Proofs.Ytceigfdmaeanaab
open Go.RowKit

/-- The digits at i and i + 1 can be exchanged. -/
def exchB (zs : List Int) (i : Int) : Bool := numB zs && inB i 0 ((zs.length : Int) - 2) && !(nth zs i.toNat == nth zs (i.toNat + 1))
def exchL (zs : List Int) (i : Int) : List Int := if exchB zs i then (zs.set i.toNat (nth zs (i.toNat + 1))).set (i.toNat + 1) (nth zs i.toNat) else []
theorem exch_no {zs : List Int} {i : Int} (h : exchB zs i = false) : exchL zs i = [] := by simp [exchL, h]
theorem exch_yes {zs : List Int} {i : Int} (h : exchB zs i = true) : exchL zs i = (zs.set i.toNat (nth zs (i.toNat + 1))).set (i.toNat + 1) (nth zs i.toNat) := by simp [exchL, h]
theorem exchB_a {zs : List Int} {i : Int} (h : numB zs = false) : exchB zs i = false := by simp [exchB, h]
theorem exchB_b {zs : List Int} {i : Int} (h : inB i 0 ((zs.length : Int) - 2) = false) : exchB zs i = false := by simp [exchB, h]
theorem exchB_d {zs : List Int} {i : Int} (h : (nth zs i.toNat == nth zs (i.toNat + 1)) = true) : exchB zs i = false := by simp [exchB, h]
theorem exchB_y {zs : List Int} {i : Int} (h : numB zs = true) (h1 : inB i 0 ((zs.length : Int) - 2) = true) (h3 : (nth zs i.toNat == nth zs (i.toNat + 1)) = false) : exchB zs i = true := by
  simp only [exchB, h, h1, h3]; rfl
theorem exchL_le (zs : List Int) (i : Int) (h : zs.length ≤ 4194304) : (exchL zs i).length ≤ 4194304 := by
  unfold exchL; split <;> simp; exact h

theorem below_of_drew {w w1 : World} (h : Below w.drew.heap.size w.drew w1) : Below w.heap.size w w1 := ⟨h.os, h.tape, h.output, h.size, h.block⟩

theorem cell_keep {w w1 : World} {p : Addr} {v : Value} (h : w.cell? p = some v) (hb : Below w.heap.size w w1) : w1.cell? p = some v := (hb.cell (World.block_lt_of_cell? w _ h)).trans h
/-- No slice is returned. -/
def NoSl (w : World) (e : Ending) (w' : World) : Prop := e = .returned (.tuple #[.slice none 0 0, .bool false]) ∧ Below w.heap.size w w'

set_option maxRecDepth 100000 in
set_option maxHeartbeats 1000000 in
theorem impl_Exch_a (A : Option Addr) (c : Nat) (zs : List Int) (i : Int) (w : World) (hr : Rd .i64 w A zs) (n1 : numB zs = false) (hl : zs.length ≤ 4194304) :
    Calls Try.prog 25 #[.slice A zs.length c, .int .i64 i] w (NoSl w) := by
  go_enter Try.func25, Try.ntmps25
  go_wp2_with fail
  have hy := later_refl w
  refine wp_region_later (by kernel_rfl) (by kernel_rfl) ?_
  quiet_step (fail)
  refine wpQuiet_step (fun K hK => ?_)
  go_simp
  refine ⟨.bool (numB zs), fun x => later_call (x := x) (impl_NumeralValid A c zs x.val (hr.below x.bel) hl), hK _ ?_⟩
  clear hK K
  rw [n1]
  repeat (go_big_quiet_step (fail))
  refine wpQuiet_nil ?_
  intro w' hw'
  obtain ⟨⟨w1, b1⟩, hw''⟩ := hw'
  obtain rfl : w' = w1 := hw''
  clear hy
  go_wp2_with fail
  go_ret2
  exact ⟨rfl, b1⟩

set_option maxRecDepth 100000 in
set_option maxHeartbeats 1000000 in
theorem impl_Exch_b (A : Option Addr) (c : Nat) (zs : List Int) (i : Int) (w : World) (hr : Rd .i64 w A zs) (n1 : numB zs = true) (hi : i < 0) (hl : zs.length ≤ 4194304) :
    Calls Try.prog 25 #[.slice A zs.length c, .int .i64 i] w (NoSl w) := by
  have d1 : decide (i < 0) = true := by simpa using hi
  go_enter Try.func25, Try.ntmps25
  go_wp2_with fail
  have hy := later_refl w
  refine wp_region_later (by kernel_rfl) (by kernel_rfl) ?_
  quiet_step (fail)
  refine wpQuiet_step (fun K hK => ?_)
  go_simp
  refine ⟨.bool (numB zs), fun x => later_call (x := x) (impl_NumeralValid A c zs x.val (hr.below x.bel) hl), hK _ ?_⟩
  clear hK K
  rw [n1]
  repeat (go_big_quiet_step (fail))
  refine wpQuiet_nil ?_
  intro w' hw'
  obtain ⟨⟨w1, b1⟩, hw''⟩ := hw'
  obtain rfl : w' = w1 := hw''
  clear hy
  go_wp2_with fail
  go_ret2
  exact ⟨rfl, b1⟩

set_option maxRecDepth 100000 in
set_option maxHeartbeats 1000000 in
theorem impl_Exch_c (A : Option Addr) (c : Nat) (zs : List Int) (i : Int) (w : World) (hr : Rd .i64 w A zs) (n1 : numB zs = true) (hi : 0 ≤ i) (hi' : (zs.length : Int) - 1 ≤ i) (hl : zs.length ≤ 4194304) :
    Calls Try.prog 25 #[.slice A zs.length c, .int .i64 i] w (NoSl w) := by
  have l6 := (numB_t n1).2.1
  have d1 : decide (i < 0) = false := by simp; omega
  have v1 : IntKind.i64.wrap ((zs.length : Int) - 1) = (zs.length : Int) - 1 := IntWalk.i64_in _ (by omega)
  have d2 : decide ((zs.length : Int) - 1 ≤ i) = true := by simp; omega
  go_enter Try.func25, Try.ntmps25
  go_wp2_with fail
  have hy := later_refl w
  refine wp_region_later (by kernel_rfl) (by kernel_rfl) ?_
  quiet_step (fail)
  refine wpQuiet_step (fun K hK => ?_)
  go_simp
  refine ⟨.bool (numB zs), fun x => later_call (x := x) (impl_NumeralValid A c zs x.val (hr.below x.bel) hl), hK _ ?_⟩
  clear hK K
  rw [n1]
  repeat (go_big_quiet_step (fail))
  refine wpQuiet_nil ?_
  intro w' hw'
  obtain ⟨⟨w1, b1⟩, hw''⟩ := hw'
  obtain rfl : w' = w1 := hw''
  clear hy
  go_wp2_with fail
  go_ret2
  exact ⟨rfl, b1⟩

set_option maxRecDepth 100000 in
set_option maxHeartbeats 1000000 in
theorem impl_Exch_d (A : Option Addr) (c : Nat) (zs : List Int) (I : Nat) (w : World) (hr : Rd .i64 w A zs) (n1 : numB zs = true) (hI : I + 1 < zs.length) (heq : (nth zs I == nth zs (I + 1)) = true) (hl : zs.length ≤ 4194304) :
    Calls Try.prog 25 #[.slice A zs.length c, .int .i64 (I : Int)] w (NoSl w) := by
  have l6 := (numB_t n1).2.1
  have hI2 : I + 1 < zs.length := hI
  obtain ⟨b, off, hA, hbl, hc⟩ := hr.at (i := I) (by omega)
  obtain ⟨b2, off2, hA2, hbl2, hc2⟩ := hr.at (i := I + 1) hI2
  rw [hA] at hA2
  injection hA2 with hA2
  injection hA2 with e1 e2
  subst e1 e2 hA
  have e1 := later_cell hc
  have e2 := later_cell hc2
  have d1 : decide ((I : Int) < 0) = false := by simp
  have v1 : IntKind.i64.wrap ((zs.length : Int) - 1) = (zs.length : Int) - 1 := IntWalk.i64_in _ (by omega)
  have v2 : IntKind.i64.wrap ((I : Int) + 1) = (I : Int) + 1 := IntWalk.i64_in _ (by omega)
  have d2 : decide ((zs.length : Int) - 1 ≤ (I : Int)) = false := by simp; omega
  have u0 : 0 ≤ (I : Int) := by omega
  have u1 : (I : Int) < zs.length := by omega
  have u2 : 0 ≤ (I : Int) + 1 := by omega
  have u3 : (I : Int) + 1 < zs.length := by omega
  go_enter Try.func25, Try.ntmps25
  go_wp2_with fail
  have hy := later_refl w
  refine wp_region_later (by kernel_rfl) (by kernel_rfl) ?_
  quiet_step (fail)
  refine wpQuiet_step (fun K hK => ?_)
  go_simp
  refine ⟨.bool (numB zs), fun x => later_call (x := x) (impl_NumeralValid _ c zs x.val (hr.below x.bel) hl), hK _ ?_⟩
  clear hK K
  rw [n1]
  repeat (go_big_quiet_step (fail))
  refine wpQuiet_nil ?_
  intro w' hw'
  obtain ⟨⟨w1, b1⟩, hw''⟩ := hw'
  obtain rfl : w' = w1 := hw''
  clear hy
  go_wp2_with fail
  go_ret2
  exact ⟨rfl, b1⟩

set_option maxRecDepth 100000 in
set_option maxHeartbeats 1000000 in
theorem impl_Exch_e (A : Option Addr) (c : Nat) (zs : List Int) (I : Nat) (w : World) (hr : Rd .i64 w A zs) (n1 : numB zs = true) (hI : I + 1 < zs.length) (heq : (nth zs I == nth zs (I + 1)) = false) (hl : zs.length ≤ 4194304) :
    Calls Try.prog 25 #[.slice A zs.length c, .int .i64 (I : Int)] w (SlPost w ((zs.set I (nth zs (I + 1))).set (I + 1) (nth zs I)) true) := by
  have l6 := (numB_t n1).2.1
  have hI2 : I + 1 < zs.length := hI
  obtain ⟨b, off, hA, hbl, hc⟩ := hr.at (i := I) (by omega)
  obtain ⟨b2, off2, hA2, hbl2, hc2⟩ := hr.at (i := I + 1) hI2
  rw [hA] at hA2
  injection hA2 with hA2
  injection hA2 with e1 e2
  subst e1 e2 hA
  have e1 := later_cell hc
  have e2 := later_cell hc2
  have d1 : decide ((I : Int) < 0) = false := by simp
  have v1 : IntKind.i64.wrap ((zs.length : Int) - 1) = (zs.length : Int) - 1 := IntWalk.i64_in _ (by omega)
  have v2 : IntKind.i64.wrap ((I : Int) + 1) = (I : Int) + 1 := IntWalk.i64_in _ (by omega)
  have d2 : decide ((zs.length : Int) - 1 ≤ (I : Int)) = false := by simp; omega
  have u0 : 0 ≤ (I : Int) := by omega
  have u1 : (I : Int) < zs.length := by omega
  have u2 : 0 ≤ (I : Int) + 1 := by omega
  have u3 : (I : Int) + 1 < zs.length := by omega
  go_enter Try.func25, Try.ntmps25
  go_wp2_with fail
  have hy := later_refl w
  refine wp_region_later (by kernel_rfl) (by kernel_rfl) ?_
  quiet_step (fail)
  refine wpQuiet_step (fun K hK => ?_)
  go_simp
  refine ⟨.bool (numB zs), fun x => later_call (x := x) (impl_NumeralValid _ c zs x.val (hr.below x.bel) hl), hK _ ?_⟩
  clear hK K
  rw [n1]
  repeat (go_big_quiet_step (fail))
  refine wpQuiet_nil ?_
  intro w' hw'
  obtain ⟨⟨w1, b1⟩, hw''⟩ := hw'
  obtain rfl : w' = w1 := hw''
  clear hy
  clear e1 e2 v1 d1 d2
  have HB1 := Lib.hid b1
  go_wp2_with fail
  refine (copyDigits _ _ _ _ (hr.below HB1.out) hl).mono ?_
  rintro e w2 ⟨A2, c2, rfl, s2, b2⟩
  obtain ⟨g, rfl, hbg, hgl⟩ := s2.addr (by intro h0; rw [h0] at hI; simp at hI)
  have k0 := s2.cell (j := I) (by omega)
  have k1 := s2.cell (j := I + 1) hI2
  have f0 := s2.free I
  have f1 := s2.free (I + 1)
  have HS := Lib.hid ((s2.set_ I (nth zs (I + 1))).set_ (I + 1) (nth zs I))
  have hs1 := HB1.out.size
  have HB := Lib.hid (((bstep HB1.out b2).setCell (p := ⟨g, I, none⟩) (by simp; omega) (.int .i64 (nth zs (I + 1)))).setCell (p := ⟨g, I + 1, none⟩) (by simp; omega) (.int .i64 (nth zs I)))
  clear hc hc2
  go_wp2_with fail
  go_region
  go_wp2_with fail
  go_ret2
  exact ⟨some ⟨g, 0, none⟩, c2, by simp, HS.out.down (by omega), HB.out.drewN 1⟩

theorem NoSl.post {w : World} {zs : List Int} {ok : Bool} (h1 : zs = []) (h2 : ok = false) {e : Ending} {w' : World} (h : NoSl w e w') : SlPost w zs ok e w' := by
  subst h1 h2
  obtain ⟨rfl, hb⟩ := h
  exact ⟨none, 0, rfl, Sl.nil_ _ _, hb⟩
theorem impl_NumeralExchange (A : Option Addr) (c : Nat) (zs : List Int) (i : Int) (w : World) (hr : Rd .i64 w A zs) (hl : zs.length ≤ 4194304) :
    Calls Try.prog 25 #[.slice A zs.length c, .int .i64 i] w (SlPost w (exchL zs i) (exchB zs i)) := by
  cases n1 : numB zs
  · exact (impl_Exch_a A c zs i w hr n1 hl).mono fun _ _ h => NoSl.post (exch_no (exchB_a n1)) (exchB_a n1) h
  cases n2 : inB i 0 ((zs.length : Int) - 2)
  · rcases inB_f n2 with h | h
    · exact (impl_Exch_b A c zs i w hr n1 h hl).mono fun _ _ h => NoSl.post (exch_no (exchB_b n2)) (exchB_b n2) h
    · by_cases h0 : i < 0
      · exact (impl_Exch_b A c zs i w hr n1 h0 hl).mono fun _ _ h => NoSl.post (exch_no (exchB_b n2)) (exchB_b n2) h
      · exact (impl_Exch_c A c zs i w hr n1 (by omega) (by omega) hl).mono fun _ _ h => NoSl.post (exch_no (exchB_b n2)) (exchB_b n2) h
  have ⟨i0, i1⟩ := inB_t n2
  obtain ⟨I, rfl⟩ := Int.eq_ofNat_of_zero_le i0
  have hI : I + 1 < zs.length := by omega
  cases n4 : (nth zs I == nth zs (I + 1))
  · have hb : exchB zs (I : Int) = true := exchB_y n1 n2 (by simpa using n4)
    rw [hb, exch_yes hb, Int.toNat_natCast]
    exact impl_Exch_e A c zs I w hr n1 hI n4 hl
  · have hb : exchB zs (I : Int) = false := exchB_d (by simpa using n4)
    exact (impl_Exch_d A c zs I w hr n1 hI n4 hl).mono fun _ _ h => NoSl.post (exch_no hb) hb h
set_option maxRecDepth 100000 in
set_option maxHeartbeats 1000000 in
theorem spec_Exch_a (A : Option Addr) (c : Nat) (zs : List Int) (i : Int) (w : World) (hr : Rd .i64 w A zs) (n1 : numB zs = false) (hl : zs.length ≤ 4194304) :
    Calls Try.prog 34 #[.slice A zs.length c, .int .i64 i] w (SlPost w [] false) := by
  go_enter Try.func34, Try.ntmps34
  go_wp2_with fail
  have hy := later_refl w
  refine wp_region_later (by kernel_rfl) (by kernel_rfl) ?_
  quiet_step (fail)
  refine wpQuiet_step (fun K hK => ?_)
  go_simp
  refine ⟨.bool (numB zs), fun x => later_same (x := x) ((spec_NumeralValid _ c zs x.val (hr.below x.bel) hl).mono fun e w' h => h), hK _ ?_⟩
  clear hK K
  rw [n1]
  repeat (go_big_quiet_step (fail))
  refine wpQuiet_nil ?_
  intro w' hw'
  obtain ⟨⟨w1, b1⟩, hw''⟩ := hw'
  obtain rfl : w' = w1 := hw''
  clear hy
  have hb1 := b1
  have be : Below w.heap.size w (w'.alloc (.cells #[] 3)) := hb1.alloc hb1.size _
  have hse : Sl (w'.alloc (.cells #[] 3)) w.heap.size (some ⟨w'.heap.size, 0, none⟩) 0 [] := Sl.empty w' w hb1.size
  go_wp2_with fail
  go_ret2
  exact ⟨_, 0, rfl, hse, be⟩

set_option maxRecDepth 100000 in
set_option maxHeartbeats 1000000 in
theorem spec_Exch_b (A : Option Addr) (c : Nat) (zs : List Int) (i : Int) (w : World) (hr : Rd .i64 w A zs) (n1 : numB zs = true) (n2 : inB i 0 ((zs.length : Int) - 2) = false) (hl : zs.length ≤ 4194304) :
    Calls Try.prog 34 #[.slice A zs.length c, .int .i64 i] w (SlPost w [] false) := by
  have l6 := (numB_t n1).2.1
  have v1 : IntKind.i64.wrap ((zs.length : Int) - 2) = (zs.length : Int) - 2 := IntWalk.i64_in _ (by omega)
  go_enter Try.func34, Try.ntmps34
  go_wp2_with fail
  have hy := later_refl w
  refine wp_region_later (by kernel_rfl) (by kernel_rfl) ?_
  quiet_step (fail)
  refine wpQuiet_step (fun K hK => ?_)
  go_simp
  refine ⟨.bool (numB zs), fun x => later_same (x := x) ((spec_NumeralValid _ c zs x.val (hr.below x.bel) hl).mono fun e w' h => h), hK _ ?_⟩
  clear hK K
  rw [n1]
  iterate 6 go_big_quiet_step (fail)
  refine wpQuiet_step (fun K hK => ?_)
  go_simp
  refine ⟨.bool (inB i 0 ((zs.length : Int) - 2)), fun x => later_same (x := x) ((l6In i 0 ((zs.length : Int) - 2) x.val).mono fun e w' h => h), hK _ ?_⟩
  clear hK K
  rw [n2]
  repeat (go_big_quiet_step (fail))
  refine wpQuiet_nil ?_
  intro w' hw'
  obtain ⟨⟨w1, b1⟩, hw''⟩ := hw'
  obtain rfl : w' = w1 := hw''
  clear hy
  have hb1 := b1
  have be : Below w.heap.size w (w'.alloc (.cells #[] 3)) := hb1.alloc hb1.size _
  have hse : Sl (w'.alloc (.cells #[] 3)) w.heap.size (some ⟨w'.heap.size, 0, none⟩) 0 [] := Sl.empty w' w hb1.size
  go_wp2_with fail
  go_ret2
  exact ⟨_, 0, rfl, hse, be⟩

set_option maxRecDepth 100000 in
set_option maxHeartbeats 1000000 in
theorem spec_Exch_d (A : Option Addr) (c : Nat) (zs : List Int) (I : Nat) (w : World) (hr : Rd .i64 w A zs) (n1 : numB zs = true) (hI : I + 1 < zs.length) (heq : (nth zs I == nth zs (I + 1)) = true) (hl : zs.length ≤ 4194304) :
    Calls Try.prog 34 #[.slice A zs.length c, .int .i64 (I : Int)] w (SlPost w [] false) := by
  have l6 := (numB_t n1).2.1
  have v1 : IntKind.i64.wrap ((zs.length : Int) - 2) = (zs.length : Int) - 2 := IntWalk.i64_in _ (by omega)
  have n2 : inB (I : Int) 0 ((zs.length : Int) - 2) = true := inB_of (by omega) (by omega)
  have hI2 : I + 1 < zs.length := hI
  obtain ⟨b, off, hA, hbl, hc⟩ := hr.at (i := I) (by omega)
  obtain ⟨b2, off2, hA2, hbl2, hc2⟩ := hr.at (i := I + 1) hI2
  rw [hA] at hA2
  injection hA2 with hA2
  injection hA2 with e1 e2
  subst e1 e2 hA
  have e1 := later_cell hc
  have e2 := later_cell hc2
  have v2 : IntKind.i64.wrap ((I : Int) + 1) = (I : Int) + 1 := IntWalk.i64_in _ (by omega)
  have u0 : 0 ≤ (I : Int) := by omega
  have u1 : (I : Int) < zs.length := by omega
  have u2 : 0 ≤ (I : Int) + 1 := by omega
  have u3 : (I : Int) + 1 < zs.length := by omega
  go_enter Try.func34, Try.ntmps34
  go_wp2_with fail
  have hy := later_refl w
  refine wp_region_later (by kernel_rfl) (by kernel_rfl) ?_
  quiet_step (fail)
  refine wpQuiet_step (fun K hK => ?_)
  go_simp
  refine ⟨.bool (numB zs), fun x => later_same (x := x) ((spec_NumeralValid _ c zs x.val (hr.below x.bel) hl).mono fun e w' h => h), hK _ ?_⟩
  clear hK K
  rw [n1]
  iterate 6 go_big_quiet_step (fail)
  refine wpQuiet_step (fun K hK => ?_)
  go_simp
  refine ⟨.bool (inB (I : Int) 0 ((zs.length : Int) - 2)), fun x => later_same (x := x) ((l6In (I : Int) 0 ((zs.length : Int) - 2) x.val).mono fun e w' h => h), hK _ ?_⟩
  clear hK K
  rw [n2]
  repeat (go_big_quiet_step (fail))
  refine wpQuiet_nil ?_
  intro w' hw'
  obtain ⟨⟨w1, b1⟩, hw''⟩ := hw'
  obtain rfl : w' = w1 := hw''
  clear hy
  have hb1 := b1
  have be : Below w.heap.size w (w'.alloc (.cells #[] 3)) := hb1.alloc hb1.size _
  have hse : Sl (w'.alloc (.cells #[] 3)) w.heap.size (some ⟨w'.heap.size, 0, none⟩) 0 [] := Sl.empty w' w hb1.size
  go_wp2_with fail
  go_ret2
  exact ⟨_, 0, rfl, hse, be⟩

set_option maxRecDepth 100000 in
set_option maxHeartbeats 1000000 in
theorem spec_Exch_e (A : Option Addr) (c : Nat) (zs : List Int) (I : Nat) (w : World) (hr : Rd .i64 w A zs) (n1 : numB zs = true) (hI : I + 1 < zs.length) (heq : (nth zs I == nth zs (I + 1)) = false) (hl : zs.length ≤ 4194304) :
    Calls Try.prog 34 #[.slice A zs.length c, .int .i64 (I : Int)] w (SlPost w ((zs.set I (nth zs (I + 1))).set (I + 1) (nth zs I)) true) := by
  have l6 := (numB_t n1).2.1
  have v1 : IntKind.i64.wrap ((zs.length : Int) - 2) = (zs.length : Int) - 2 := IntWalk.i64_in _ (by omega)
  have n2 : inB (I : Int) 0 ((zs.length : Int) - 2) = true := inB_of (by omega) (by omega)
  have hI2 : I + 1 < zs.length := hI
  obtain ⟨b, off, hA, hbl, hc⟩ := hr.at (i := I) (by omega)
  obtain ⟨b2, off2, hA2, hbl2, hc2⟩ := hr.at (i := I + 1) hI2
  rw [hA] at hA2
  injection hA2 with hA2
  injection hA2 with e1 e2
  subst e1 e2 hA
  have e1 := later_cell hc
  have e2 := later_cell hc2
  have v2 : IntKind.i64.wrap ((I : Int) + 1) = (I : Int) + 1 := IntWalk.i64_in _ (by omega)
  have u0 : 0 ≤ (I : Int) := by omega
  have u1 : (I : Int) < zs.length := by omega
  have u2 : 0 ≤ (I : Int) + 1 := by omega
  have u3 : (I : Int) + 1 < zs.length := by omega
  go_enter Try.func34, Try.ntmps34
  go_wp2_with fail
  have hy := later_refl w
  refine wp_region_later (by kernel_rfl) (by kernel_rfl) ?_
  quiet_step (fail)
  refine wpQuiet_step (fun K hK => ?_)
  go_simp
  refine ⟨.bool (numB zs), fun x => later_same (x := x) ((spec_NumeralValid _ c zs x.val (hr.below x.bel) hl).mono fun e w' h => h), hK _ ?_⟩
  clear hK K
  rw [n1]
  iterate 6 go_big_quiet_step (fail)
  refine wpQuiet_step (fun K hK => ?_)
  go_simp
  refine ⟨.bool (inB (I : Int) 0 ((zs.length : Int) - 2)), fun x => later_same (x := x) ((l6In (I : Int) 0 ((zs.length : Int) - 2) x.val).mono fun e w' h => h), hK _ ?_⟩
  clear hK K
  rw [n2]
  repeat (go_big_quiet_step (fail))
  refine wpQuiet_nil ?_
  intro w' hw'
  obtain ⟨⟨w1, b1⟩, hw''⟩ := hw'
  obtain rfl : w' = w1 := hw''
  clear hy
  have hb1 := b1
  have be : Below w.heap.size w (w'.alloc (.cells #[] 3)) := hb1.alloc hb1.size _
  have HE := Lib.hid (Sl.empty w' w hb1.size)
  have hrw := (hr.below hb1)
  have hzw := hb1.size
  have hk0 := cell_keep hc hb1
  have hk1 := cell_keep hc2 hb1
  clear e1 e2 hc hc2 b1
  go_wp2_with (at_builtin; refine wp_apS _ _ rfl rfl _ w.heap.size _ _ _ _ [] zs rfl rfl HE.out (hrw.alloc _) (fun h => by cases h) (by simp; omega) (by simp; omega) ?_; intro A2 c2 w2 s2 g2 _; refine Hid.out ?_)
  refine Lib.hid ?_
  rw [List.nil_append] at s2
  obtain ⟨g, rfl, hbg, hgl⟩ := s2.addr (by intro h0; rw [h0] at hI; simp at hI)
  have k0 := s2.cell (j := I) (by omega)
  have k1 := s2.cell (j := I + 1) hI2
  have f0 := s2.free I
  have f1 := s2.free (I + 1)
  have hbw : b < w'.heap.size := by omega
  have m0 : w2.cell? ⟨b, off + I, none⟩ = some (.int .i64 (nth zs I)) := g2.cell ((World.cell?_alloc_lt _ _ _ hbw).trans hk0) (by simp [blk]; omega)
  have m1 : w2.cell? ⟨b, off + (I + 1), none⟩ = some (.int .i64 (nth zs (I + 1))) := g2.cell ((World.cell?_alloc_lt _ _ _ hbw).trans hk1) (by simp [blk]; omega)
  have hbg2 : ¬ b = g := by omega
  have hb2 : b < w2.heap.size := by have := g2.size; simp at this; omega
  have HS := Lib.hid ((s2.set_ I (nth zs (I + 1))).set_ (I + 1) (nth zs I))
  have HB := Lib.hid (((be.grown g2 (by simp; omega) (fun k hk => (HE.out.lt k hk).1)).setCell (p := ⟨g, I, none⟩) (by simp; omega) (.int .i64 (nth zs (I + 1)))).setCell (p := ⟨g, I + 1, none⟩) (by simp; omega) (.int .i64 (nth zs I)))
  clear HE
  go_wp2_with fail
  go_ret2
  exact ⟨some ⟨g, 0, none⟩, c2, by simp, HS.out, HB.out⟩

theorem spec_NumeralExchange (A : Option Addr) (c : Nat) (zs : List Int) (i : Int) (w : World) (hr : Rd .i64 w A zs) (hl : zs.length ≤ 4194304) :
    Calls Try.prog 34 #[.slice A zs.length c, .int .i64 i] w (SlPost w (exchL zs i) (exchB zs i)) := by
  cases n1 : numB zs
  · rw [exch_no (exchB_a n1), exchB_a n1]; exact spec_Exch_a A c zs i w hr n1 hl
  cases n2 : inB i 0 ((zs.length : Int) - 2)
  · rw [exch_no (exchB_b n2), exchB_b n2]; exact spec_Exch_b A c zs i w hr n1 n2 hl
  have ⟨i0, i1⟩ := inB_t n2
  obtain ⟨I, rfl⟩ := Int.eq_ofNat_of_zero_le i0
  have hI : I + 1 < zs.length := by omega
  cases n4 : (nth zs I == nth zs (I + 1))
  · have hb : exchB zs (I : Int) = true := exchB_y n1 n2 (by simpa using n4)
    rw [hb, exch_yes hb, Int.toNat_natCast]
    exact spec_Exch_e A c zs I w hr n1 hI n4 hl
  · have hb : exchB zs (I : Int) = false := exchB_d (by simpa using n4)
    rw [exch_no hb, hb]
    exact spec_Exch_d A c zs I w hr n1 hI n4 hl
end Go.Proofs.Ytceigfdmaeanaab
