/- Contracts of NinesSum, NinesTimes, ElevensTimes, of the program and of the reference. -/
import Derived.Test.YtceigfdmaeanaabRest
import Derived.IntWalk
namespace Go.Proofs.Ytceigfdmaeanaab
open Go.RowKit

theorem sumClaim (x y : Int) (x0 : 0 ≤ x) (x1 : x ≤ 10) (y0 : 0 ≤ y) (y1 : y ≤ 10) (w : World) : Calls Try.prog 48 #[.int .i64 x, .int .i64 y] w fun e w' => e = .returned (.int .i64 (x + y)) ∧ w = w' := by
  go_enter Try.func48, Try.ntmps48
  go_wp2
  go_ret
  exact ⟨rfl, rfl⟩
theorem productClaim (x y : Int) (x0 : 0 ≤ x) (x1 : x ≤ 10) (y0 : 0 ≤ y) (y1 : y ≤ 10) (w : World) : Calls Try.prog 43 #[.int .i64 x, .int .i64 y] w fun e w' => e = .returned (.int .i64 (x * y)) ∧ w = w' := by
  have p0 : 0 ≤ x * y := Int.mul_nonneg x0 y0
  have p1 : x * y ≤ 10 * 10 := Int.mul_le_mul x1 y1 y0 (by omega)
  have v1 : IntKind.i64.wrap (x * y) = x * y := IntWalk.i64_in _ (by omega)
  go_enter Try.func43, Try.ntmps43
  go_wp2
  go_ret
  exact ⟨ret_int (by first | rfl | exact v1), rfl⟩
set_option maxRecDepth 100000 in
theorem l4Three (A B C : Option Addr) (c d e : Nat) (xs ys zs : List Int) (w : World) (ha : Rd .i64 w A xs) (hb : Rd .i64 w B ys) (hc : Rd .i64 w C zs) (la : xs.length ≤ 4194304) (lb : ys.length ≤ 4194304) (lc : zs.length ≤ 4194304) :
    Calls Try.prog 44 #[.slice A xs.length c, .slice B ys.length d, .slice C zs.length e] w fun e w' => e = .returned (.bool (numB xs && numB ys && numB zs)) ∧ w = w' := by
  cases n1 : numB xs
  · go_enter Try.func44, Try.ntmps44
    go_wp2_with fail
    refine (spec_NumeralValid _ _ _ _ ha la).mono ?_
    rintro e w' ⟨rfl, rfl⟩
    rw [n1]
    go_wp2_with fail
    go_ret
    exact ⟨rfl, rfl⟩
  cases n2 : numB ys
  · go_enter Try.func44, Try.ntmps44
    go_wp2_with fail
    refine (spec_NumeralValid _ _ _ _ ha la).mono ?_
    rintro e w' ⟨rfl, rfl⟩
    rw [n1]
    go_wp2_with fail
    refine (spec_NumeralValid _ _ _ _ hb lb).mono ?_
    rintro e w' ⟨rfl, rfl⟩
    rw [n2]
    go_wp2_with fail
    go_ret
    exact ⟨rfl, rfl⟩
  go_enter Try.func44, Try.ntmps44
  go_wp2_with fail
  refine (spec_NumeralValid _ _ _ _ ha la).mono ?_
  rintro e w' ⟨rfl, rfl⟩
  rw [n1]
  go_wp2_with fail
  refine (spec_NumeralValid _ _ _ _ hb lb).mono ?_
  rintro e w' ⟨rfl, rfl⟩
  rw [n2]
  go_wp2_with fail
  refine (spec_NumeralValid _ _ _ _ hc lc).mono ?_
  rintro e w' ⟨rfl, rfl⟩
  go_wp2_with fail
  go_ret
  exact ⟨rfl, rfl⟩
/-- The claim passes. -/
def nsumB (xs ys zs : List Int) : Bool := (numB xs && numB ys && numB zs) && (ninesV zs == (ninesV xs + ninesV ys) % 9)
set_option maxRecDepth 100000 in
set_option maxHeartbeats 2000000 in
theorem passes_nsum (A B C : Option Addr) (c d e : Nat) (xs ys zs : List Int) (w : World) (ha : Rd .i64 w A xs) (hb : Rd .i64 w B ys) (hc : Rd .i64 w C zs) (la : xs.length ≤ 4194304) (lb : ys.length ≤ 4194304) (lc : zs.length ≤ 4194304) :
    Calls Try.prog 42 #[.int .i64 9, .func (Fn.func 48) #[] #[], .slice A xs.length c, .slice B ys.length d, .slice C zs.length e] w fun e w' => e = .returned (.bool (nsumB xs ys zs)) ∧ Below w.heap.size w w' := by
  cases n1 : numB xs
  · have HV : Hid (nsumB xs ys zs = false) := Lib.hid (by simp [nsumB, n1])
    have hx : Hid (ninesV xs = -1) := Lib.hid (ninesV_no n1)
    go_enter Try.func42, Try.ntmps42
    go_wp2_with fail
    refine (restBy9 _).mono ?_
    rintro e w1 ⟨rfl, b1⟩
    go_wp2_with fail
    refine (impl_NinesOf _ _ _ _ (ha.below b1) la).mono ?_
    rintro e w2 ⟨rfl, b2⟩
    have r2 := bstep b1 b2
    clear b1 b2
    go_wp2_with fail
    refine (impl_NinesOf _ _ _ _ (hb.below r2) lb).mono ?_
    rintro e w3 ⟨rfl, b3⟩
    have r3 := bstep r2 b3
    clear r2 b3
    go_wp2_with fail
    refine (impl_NinesOf _ _ _ _ (hc.below r3) lc).mono ?_
    rintro e w4 ⟨rfl, b4⟩
    have r4 := bstep r3 b4
    clear r3 b4
    rw [hx.out]
    go_wp2_with fail
    go_ret
    exact ⟨ret_bool HV.out.symm, r4⟩
  have ⟨x0, x1⟩ := nines_bd n1
  have e1 : decide (ninesV xs < 0) = false := by simp; omega
  cases n2 : numB ys
  · have HV : Hid (nsumB xs ys zs = false) := Lib.hid (by simp [nsumB, n2])
    have hx : Hid (ninesV ys = -1) := Lib.hid (ninesV_no n2)
    go_enter Try.func42, Try.ntmps42
    go_wp2_with fail
    refine (restBy9 _).mono ?_
    rintro e w1 ⟨rfl, b1⟩
    go_wp2_with fail
    refine (impl_NinesOf _ _ _ _ (ha.below b1) la).mono ?_
    rintro e w2 ⟨rfl, b2⟩
    have r2 := bstep b1 b2
    clear b1 b2
    go_wp2_with fail
    refine (impl_NinesOf _ _ _ _ (hb.below r2) lb).mono ?_
    rintro e w3 ⟨rfl, b3⟩
    have r3 := bstep r2 b3
    clear r2 b3
    go_wp2_with fail
    refine (impl_NinesOf _ _ _ _ (hc.below r3) lc).mono ?_
    rintro e w4 ⟨rfl, b4⟩
    have r4 := bstep r3 b4
    clear r3 b4
    rw [hx.out]
    go_wp2_with fail
    go_ret
    exact ⟨ret_bool HV.out.symm, r4⟩
  have ⟨y0, y1⟩ := nines_bd n2
  have e2 : decide (ninesV ys < 0) = false := by simp; omega
  cases n3 : numB zs
  · have HV : Hid (nsumB xs ys zs = false) := Lib.hid (by simp [nsumB, n3])
    have hx : Hid (ninesV zs = -1) := Lib.hid (ninesV_no n3)
    go_enter Try.func42, Try.ntmps42
    go_wp2_with fail
    refine (restBy9 _).mono ?_
    rintro e w1 ⟨rfl, b1⟩
    go_wp2_with fail
    refine (impl_NinesOf _ _ _ _ (ha.below b1) la).mono ?_
    rintro e w2 ⟨rfl, b2⟩
    have r2 := bstep b1 b2
    clear b1 b2
    go_wp2_with fail
    refine (impl_NinesOf _ _ _ _ (hb.below r2) lb).mono ?_
    rintro e w3 ⟨rfl, b3⟩
    have r3 := bstep r2 b3
    clear r2 b3
    go_wp2_with fail
    refine (impl_NinesOf _ _ _ _ (hc.below r3) lc).mono ?_
    rintro e w4 ⟨rfl, b4⟩
    have r4 := bstep r3 b4
    clear r3 b4
    rw [hx.out]
    go_wp2_with fail
    go_ret
    exact ⟨ret_bool HV.out.symm, r4⟩
  have ⟨z0, z1⟩ := nines_bd n3
  have e3 : decide (ninesV zs < 0) = false := by simp; omega
  have HV : Hid (nsumB xs ys zs = (ninesV zs == (ninesV xs + ninesV ys) % 9)) := Lib.hid (by simp [nsumB, n1, n2, n3])
  go_enter Try.func42, Try.ntmps42
  go_wp2_with fail
  refine (restBy9 _).mono ?_
  rintro e w1 ⟨rfl, b1⟩
  go_wp2_with fail
  refine (impl_NinesOf _ _ _ _ (ha.below b1) la).mono ?_
  rintro e w2 ⟨rfl, b2⟩
  have r2 := bstep b1 b2
  clear b1 b2
  go_wp2_with fail
  refine (impl_NinesOf _ _ _ _ (hb.below r2) lb).mono ?_
  rintro e w3 ⟨rfl, b3⟩
  have r3 := bstep r2 b3
  clear r2 b3
  go_wp2_with fail
  refine (impl_NinesOf _ _ _ _ (hc.below r3) lc).mono ?_
  rintro e w4 ⟨rfl, b4⟩
  have r4 := bstep r3 b4
  clear r3 b4
  go_wp2_with fail
  refine (sumClaim _ _ x0 (by omega) y0 (by omega) _).mono ?_
  rintro e w5 ⟨rfl, rfl⟩
  go_wp2_with fail
  go_ret
  exact ⟨ret_bool HV.out.symm, r4⟩

theorem impl_NinesSum (A B C : Option Addr) (c d e : Nat) (xs ys zs : List Int) (w : World) (ha : Rd .i64 w A xs) (hb : Rd .i64 w B ys) (hc : Rd .i64 w C zs) (la : xs.length ≤ 4194304) (lb : ys.length ≤ 4194304) (lc : zs.length ≤ 4194304) :
    Calls Try.prog 20 #[.slice A xs.length c, .slice B ys.length d, .slice C zs.length e] w fun e w' => e = .returned (.bool (nsumB xs ys zs)) ∧ Below w.heap.size w w' := by
  go_enter Try.func20, Try.ntmps20
  go_wp2_with fail
  refine (passes_nsum _ _ _ _ _ _ _ _ _ _ ha hb hc la lb lc).mono ?_
  rintro e w1 ⟨rfl, b1⟩
  go_wp2_with fail
  go_ret
  exact ⟨rfl, b1⟩
set_option maxRecDepth 100000 in
theorem spec_NinesSum (A B C : Option Addr) (c d e : Nat) (xs ys zs : List Int) (w : World) (ha : Rd .i64 w A xs) (hb : Rd .i64 w B ys) (hc : Rd .i64 w C zs) (la : xs.length ≤ 4194304) (lb : ys.length ≤ 4194304) (lc : zs.length ≤ 4194304) :
    Calls Try.prog 21 #[.slice A xs.length c, .slice B ys.length d, .slice C zs.length e] w fun e w' => e = .returned (.bool (nsumB xs ys zs)) ∧ w = w' := by
  cases hn : (numB xs && numB ys && numB zs)
  · have HV : Hid (nsumB xs ys zs = false) := Lib.hid (by rw [nsumB, hn]; rfl)
    go_enter Try.func21, Try.ntmps21
    go_wp2_with fail
    refine (l4Three _ _ _ _ _ _ _ _ _ _ ha hb hc la lb lc).mono ?_
    rintro e w' ⟨rfl, rfl⟩
    rw [hn]
    go_wp2_with fail
    go_ret
    exact ⟨ret_bool HV.out.symm, rfl⟩
  have hn2 := hn
  simp only [Bool.and_eq_true] at hn2
  have ⟨x0, x1⟩ := nines_bd hn2.1.1
  have ⟨y0, y1⟩ := nines_bd hn2.1.2
  have ⟨z0, z1⟩ := nines_bd hn2.2
  have HV : Hid (nsumB xs ys zs = ((ninesV xs + ninesV ys) % 9 == ninesV zs)) := Lib.hid (by rw [nsumB, hn, Bool.true_and, Bool.beq_comm])
  go_enter Try.func21, Try.ntmps21
  go_wp2_with fail
  refine (l4Three _ _ _ _ _ _ _ _ _ _ ha hb hc la lb lc).mono ?_
  rintro e w' ⟨rfl, rfl⟩
  rw [hn]
  go_wp2_with fail
  refine (spec_NinesOf _ _ _ _ ha la).mono ?_
  rintro e w' ⟨rfl, rfl⟩
  go_wp2_with fail
  refine (spec_NinesOf _ _ _ _ hb lb).mono ?_
  rintro e w' ⟨rfl, rfl⟩
  go_wp2_with fail
  refine (spec_NinesOf _ _ _ _ hc lc).mono ?_
  rintro e w' ⟨rfl, rfl⟩
  go_wp2_with fail
  go_ret
  exact ⟨ret_bool HV.out.symm, rfl⟩

/-- The claim passes. -/
def ntimB (xs ys zs : List Int) : Bool := (numB xs && numB ys && numB zs) && (ninesV zs == (ninesV xs * ninesV ys) % 9)
set_option maxRecDepth 100000 in
set_option maxHeartbeats 2000000 in
theorem passes_ntim (A B C : Option Addr) (c d e : Nat) (xs ys zs : List Int) (w : World) (ha : Rd .i64 w A xs) (hb : Rd .i64 w B ys) (hc : Rd .i64 w C zs) (la : xs.length ≤ 4194304) (lb : ys.length ≤ 4194304) (lc : zs.length ≤ 4194304) :
    Calls Try.prog 42 #[.int .i64 9, .func (Fn.func 43) #[] #[], .slice A xs.length c, .slice B ys.length d, .slice C zs.length e] w fun e w' => e = .returned (.bool (ntimB xs ys zs)) ∧ Below w.heap.size w w' := by
  cases n1 : numB xs
  · have HV : Hid (ntimB xs ys zs = false) := Lib.hid (by simp [ntimB, n1])
    have hx : Hid (ninesV xs = -1) := Lib.hid (ninesV_no n1)
    go_enter Try.func42, Try.ntmps42
    go_wp2_with fail
    refine (restBy9 _).mono ?_
    rintro e w1 ⟨rfl, b1⟩
    go_wp2_with fail
    refine (impl_NinesOf _ _ _ _ (ha.below b1) la).mono ?_
    rintro e w2 ⟨rfl, b2⟩
    have r2 := bstep b1 b2
    clear b1 b2
    go_wp2_with fail
    refine (impl_NinesOf _ _ _ _ (hb.below r2) lb).mono ?_
    rintro e w3 ⟨rfl, b3⟩
    have r3 := bstep r2 b3
    clear r2 b3
    go_wp2_with fail
    refine (impl_NinesOf _ _ _ _ (hc.below r3) lc).mono ?_
    rintro e w4 ⟨rfl, b4⟩
    have r4 := bstep r3 b4
    clear r3 b4
    rw [hx.out]
    go_wp2_with fail
    go_ret
    exact ⟨ret_bool HV.out.symm, r4⟩
  have ⟨x0, x1⟩ := nines_bd n1
  have e1 : decide (ninesV xs < 0) = false := by simp; omega
  cases n2 : numB ys
  · have HV : Hid (ntimB xs ys zs = false) := Lib.hid (by simp [ntimB, n2])
    have hx : Hid (ninesV ys = -1) := Lib.hid (ninesV_no n2)
    go_enter Try.func42, Try.ntmps42
    go_wp2_with fail
    refine (restBy9 _).mono ?_
    rintro e w1 ⟨rfl, b1⟩
    go_wp2_with fail
    refine (impl_NinesOf _ _ _ _ (ha.below b1) la).mono ?_
    rintro e w2 ⟨rfl, b2⟩
    have r2 := bstep b1 b2
    clear b1 b2
    go_wp2_with fail
    refine (impl_NinesOf _ _ _ _ (hb.below r2) lb).mono ?_
    rintro e w3 ⟨rfl, b3⟩
    have r3 := bstep r2 b3
    clear r2 b3
    go_wp2_with fail
    refine (impl_NinesOf _ _ _ _ (hc.below r3) lc).mono ?_
    rintro e w4 ⟨rfl, b4⟩
    have r4 := bstep r3 b4
    clear r3 b4
    rw [hx.out]
    go_wp2_with fail
    go_ret
    exact ⟨ret_bool HV.out.symm, r4⟩
  have ⟨y0, y1⟩ := nines_bd n2
  have e2 : decide (ninesV ys < 0) = false := by simp; omega
  cases n3 : numB zs
  · have HV : Hid (ntimB xs ys zs = false) := Lib.hid (by simp [ntimB, n3])
    have hx : Hid (ninesV zs = -1) := Lib.hid (ninesV_no n3)
    go_enter Try.func42, Try.ntmps42
    go_wp2_with fail
    refine (restBy9 _).mono ?_
    rintro e w1 ⟨rfl, b1⟩
    go_wp2_with fail
    refine (impl_NinesOf _ _ _ _ (ha.below b1) la).mono ?_
    rintro e w2 ⟨rfl, b2⟩
    have r2 := bstep b1 b2
    clear b1 b2
    go_wp2_with fail
    refine (impl_NinesOf _ _ _ _ (hb.below r2) lb).mono ?_
    rintro e w3 ⟨rfl, b3⟩
    have r3 := bstep r2 b3
    clear r2 b3
    go_wp2_with fail
    refine (impl_NinesOf _ _ _ _ (hc.below r3) lc).mono ?_
    rintro e w4 ⟨rfl, b4⟩
    have r4 := bstep r3 b4
    clear r3 b4
    rw [hx.out]
    go_wp2_with fail
    go_ret
    exact ⟨ret_bool HV.out.symm, r4⟩
  have ⟨z0, z1⟩ := nines_bd n3
  have e3 : decide (ninesV zs < 0) = false := by simp; omega
  have HV : Hid (ntimB xs ys zs = (ninesV zs == (ninesV xs * ninesV ys) % 9)) := Lib.hid (by simp [ntimB, n1, n2, n3])
  go_enter Try.func42, Try.ntmps42
  go_wp2_with fail
  refine (restBy9 _).mono ?_
  rintro e w1 ⟨rfl, b1⟩
  go_wp2_with fail
  refine (impl_NinesOf _ _ _ _ (ha.below b1) la).mono ?_
  rintro e w2 ⟨rfl, b2⟩
  have r2 := bstep b1 b2
  clear b1 b2
  go_wp2_with fail
  refine (impl_NinesOf _ _ _ _ (hb.below r2) lb).mono ?_
  rintro e w3 ⟨rfl, b3⟩
  have r3 := bstep r2 b3
  clear r2 b3
  go_wp2_with fail
  refine (impl_NinesOf _ _ _ _ (hc.below r3) lc).mono ?_
  rintro e w4 ⟨rfl, b4⟩
  have r4 := bstep r3 b4
  clear r3 b4
  go_wp2_with fail
  refine (productClaim _ _ x0 (by omega) y0 (by omega) _).mono ?_
  rintro e w5 ⟨rfl, rfl⟩
  have p0 : 0 ≤ ninesV xs * ninesV ys := Int.mul_nonneg x0 y0
  go_wp2_with fail
  go_ret
  exact ⟨ret_bool HV.out.symm, r4⟩

theorem impl_NinesTimes (A B C : Option Addr) (c d e : Nat) (xs ys zs : List Int) (w : World) (ha : Rd .i64 w A xs) (hb : Rd .i64 w B ys) (hc : Rd .i64 w C zs) (la : xs.length ≤ 4194304) (lb : ys.length ≤ 4194304) (lc : zs.length ≤ 4194304) :
    Calls Try.prog 18 #[.slice A xs.length c, .slice B ys.length d, .slice C zs.length e] w fun e w' => e = .returned (.bool (ntimB xs ys zs)) ∧ Below w.heap.size w w' := by
  go_enter Try.func18, Try.ntmps18
  go_wp2_with fail
  refine (passes_ntim _ _ _ _ _ _ _ _ _ _ ha hb hc la lb lc).mono ?_
  rintro e w1 ⟨rfl, b1⟩
  go_wp2_with fail
  go_ret
  exact ⟨rfl, b1⟩
set_option maxRecDepth 100000 in
theorem spec_NinesTimes (A B C : Option Addr) (c d e : Nat) (xs ys zs : List Int) (w : World) (ha : Rd .i64 w A xs) (hb : Rd .i64 w B ys) (hc : Rd .i64 w C zs) (la : xs.length ≤ 4194304) (lb : ys.length ≤ 4194304) (lc : zs.length ≤ 4194304) :
    Calls Try.prog 24 #[.slice A xs.length c, .slice B ys.length d, .slice C zs.length e] w fun e w' => e = .returned (.bool (ntimB xs ys zs)) ∧ w = w' := by
  cases hn : (numB xs && numB ys && numB zs)
  · have HV : Hid (ntimB xs ys zs = false) := Lib.hid (by rw [ntimB, hn]; rfl)
    go_enter Try.func24, Try.ntmps24
    go_wp2_with fail
    refine (l4Three _ _ _ _ _ _ _ _ _ _ ha hb hc la lb lc).mono ?_
    rintro e w' ⟨rfl, rfl⟩
    rw [hn]
    go_wp2_with fail
    go_ret
    exact ⟨ret_bool HV.out.symm, rfl⟩
  have hn2 := hn
  simp only [Bool.and_eq_true] at hn2
  have ⟨x0, x1⟩ := nines_bd hn2.1.1
  have ⟨y0, y1⟩ := nines_bd hn2.1.2
  have ⟨z0, z1⟩ := nines_bd hn2.2
  have HV : Hid (ntimB xs ys zs = ((ninesV xs * ninesV ys) % 9 == ninesV zs)) := Lib.hid (by rw [ntimB, hn, Bool.true_and, Bool.beq_comm])
  have p0 : 0 ≤ ninesV xs * ninesV ys := Int.mul_nonneg x0 y0
  have p1 : ninesV xs * ninesV ys ≤ 10 * 10 := Int.mul_le_mul (by omega) (by omega) y0 (by omega)
  have v1 : IntKind.i64.wrap (ninesV xs * ninesV ys) = ninesV xs * ninesV ys := IntWalk.i64_in _ (by omega)
  go_enter Try.func24, Try.ntmps24
  go_wp2_with fail
  refine (l4Three _ _ _ _ _ _ _ _ _ _ ha hb hc la lb lc).mono ?_
  rintro e w' ⟨rfl, rfl⟩
  rw [hn]
  go_wp2_with fail
  refine (spec_NinesOf _ _ _ _ ha la).mono ?_
  rintro e w' ⟨rfl, rfl⟩
  go_wp2_with fail
  refine (spec_NinesOf _ _ _ _ hb lb).mono ?_
  rintro e w' ⟨rfl, rfl⟩
  go_wp2_with fail
  refine (spec_NinesOf _ _ _ _ hc lc).mono ?_
  rintro e w' ⟨rfl, rfl⟩
  go_wp2_with fail
  go_ret
  exact ⟨ret_bool HV.out.symm, rfl⟩

/-- The claim passes. -/
def etimB (xs ys zs : List Int) : Bool := (numB xs && numB ys && numB zs) && (elevV zs == (elevV xs * elevV ys) % 11)
set_option maxRecDepth 100000 in
set_option maxHeartbeats 2000000 in
theorem passes_etim (A B C : Option Addr) (c d e : Nat) (xs ys zs : List Int) (w : World) (ha : Rd .i64 w A xs) (hb : Rd .i64 w B ys) (hc : Rd .i64 w C zs) (la : xs.length ≤ 4194304) (lb : ys.length ≤ 4194304) (lc : zs.length ≤ 4194304) :
    Calls Try.prog 42 #[.int .i64 11, .func (Fn.func 43) #[] #[], .slice A xs.length c, .slice B ys.length d, .slice C zs.length e] w fun e w' => e = .returned (.bool (etimB xs ys zs)) ∧ Below w.heap.size w w' := by
  cases n1 : numB xs
  · have HV : Hid (etimB xs ys zs = false) := Lib.hid (by simp [etimB, n1])
    have hx : Hid (elevV xs = -1) := Lib.hid (elevV_no n1)
    go_enter Try.func42, Try.ntmps42
    go_wp2_with fail
    refine (restBy11 _).mono ?_
    rintro e w1 ⟨rfl, b1⟩
    go_wp2_with fail
    refine (impl_ElevensOf _ _ _ _ (ha.below b1) la).mono ?_
    rintro e w2 ⟨rfl, b2⟩
    have r2 := bstep b1 b2
    clear b1 b2
    go_wp2_with fail
    refine (impl_ElevensOf _ _ _ _ (hb.below r2) lb).mono ?_
    rintro e w3 ⟨rfl, b3⟩
    have r3 := bstep r2 b3
    clear r2 b3
    go_wp2_with fail
    refine (impl_ElevensOf _ _ _ _ (hc.below r3) lc).mono ?_
    rintro e w4 ⟨rfl, b4⟩
    have r4 := bstep r3 b4
    clear r3 b4
    rw [hx.out]
    go_wp2_with fail
    go_ret
    exact ⟨ret_bool HV.out.symm, r4⟩
  have ⟨x0, x1⟩ := elev_bd n1
  have e1 : decide (elevV xs < 0) = false := by simp; omega
  cases n2 : numB ys
  · have HV : Hid (etimB xs ys zs = false) := Lib.hid (by simp [etimB, n2])
    have hx : Hid (elevV ys = -1) := Lib.hid (elevV_no n2)
    go_enter Try.func42, Try.ntmps42
    go_wp2_with fail
    refine (restBy11 _).mono ?_
    rintro e w1 ⟨rfl, b1⟩
    go_wp2_with fail
    refine (impl_ElevensOf _ _ _ _ (ha.below b1) la).mono ?_
    rintro e w2 ⟨rfl, b2⟩
    have r2 := bstep b1 b2
    clear b1 b2
    go_wp2_with fail
    refine (impl_ElevensOf _ _ _ _ (hb.below r2) lb).mono ?_
    rintro e w3 ⟨rfl, b3⟩
    have r3 := bstep r2 b3
    clear r2 b3
    go_wp2_with fail
    refine (impl_ElevensOf _ _ _ _ (hc.below r3) lc).mono ?_
    rintro e w4 ⟨rfl, b4⟩
    have r4 := bstep r3 b4
    clear r3 b4
    rw [hx.out]
    go_wp2_with fail
    go_ret
    exact ⟨ret_bool HV.out.symm, r4⟩
  have ⟨y0, y1⟩ := elev_bd n2
  have e2 : decide (elevV ys < 0) = false := by simp; omega
  cases n3 : numB zs
  · have HV : Hid (etimB xs ys zs = false) := Lib.hid (by simp [etimB, n3])
    have hx : Hid (elevV zs = -1) := Lib.hid (elevV_no n3)
    go_enter Try.func42, Try.ntmps42
    go_wp2_with fail
    refine (restBy11 _).mono ?_
    rintro e w1 ⟨rfl, b1⟩
    go_wp2_with fail
    refine (impl_ElevensOf _ _ _ _ (ha.below b1) la).mono ?_
    rintro e w2 ⟨rfl, b2⟩
    have r2 := bstep b1 b2
    clear b1 b2
    go_wp2_with fail
    refine (impl_ElevensOf _ _ _ _ (hb.below r2) lb).mono ?_
    rintro e w3 ⟨rfl, b3⟩
    have r3 := bstep r2 b3
    clear r2 b3
    go_wp2_with fail
    refine (impl_ElevensOf _ _ _ _ (hc.below r3) lc).mono ?_
    rintro e w4 ⟨rfl, b4⟩
    have r4 := bstep r3 b4
    clear r3 b4
    rw [hx.out]
    go_wp2_with fail
    go_ret
    exact ⟨ret_bool HV.out.symm, r4⟩
  have ⟨z0, z1⟩ := elev_bd n3
  have e3 : decide (elevV zs < 0) = false := by simp; omega
  have HV : Hid (etimB xs ys zs = (elevV zs == (elevV xs * elevV ys) % 11)) := Lib.hid (by simp [etimB, n1, n2, n3])
  go_enter Try.func42, Try.ntmps42
  go_wp2_with fail
  refine (restBy11 _).mono ?_
  rintro e w1 ⟨rfl, b1⟩
  go_wp2_with fail
  refine (impl_ElevensOf _ _ _ _ (ha.below b1) la).mono ?_
  rintro e w2 ⟨rfl, b2⟩
  have r2 := bstep b1 b2
  clear b1 b2
  go_wp2_with fail
  refine (impl_ElevensOf _ _ _ _ (hb.below r2) lb).mono ?_
  rintro e w3 ⟨rfl, b3⟩
  have r3 := bstep r2 b3
  clear r2 b3
  go_wp2_with fail
  refine (impl_ElevensOf _ _ _ _ (hc.below r3) lc).mono ?_
  rintro e w4 ⟨rfl, b4⟩
  have r4 := bstep r3 b4
  clear r3 b4
  go_wp2_with fail
  refine (productClaim _ _ x0 (by omega) y0 (by omega) _).mono ?_
  rintro e w5 ⟨rfl, rfl⟩
  have p0 : 0 ≤ elevV xs * elevV ys := Int.mul_nonneg x0 y0
  go_wp2_with fail
  go_ret
  exact ⟨ret_bool HV.out.symm, r4⟩

theorem impl_ElevensTimes (A B C : Option Addr) (c d e : Nat) (xs ys zs : List Int) (w : World) (ha : Rd .i64 w A xs) (hb : Rd .i64 w B ys) (hc : Rd .i64 w C zs) (la : xs.length ≤ 4194304) (lb : ys.length ≤ 4194304) (lc : zs.length ≤ 4194304) :
    Calls Try.prog 15 #[.slice A xs.length c, .slice B ys.length d, .slice C zs.length e] w fun e w' => e = .returned (.bool (etimB xs ys zs)) ∧ Below w.heap.size w w' := by
  go_enter Try.func15, Try.ntmps15
  go_wp2_with fail
  refine (passes_etim _ _ _ _ _ _ _ _ _ _ ha hb hc la lb lc).mono ?_
  rintro e w1 ⟨rfl, b1⟩
  go_wp2_with fail
  go_ret
  exact ⟨rfl, b1⟩
set_option maxRecDepth 100000 in
theorem spec_ElevensTimes (A B C : Option Addr) (c d e : Nat) (xs ys zs : List Int) (w : World) (ha : Rd .i64 w A xs) (hb : Rd .i64 w B ys) (hc : Rd .i64 w C zs) (la : xs.length ≤ 4194304) (lb : ys.length ≤ 4194304) (lc : zs.length ≤ 4194304) :
    Calls Try.prog 16 #[.slice A xs.length c, .slice B ys.length d, .slice C zs.length e] w fun e w' => e = .returned (.bool (etimB xs ys zs)) ∧ w = w' := by
  cases hn : (numB xs && numB ys && numB zs)
  · have HV : Hid (etimB xs ys zs = false) := Lib.hid (by rw [etimB, hn]; rfl)
    go_enter Try.func16, Try.ntmps16
    go_wp2_with fail
    refine (l4Three _ _ _ _ _ _ _ _ _ _ ha hb hc la lb lc).mono ?_
    rintro e w' ⟨rfl, rfl⟩
    rw [hn]
    go_wp2_with fail
    go_ret
    exact ⟨ret_bool HV.out.symm, rfl⟩
  have hn2 := hn
  simp only [Bool.and_eq_true] at hn2
  have ⟨x0, x1⟩ := elev_bd hn2.1.1
  have ⟨y0, y1⟩ := elev_bd hn2.1.2
  have ⟨z0, z1⟩ := elev_bd hn2.2
  have HV : Hid (etimB xs ys zs = ((elevV xs * elevV ys) % 11 == elevV zs)) := Lib.hid (by rw [etimB, hn, Bool.true_and, Bool.beq_comm])
  have p0 : 0 ≤ elevV xs * elevV ys := Int.mul_nonneg x0 y0
  have p1 : elevV xs * elevV ys ≤ 10 * 10 := Int.mul_le_mul (by omega) (by omega) y0 (by omega)
  have v1 : IntKind.i64.wrap (elevV xs * elevV ys) = elevV xs * elevV ys := IntWalk.i64_in _ (by omega)
  go_enter Try.func16, Try.ntmps16
  go_wp2_with fail
  refine (l4Three _ _ _ _ _ _ _ _ _ _ ha hb hc la lb lc).mono ?_
  rintro e w' ⟨rfl, rfl⟩
  rw [hn]
  go_wp2_with fail
  refine (spec_ElevensOf _ _ _ _ ha la).mono ?_
  rintro e w' ⟨rfl, rfl⟩
  go_wp2_with fail
  refine (spec_ElevensOf _ _ _ _ hb lb).mono ?_
  rintro e w' ⟨rfl, rfl⟩
  go_wp2_with fail
  refine (spec_ElevensOf _ _ _ _ hc lc).mono ?_
  rintro e w' ⟨rfl, rfl⟩
  go_wp2_with fail
  go_ret
  exact ⟨ret_bool HV.out.symm, rfl⟩

end Go.Proofs.Ytceigfdmaeanaab
