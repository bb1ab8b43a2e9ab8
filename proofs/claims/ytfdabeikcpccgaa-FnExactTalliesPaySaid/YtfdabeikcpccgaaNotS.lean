/- Contracts of NotchesValid and NotchesWorth, of the program and of the reference. -/
import Derived.Test.YtfdabeikcpccgaaNot
import Derived.Test.YtfdabeikcpccgaaNotQ
import Derived.Test.YtfdabeikcpccgaaPow
namespace Go.Proofs.Ytfdabeikcpccgaa
open Go.RowKit

section
variable {P : Program} {f : FuncId} {args : Array Value} {w : World} {a n : Nat} {v : Value}
theorem quiet_left' (h : Calls P f args (w.drewN n) fun e w' => e = .returned v ∧ w.drewN n = w') : Calls P f args (w.drewN n) fun e w'' => e = .returned v ∧ ∃ m, w'' = w.drewN m :=
  h.mono fun _ _ ⟨he, hm⟩ => ⟨he, n, hm.symm⟩
theorem quiet_left2 (h : Calls P f args (w.drewN (a + n)) fun e w' => e = .returned v ∧ w.drewN (a + n) = w') : Calls P f args (w.drewN (a + n)) fun e w'' => e = .returned v ∧ ∃ m, w'' = w.drewN (a + m) :=
  h.mono fun _ _ ⟨he, hm⟩ => ⟨he, n, hm.symm⟩
end

def NvInv (s : ByteArray) (w : World) (q i : Value) (wr : World) : Prop :=
  ∃ (k m : Nat) (t : NSt), k ≤ s.size ∧ t.ok k ∧ i = .int .i64 k ∧ q = .int .i64 t.cnt ∧ Hid (nrun nst0 s.data.toList = nrun t (s.data.toList.drop k)) ∧ Hid (k = 0 → t.l = 0) ∧ Hid (∀ j (h : j < s.size), k = j + 1 → s[j].toNat = let4 t.l) ∧ wr = w.drewN m

theorem nv_next {s : ByteArray} {w : World} {k m n : Nat} {t : NSt} (hk : k < s.size) (ht : t.ok k) (HR : Hid (nrun nst0 s.data.toList = nrun t (s.data.toList.drop k))) (ho : Onto t s[k].toNat n) {q i : Value} (hi : i = .int .i64 ((k + 1 : Nat) : Int)) (hq : q = .int .i64 (n : Int)) : NvInv s w q i (w.drewN m) := by
  obtain ⟨t', h1, h2, h3⟩ := ho
  refine ⟨k + 1, m, t', by omega, nstep_ok ht h1, hi, by rw [hq, h2], Lib.hid (by rw [HR.out, drop_cons s k hk, nrun_some h1]), Lib.hid (fun h => by omega), Lib.hid (fun j hj he => ?_), rfl⟩
  obtain rfl : k = j := by omega
  exact h3.symm

theorem nv_no {s : ByteArray} {k : Nat} {t : NSt} (hk : k < s.size) (HR : Hid (nrun nst0 s.data.toList = nrun t (s.data.toList.drop k))) (h : nstep t s[k].toNat = none) : false = notB s :=
  (notB_none (by rw [HR.out, drop_cons s k hk, nrun_none h])).symm

set_option maxRecDepth 100000 in
set_option maxHeartbeats 1000000 in
theorem spec_NotchesValid (s : ByteArray) (w : World) (hs : s.size ≤ 1048576) :
    Calls Try.prog 14 #[.string s] w fun e w' => e = .returned (.bool (notB s)) ∧ ∃ n, w' = w.drewN n := by
  go_enter Try.func14, Try.ntmps14
  go_wp2
  go_loopw [3, 4] (fun q i wr => NvInv s w q i wr) (fun _ i _ => s.size - (intOf i).toNat)
  case atStart => exact ⟨0, 0, nst0, Nat.zero_le _, nst0_ok, rfl, rfl, Lib.hid (by simp), Lib.hid (fun _ => rfl), Lib.hid (fun _ _ h => by omega), rfl⟩
  case round =>
    obtain ⟨k, m, t, hk, ht, rfl, rfl, HR, H0, HP, rfl⟩ := hrel
    have c9 := ht.cnt9
    by_cases hlt : k < s.size
    · by_cases hz : lw s[k].toNat = 0
      · have b1 : (lw s[k].toNat == 0) = true := by rw [hz]; rfl
        have HS := Lib.hid (sp_none (t := t) hz)
        clear hz
        go_wp2
        go_quiet ((go_at_call 42; exact quiet_left2 (l6yWorth _ _)))
        go_wp2
        go_ret
        exact ⟨ret_bool (nv_no hlt HR HS.out), _, World.drewN_drewN _ _ _⟩
      · have b1 : (lw s[k].toNat == 0) = false := beq_eq_false_iff_ne.2 hz
        rcases k with _ | j
        · have HO := Lib.hid (sp_first ht (H0.out rfl) hz)
          have hc0 : t.cnt = 0 := by have := ht.k0; unfold NSt.cnt; split <;> (try split) <;> (try split) <;> omega
          rw [hc0]
          clear hz hc0
          go_wp2
          go_quiet ((go_at_call 42; exact quiet_left2 (l6yWorth _ _)))
          go_wp2
          go_quiet (fail)
          go_wp2
          go_roundw
          case rel => exact nv_next hlt ht HR HO.out (by go_num) (by go_num)
          case measure => simp [intOf]; omega
        · have hj : j < s.size := by omega
          have hp := HP.out j hj rfl
          have t1 : ((j : Int) + 1).toNat = j + 1 := by omega
          have t2 : 0 ≤ (j : Int) + 1 := by omega
          have t3 : (j : Int) + 1 < s.size := by omega
          have t4 : (j : Int) < s.size := by omega
          have t5 : 0 < (j : Int) + 1 := by omega
          have wj : IntKind.i64.wrap ((j : Int) + 1 - 1) = (j : Int) := by rw [IntWalk.i64_in _ (by omega)]; omega
          by_cases hup : lw s[j].toNat < lw s[j + 1].toNat
          · have HS := Lib.hid (sp_up ht (by rw [← hp]; exact hup))
            clear hp hz
            go_wp2
            go_quiet ((go_at_call 42; exact quiet_left2 (l6yWorth _ _)))
            clear wj
            go_wp2
            go_ret
            exact ⟨ret_bool (nv_no hlt HR HS.out), _, World.drewN_drewN _ _ _⟩
          · have d1 : decide (lw s[j].toNat < lw s[j + 1].toNat) = false := by simpa using hup
            by_cases hne : s[j + 1].toNat = s[j].toNat
            · have b3 : (((s[j + 1].toNat : Nat) : Int) != ((s[j].toNat : Nat) : Int)) = false := by simp [hne]
              by_cases hc : t.cnt < 9
              · have HO := Lib.hid (sp_same (x := s[j + 1].toNat) ht (hne.trans hp) hc)
                clear hp hz hup hne
                go_wp2
                go_quiet ((go_at_call 42; exact quiet_left2 (l6yWorth _ _)))
                go_wp2
                go_quiet (fail)
                clear wj
                go_wp2
                go_roundw
                case rel => exact nv_next hlt ht HR HO.out (by go_num) (by go_num)
                case measure => simp [intOf]; omega
              · have HS := Lib.hid (sp_full (x := s[j + 1].toNat) ht (hne.trans hp) hc)
                clear hp hz hup hne
                go_wp2
                go_quiet ((go_at_call 42; exact quiet_left2 (l6yWorth _ _)))
                go_wp2
                go_quiet (fail)
                clear wj
                go_wp2
                go_ret
                exact ⟨ret_bool (nv_no hlt HR HS.out), _, rfl⟩
            · have b3 : (((s[j + 1].toNat : Nat) : Int) != ((s[j].toNat : Nat) : Int)) = true := by simp; omega
              have HO := Lib.hid (sp_down ht hz (by rw [← hp]; exact hup) (by rw [← hp]; exact hne))
              clear hp hz hup hne
              go_wp2
              go_quiet ((go_at_call 42; exact quiet_left2 (l6yWorth _ _)))
              go_wp2
              go_quiet (fail)
              clear wj
              go_wp2
              go_roundw
              case rel => exact nv_next hlt ht HR HO.out (by go_num) (by go_num)
              case measure => simp [intOf]; omega
    · obtain rfl : k = s.size := by omega
      have hn : nrun nst0 s.data.toList = some t := by rw [HR.out, drop_all s _ hlt]; rfl
      have HN := Lib.hid (notB_some hn)
      have h36 : s.size ≤ 36 := by have := ht.a9; have := ht.b9; have := ht.c9; have := ht.d9; have := ht.k0; omega
      clear hn
      go_wp2
      go_ret
      exact ⟨ret_bool (by rw [HN.out]; simp; omega), _, rfl⟩

theorem impl_NotchesValid (s : ByteArray) (w : World) (hs : s.size ≤ 1048576) :
    Calls Try.prog 15 #[.string s] w fun e w' => e = .returned (.bool (notB s)) ∧ Below w.heap.size w w' := by
  go_enter Try.func15, Try.ntmps15
  go_wp2_with fail
  refine (notchCounts _ _ hs).mono ?_
  rintro e w1 ⟨t, rfl, ht, b1⟩
  have HT := Lib.hid ht
  clear ht
  go_wp2
  go_ret
  exact ⟨rfl, b1.alloc b1.size _⟩

theorem spec_l6ySum (s : ByteArray) (w : World) (hs : s.size ≤ 1048576) :
    Calls Try.prog 44 #[.string s] w fun e w' => e = .returned (.int .i64 (lsum s.data.toList)) ∧ w = w' := by
  go_enter Try.func44, Try.ntmps44
  go_wp2
  go_loop [3, 4] (fun q i => ∃ k : Nat, k ≤ s.size ∧ i = .int .i64 k ∧ q = .int .i64 (lsum (s.data.toList.take k))) (fun _ i => s.size - (intOf i).toNat)
  case atStart => exact ⟨0, Nat.zero_le _, rfl, rfl⟩
  case round =>
    obtain ⟨k, hk, rfl, rfl⟩ := hrel
    have hd := lsum_bd (s.data.toList.take k)
    have hl : (s.data.toList.take k).length ≤ k := List.length_take_le _ _
    by_cases hlt : k < s.size
    · have hb := lw_bd s[k].toNat
      have HS : Hid (lsum (s.data.toList.take (k + 1)) = lsum (s.data.toList.take k) + lw s[k].toNat) := Lib.hid (by
        rw [List.take_succ_eq_append_getElem (by simpa using hlt), lsum_snoc]; rfl)
      go_wp2_with fail
      refine (l6yWorth _ _).mono ?_
      rintro e w' ⟨rfl, rfl⟩
      go_wp2
      go_round
      case rel => exact ⟨k + 1, by omega, by go_num, by rw [HS.out]⟩
      case measure => simp [intOf]; omega
    · go_wp2
      go_ret
      exact ⟨ret_int (by rw [List.take_of_length_le (by simp; omega)]), rfl⟩

theorem spec_NotchesWorth (s : ByteArray) (w : World) (hs : s.size ≤ 1048576) :
    Calls Try.prog 16 #[.string s] w fun e w' => e = .returned (.int .i64 (notW s)) ∧ ∃ n, w' = w.drewN n := by
  go_enter Try.func16, Try.ntmps16
  go_wp2_with fail
  refine (spec_NotchesValid _ _ hs).mono ?_
  rintro e w1 ⟨rfl, n, rfl⟩
  cases hb : notB s
  · have HB := Lib.hid hb
    clear hb
    go_wp2
    go_ret
    exact ⟨ret_int (by simp [notW, HB.out]), n, rfl⟩
  · have HB := Lib.hid hb
    clear hb
    go_wp2_with fail
    refine (spec_l6ySum _ _ hs).mono ?_
    rintro e w' ⟨rfl, rfl⟩
    go_wp2
    go_ret
    exact ⟨ret_int (by simp [notW, HB.out]), n, rfl⟩

/-- The worth of the letter with an index. -/
def lwI (i : Int) : Int := p10 (3 - i).toNat
theorem letterWorth (i : Int) (w : World) (h0 : 0 ≤ i) (h3 : i ≤ 3) :
    Calls Try.prog 45 #[.int .i64 i] w fun e w' => e = .returned (.int .i64 (lwI i)) ∧ w = w' := by
  obtain ⟨n, hn, hn3⟩ : ∃ n : Nat, 3 - i = (n : Int) ∧ n ≤ 3 := ⟨(3 - i).toNat, by omega, by omega⟩
  have HI : Hid (lwI i = p10 n) := Lib.hid (by rw [lwI, hn]; rfl)
  obtain rfl : i = 3 - (n : Int) := by omega
  clear hn
  go_enter Try.func45, Try.ntmps45
  go_wp2_with fail
  rw [show (3 : Int) - (3 - (n : Int)) = n by omega]
  refine (powerOfTen n (by omega) _).mono ?_
  rintro e w' ⟨rfl, rfl⟩
  go_wp2
  go_ret
  exact ⟨ret_int HI.out.symm, rfl⟩

/-- The worth of the first k letters' counts. -/
def NSt.part (t : NSt) (k : Nat) : Int := (if 0 < k then (t.a : Int) * 1000 else 0) + (if 1 < k then (t.b : Int) * 100 else 0) + (if 2 < k then (t.c : Int) * 10 else 0) + (if 3 < k then (t.d : Int) * 1 else 0)

set_option maxRecDepth 100000 in
theorem impl_NotchesWorth (s : ByteArray) (w : World) (hs : s.size ≤ 1048576) :
    Calls Try.prog 17 #[.string s] w fun e w' => e = .returned (.int .i64 (notW s)) ∧ Below w.heap.size w w' := by
  go_enter Try.func17, Try.ntmps17
  go_wp2_with fail
  refine (notchCounts _ _ hs).mono ?_
  rintro e w1 ⟨t, rfl, ht, b1⟩
  cases hb : notB s
  · have HB := Lib.hid hb
    have HT := Lib.hid ht
    clear hb ht
    go_wp2
    go_ret
    exact ⟨ret_int (by simp [notW, HB.out]), b1.alloc b1.size _⟩
  · have hr := ht hb
    have ok := nrun_ok nst0_ok hr
    have a9 := ok.a9
    have b9 := ok.b9
    have c9 := ok.c9
    have d9 := ok.d9
    have HW := Lib.hid (notW_some hr)
    clear hr hb ht ok
    have i0 : ∀ w, (Instr.index 56 (.agg #[.int .i64 t.a, .int .i64 t.b, .int .i64 t.c, .int .i64 t.d]) (.int .i64 0)).run Try.prog w = .ok (.int .i64 t.a) w := fun _ => by kernel_rfl
    have i1 : ∀ w, (Instr.index 56 (.agg #[.int .i64 t.a, .int .i64 t.b, .int .i64 t.c, .int .i64 t.d]) (.int .i64 1)).run Try.prog w = .ok (.int .i64 t.b) w := fun _ => by kernel_rfl
    have i2 : ∀ w, (Instr.index 56 (.agg #[.int .i64 t.a, .int .i64 t.b, .int .i64 t.c, .int .i64 t.d]) (.int .i64 2)).run Try.prog w = .ok (.int .i64 t.c) w := fun _ => by kernel_rfl
    have i3 : ∀ w, (Instr.index 56 (.agg #[.int .i64 t.a, .int .i64 t.b, .int .i64 t.c, .int .i64 t.d]) (.int .i64 3)).run Try.prog w = .ok (.int .i64 t.d) w := fun _ => by kernel_rfl
    go_wp2
    go_loop [5, 16] (fun q i => ∃ k : Nat, k ≤ 4 ∧ i = .int .i64 k ∧ q = .int .i64 (t.part k)) (fun _ i => 4 - (intOf i).toNat)
    case atStart => exact ⟨0, Nat.zero_le _, rfl, by simp [NSt.part]⟩
    case round =>
      obtain ⟨k, hk, rfl, rfl⟩ := hrel
      rcases (show k = 0 ∨ k = 1 ∨ k = 2 ∨ k = 3 ∨ k = 4 by omega) with rfl | rfl | rfl | rfl | rfl
      · rw [show t.part 0 = 0 by simp [NSt.part]]
        go_wp2_with fail
        refine (letterWorth 0 _ (by omega) (by omega)).mono ?_
        rintro e w' ⟨rfl, rfl⟩
        rw [show lwI 0 = 1000 from rfl]
        go_wp2
        go_round
        case rel => exact ⟨1, by omega, rfl, by simp [NSt.part]⟩
        case measure => simp [intOf]
      · rw [show t.part 1 = (t.a : Int) * 1000 by simp [NSt.part]]
        go_wp2_with fail
        refine (letterWorth 1 _ (by omega) (by omega)).mono ?_
        rintro e w' ⟨rfl, rfl⟩
        rw [show lwI 1 = 100 from rfl]
        go_wp2
        go_round
        case rel => exact ⟨2, by omega, rfl, by simp [NSt.part]⟩
        case measure => simp [intOf]
      · rw [show t.part 2 = (t.a : Int) * 1000 + (t.b : Int) * 100 by simp [NSt.part]]
        go_wp2_with fail
        refine (letterWorth 2 _ (by omega) (by omega)).mono ?_
        rintro e w' ⟨rfl, rfl⟩
        rw [show lwI 2 = 10 from rfl]
        go_wp2
        go_round
        case rel => exact ⟨3, by omega, rfl, by simp [NSt.part]⟩
        case measure => simp [intOf]
      · rw [show t.part 3 = (t.a : Int) * 1000 + (t.b : Int) * 100 + (t.c : Int) * 10 by simp [NSt.part]]
        go_wp2_with fail
        refine (letterWorth 3 _ (by omega) (by omega)).mono ?_
        rintro e w' ⟨rfl, rfl⟩
        rw [show lwI 3 = 1 from rfl]
        go_wp2
        go_round
        case rel => exact ⟨4, by omega, rfl, by simp [NSt.part]⟩
        case measure => simp [intOf]
      · go_wp2
        go_ret
        exact ⟨ret_int (by rw [HW.out]; simp [NSt.part, NSt.worth]; omega), b1.alloc b1.size _⟩
end Go.Proofs.Ytfdabeikcpccgaa
