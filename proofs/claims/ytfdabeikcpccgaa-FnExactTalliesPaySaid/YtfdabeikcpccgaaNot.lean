/- Contracts of the walks over notches: the program's counts, the reference's test and sum. -/
import Derived.Test.YtfdabeikcpccgaaNotP
import Derived.Test.YtfdabeikcpccgaaIn
import Derived.Lib.Bytealg
import Derived.Lib.Walk
import Derived.IntWalk
namespace Go.Proofs.Ytfdabeikcpccgaa
open Go.RowKit

theorem l6yWorth (x : Nat) (w : World) :
    Calls Try.prog 42 #[.int .u8 (x : Int)] w fun e w' => e = .returned (.int .i64 (lw x)) ∧ w = w' := by
  by_cases h1 : x = 77
  · subst h1
    go_enter Try.func42, Try.ntmps42
    go_wp2
    go_ret
    exact ⟨rfl, rfl⟩
  have e1 : ((x : Int) == 77) = false := by rw [beq_eq_false_iff_ne]; omega
  by_cases h2 : x = 67
  · subst h2
    go_enter Try.func42, Try.ntmps42
    go_wp2
    go_ret
    exact ⟨rfl, rfl⟩
  have e2 : ((x : Int) == 67) = false := by rw [beq_eq_false_iff_ne]; omega
  by_cases h3 : x = 88
  · subst h3
    go_enter Try.func42, Try.ntmps42
    go_wp2
    go_ret
    exact ⟨rfl, rfl⟩
  have e3 : ((x : Int) == 88) = false := by rw [beq_eq_false_iff_ne]; omega
  by_cases h4 : x = 73
  · subst h4
    go_enter Try.func42, Try.ntmps42
    go_wp2
    go_ret
    exact ⟨rfl, rfl⟩
  have e4 : ((x : Int) == 73) = false := by rw [beq_eq_false_iff_ne]; omega
  have h5 : lw x = 0 := by simp [lw, h1, h2, h3, h4]
  rw [h5]
  clear h5 h1 h2 h3 h4
  go_enter Try.func42, Try.ntmps42
  go_wp2
  go_ret
  exact ⟨rfl, rfl⟩

/-- The index of a letter, -1 for others. -/
def ltr (x : Nat) : Int := if x = 77 then 0 else if x = 67 then 1 else if x = 88 then 2 else if x = 73 then 3 else -1

theorem liteIndexByte (s : ByteArray) (c : Int) (w : World) :
    Calls Try.prog 68 #[.string s, .int .u8 c] w fun e w' => e = .returned (.int .i64 (Lib.indexByte s.data.toList c.toNat.toUInt8)) ∧ w = w' := by
  go_enter Try.func68, Try.ntmps68
  go_wp2
  rw [run_callFunc_extern Try.func74 (by kernel_rfl) (by kernel_rfl) (by kernel_rfl) (e := Extern.BytealgIndexByte.indexByte) (by kernel_rfl), Lib.run_indexByteString]
  simp only [Result.andThen]
  rw [Oper.upon_value]
  go_wp2
  go_ret
  exact ⟨rfl, rfl⟩

theorem idx_ltr (x : Nat) (h : x ≤ 255) : Lib.indexByte [77, 67, 88, 73] (x : Int).toNat.toUInt8 = ltr x := by
  have := (by decide +kernel : ∀ y : Fin 256, Lib.indexByte [77, 67, 88, 73] y.val.toUInt8 = ltr y.val) ⟨x, by omega⟩
  simpa using this

theorem idxLetter (x : Nat) (h : x ≤ 255) (w : World) :
    Calls Try.prog 57 #[.string { data := #[77, 67, 88, 73] }, .int .u8 (x : Int)] w fun e w' => e = .returned (.int .i64 (ltr x)) ∧ w = w' := by
  go_enter Try.func57, Try.ntmps57
  go_wp2_with fail
  refine (liteIndexByte _ _ _).mono ?_
  rintro e w' ⟨rfl, rfl⟩
  rw [idx_ltr x h]
  go_wp2
  go_ret
  exact ⟨rfl, rfl⟩

def NotPost (s : ByteArray) (w : World) (e : Ending) (w' : World) : Prop :=
  ∃ t : NSt, e = .returned (.tuple #[.agg #[.int .i64 t.a, .int .i64 t.b, .int .i64 t.c, .int .i64 t.d], .bool (notB s)]) ∧ (notB s = true → nrun nst0 s.data.toList = some t) ∧ Below w.heap.size w w'

def zeros4 : Obj := .cells #[.int .i64 0, .int .i64 0, .int .i64 0, .int .i64 0] 56

theorem not_end {s : ByteArray} {w w' : World} {t : NSt} {e : Ending} (he : e = .returned (.tuple #[.agg #[.int .i64 t.a, .int .i64 t.b, .int .i64 t.c, .int .i64 t.d], .bool (notB s)])) (h : notB s = true → nrun nst0 s.data.toList = some t) (hb : Below w.heap.size w w') : NotPost s w e w' := ⟨t, he, h, hb⟩

set_option maxRecDepth 100000 in
set_option maxHeartbeats 1000000 in
theorem notchCounts (s : ByteArray) (w : World) (hs : s.size ≤ 1048576) :
    Calls Try.prog 43 #[.string s] w (NotPost s w) := by
  go_enter Try.func43, Try.ntmps43
  go_wp2
  go_loopw [5, 6] (fun q i wr => ∃ (k : Nat) (t : NSt), k ≤ s.size ∧ t.ok k ∧ i = .int .i64 k ∧ q = .int .i64 t.l ∧ Hid (nrun nst0 s.data.toList = nrun t (s.data.toList.drop k)) ∧
      wr = (w.alloc (.cells #[.int .i64 0, .int .i64 0, .int .i64 0, .int .i64 0] 56)).alloc (.cells #[.int .i64 t.a, .int .i64 t.b, .int .i64 t.c, .int .i64 t.d] 56)) (fun _ i _ => s.size - (intOf i).toNat)
  case atStart => exact ⟨0, nst0, Nat.zero_le _, nst0_ok, rfl, rfl, Lib.hid (by simp), rfl⟩
  case round =>
    obtain ⟨k, t, hk, ht, rfl, rfl, HR, rfl⟩ := hrel
    have a9 := ht.a9
    have b9 := ht.b9
    have c9 := ht.c9
    have d9 := ht.d9
    have l3 := ht.l3
    by_cases hlt : k < s.size
    · have hx : s[k].toNat ≤ 255 := by have := s[k].toNat_lt; omega
      have HD := Lib.hid (drop_cons s k hlt)
      by_cases h77 : s[k].toNat = 77
      · have hl : ltr s[k].toNat = 0 := by simp [ltr, h77]
        have HL := Lib.hid hl
        have HC := Lib.hid h77
        clear hl h77
        by_cases g1 : t.l ≤ 0
        · by_cases g2 : t.a < 9
          · have HS : Hid (nstep t s[k].toNat = some ⟨t.a + 1, t.b, t.c, t.d, 0⟩) := Lib.hid (by rw [HC.out]; simp [nstep]; omega)
            have e1 : ((t.a : Int) == 9) = false := by rw [beq_eq_false_iff_ne]; omega
            have e0 : decide ((0 : Int) < (t.l : Int)) = false := by simp; omega
            go_wp2_with fail
            refine (idxLetter _ hx _).mono ?_
            rintro e w' ⟨rfl, rfl⟩
            rw [HL.out]
            go_wp2
            go_roundw
            case rel => exact ⟨k + 1, ⟨t.a + 1, t.b, t.c, t.d, 0⟩, by omega, nstep_ok ht HS.out, by go_num, rfl, Lib.hid (by rw [HR.out, HD.out, nrun_some HS.out]), rfl⟩
            case measure => simp [intOf]; omega
          · have HS : Hid (nstep t s[k].toNat = none) := Lib.hid (by rw [HC.out]; simp [nstep]; omega)
            obtain HE : Hid (t.a = 9) := Lib.hid (by omega)
            have e1 : ((t.a : Int) == 9) = true := by rw [beq_iff_eq]; have := HE.out; omega
            have e0 : decide ((0 : Int) < (t.l : Int)) = false := by simp; omega
            go_wp2_with fail
            refine (idxLetter _ hx _).mono ?_
            rintro e w' ⟨rfl, rfl⟩
            rw [HL.out]
            go_wp2
            have hn : notB s = false := notB_none (by rw [HR.out, HD.out, nrun_none HS.out])
            have HN := Lib.hid hn
            clear hn
            refine bodyPost_ret (v := .tuple #[.agg #[.int .i64 t.a, .int .i64 t.b, .int .i64 t.c, .int .i64 t.d], .bool false]) (by simp [results, Try.results43, go_sem]) rfl ?_
            exact not_end (by rw [HN.out]) (fun h => by rw [HN.out] at h; cases h) (((Below.refl _ _).alloc (Nat.le_refl _) _).alloc (by simp) _)
        · have HS : Hid (nstep t s[k].toNat = none) := Lib.hid (by rw [HC.out]; simp [nstep]; omega)
          have e0 : decide ((0 : Int) < (t.l : Int)) = true := by simp; omega
          go_wp2_with fail
          refine (idxLetter _ hx _).mono ?_
          rintro e w' ⟨rfl, rfl⟩
          rw [HL.out]
          go_wp2
          have hn : notB s = false := notB_none (by rw [HR.out, HD.out, nrun_none HS.out])
          have HN := Lib.hid hn
          clear hn
          refine bodyPost_ret (v := .tuple #[.agg #[.int .i64 t.a, .int .i64 t.b, .int .i64 t.c, .int .i64 t.d], .bool false]) (by simp [results, Try.results43, go_sem]) rfl ?_
          exact not_end (by rw [HN.out]) (fun h => by rw [HN.out] at h; cases h) (((Below.refl _ _).alloc (Nat.le_refl _) _).alloc (by simp) _)
      by_cases h67 : s[k].toNat = 67
      · have hl : ltr s[k].toNat = 1 := by simp [ltr, h67]
        have HL := Lib.hid hl
        have HC := Lib.hid h67
        clear hl h67
        by_cases g1 : t.l ≤ 1
        · by_cases g2 : t.b < 9
          · have HS : Hid (nstep t s[k].toNat = some ⟨t.a, t.b + 1, t.c, t.d, 1⟩) := Lib.hid (by rw [HC.out]; simp [nstep]; omega)
            have e1 : ((t.b : Int) == 9) = false := by rw [beq_eq_false_iff_ne]; omega
            have e0 : decide ((1 : Int) < (t.l : Int)) = false := by simp; omega
            go_wp2_with fail
            refine (idxLetter _ hx _).mono ?_
            rintro e w' ⟨rfl, rfl⟩
            rw [HL.out]
            go_wp2
            go_roundw
            case rel => exact ⟨k + 1, ⟨t.a, t.b + 1, t.c, t.d, 1⟩, by omega, nstep_ok ht HS.out, by go_num, rfl, Lib.hid (by rw [HR.out, HD.out, nrun_some HS.out]), rfl⟩
            case measure => simp [intOf]; omega
          · have HS : Hid (nstep t s[k].toNat = none) := Lib.hid (by rw [HC.out]; simp [nstep]; omega)
            obtain HE : Hid (t.b = 9) := Lib.hid (by omega)
            have e1 : ((t.b : Int) == 9) = true := by rw [beq_iff_eq]; have := HE.out; omega
            have e0 : decide ((1 : Int) < (t.l : Int)) = false := by simp; omega
            go_wp2_with fail
            refine (idxLetter _ hx _).mono ?_
            rintro e w' ⟨rfl, rfl⟩
            rw [HL.out]
            go_wp2
            have hn : notB s = false := notB_none (by rw [HR.out, HD.out, nrun_none HS.out])
            have HN := Lib.hid hn
            clear hn
            refine bodyPost_ret (v := .tuple #[.agg #[.int .i64 t.a, .int .i64 t.b, .int .i64 t.c, .int .i64 t.d], .bool false]) (by simp [results, Try.results43, go_sem]) rfl ?_
            exact not_end (by rw [HN.out]) (fun h => by rw [HN.out] at h; cases h) (((Below.refl _ _).alloc (Nat.le_refl _) _).alloc (by simp) _)
        · have HS : Hid (nstep t s[k].toNat = none) := Lib.hid (by rw [HC.out]; simp [nstep]; omega)
          have e0 : decide ((1 : Int) < (t.l : Int)) = true := by simp; omega
          go_wp2_with fail
          refine (idxLetter _ hx _).mono ?_
          rintro e w' ⟨rfl, rfl⟩
          rw [HL.out]
          go_wp2
          have hn : notB s = false := notB_none (by rw [HR.out, HD.out, nrun_none HS.out])
          have HN := Lib.hid hn
          clear hn
          refine bodyPost_ret (v := .tuple #[.agg #[.int .i64 t.a, .int .i64 t.b, .int .i64 t.c, .int .i64 t.d], .bool false]) (by simp [results, Try.results43, go_sem]) rfl ?_
          exact not_end (by rw [HN.out]) (fun h => by rw [HN.out] at h; cases h) (((Below.refl _ _).alloc (Nat.le_refl _) _).alloc (by simp) _)
      by_cases h88 : s[k].toNat = 88
      · have hl : ltr s[k].toNat = 2 := by simp [ltr, h88]
        have HL := Lib.hid hl
        have HC := Lib.hid h88
        clear hl h88
        by_cases g1 : t.l ≤ 2
        · by_cases g2 : t.c < 9
          · have HS : Hid (nstep t s[k].toNat = some ⟨t.a, t.b, t.c + 1, t.d, 2⟩) := Lib.hid (by rw [HC.out]; simp [nstep]; omega)
            have e1 : ((t.c : Int) == 9) = false := by rw [beq_eq_false_iff_ne]; omega
            have e0 : decide ((2 : Int) < (t.l : Int)) = false := by simp; omega
            go_wp2_with fail
            refine (idxLetter _ hx _).mono ?_
            rintro e w' ⟨rfl, rfl⟩
            rw [HL.out]
            go_wp2
            go_roundw
            case rel => exact ⟨k + 1, ⟨t.a, t.b, t.c + 1, t.d, 2⟩, by omega, nstep_ok ht HS.out, by go_num, rfl, Lib.hid (by rw [HR.out, HD.out, nrun_some HS.out]), rfl⟩
            case measure => simp [intOf]; omega
          · have HS : Hid (nstep t s[k].toNat = none) := Lib.hid (by rw [HC.out]; simp [nstep]; omega)
            obtain HE : Hid (t.c = 9) := Lib.hid (by omega)
            have e1 : ((t.c : Int) == 9) = true := by rw [beq_iff_eq]; have := HE.out; omega
            have e0 : decide ((2 : Int) < (t.l : Int)) = false := by simp; omega
            go_wp2_with fail
            refine (idxLetter _ hx _).mono ?_
            rintro e w' ⟨rfl, rfl⟩
            rw [HL.out]
            go_wp2
            have hn : notB s = false := notB_none (by rw [HR.out, HD.out, nrun_none HS.out])
            have HN := Lib.hid hn
            clear hn
            refine bodyPost_ret (v := .tuple #[.agg #[.int .i64 t.a, .int .i64 t.b, .int .i64 t.c, .int .i64 t.d], .bool false]) (by simp [results, Try.results43, go_sem]) rfl ?_
            exact not_end (by rw [HN.out]) (fun h => by rw [HN.out] at h; cases h) (((Below.refl _ _).alloc (Nat.le_refl _) _).alloc (by simp) _)
        · have HS : Hid (nstep t s[k].toNat = none) := Lib.hid (by rw [HC.out]; simp [nstep]; omega)
          have e0 : decide ((2 : Int) < (t.l : Int)) = true := by simp; omega
          go_wp2_with fail
          refine (idxLetter _ hx _).mono ?_
          rintro e w' ⟨rfl, rfl⟩
          rw [HL.out]
          go_wp2
          have hn : notB s = false := notB_none (by rw [HR.out, HD.out, nrun_none HS.out])
          have HN := Lib.hid hn
          clear hn
          refine bodyPost_ret (v := .tuple #[.agg #[.int .i64 t.a, .int .i64 t.b, .int .i64 t.c, .int .i64 t.d], .bool false]) (by simp [results, Try.results43, go_sem]) rfl ?_
          exact not_end (by rw [HN.out]) (fun h => by rw [HN.out] at h; cases h) (((Below.refl _ _).alloc (Nat.le_refl _) _).alloc (by simp) _)
      by_cases h73 : s[k].toNat = 73
      · have hl : ltr s[k].toNat = 3 := by simp [ltr, h73]
        have HL := Lib.hid hl
        have HC := Lib.hid h73
        clear hl h73
        by_cases g1 : t.l ≤ 3
        · by_cases g2 : t.d < 9
          · have HS : Hid (nstep t s[k].toNat = some ⟨t.a, t.b, t.c, t.d + 1, 3⟩) := Lib.hid (by rw [HC.out]; simp [nstep]; omega)
            have e1 : ((t.d : Int) == 9) = false := by rw [beq_eq_false_iff_ne]; omega
            have e0 : decide ((3 : Int) < (t.l : Int)) = false := by simp; omega
            go_wp2_with fail
            refine (idxLetter _ hx _).mono ?_
            rintro e w' ⟨rfl, rfl⟩
            rw [HL.out]
            go_wp2
            go_roundw
            case rel => exact ⟨k + 1, ⟨t.a, t.b, t.c, t.d + 1, 3⟩, by omega, nstep_ok ht HS.out, by go_num, rfl, Lib.hid (by rw [HR.out, HD.out, nrun_some HS.out]), rfl⟩
            case measure => simp [intOf]; omega
          · have HS : Hid (nstep t s[k].toNat = none) := Lib.hid (by rw [HC.out]; simp [nstep]; omega)
            obtain HE : Hid (t.d = 9) := Lib.hid (by omega)
            have e1 : ((t.d : Int) == 9) = true := by rw [beq_iff_eq]; have := HE.out; omega
            have e0 : decide ((3 : Int) < (t.l : Int)) = false := by simp; omega
            go_wp2_with fail
            refine (idxLetter _ hx _).mono ?_
            rintro e w' ⟨rfl, rfl⟩
            rw [HL.out]
            go_wp2
            have hn : notB s = false := notB_none (by rw [HR.out, HD.out, nrun_none HS.out])
            have HN := Lib.hid hn
            clear hn
            refine bodyPost_ret (v := .tuple #[.agg #[.int .i64 t.a, .int .i64 t.b, .int .i64 t.c, .int .i64 t.d], .bool false]) (by simp [results, Try.results43, go_sem]) rfl ?_
            exact not_end (by rw [HN.out]) (fun h => by rw [HN.out] at h; cases h) (((Below.refl _ _).alloc (Nat.le_refl _) _).alloc (by simp) _)
        · omega
      have hl : ltr s[k].toNat = -1 := by simp [ltr, h77, h67, h88, h73]
      have HS : Hid (nstep t s[k].toNat = none) := Lib.hid (by simp [nstep, h77, h67, h88, h73])
      have HL := Lib.hid hl
      clear hl h77 h67 h88 h73
      have e0 : decide ((-1 : Int) < (t.l : Int)) = true := by simp; omega
      go_wp2_with fail
      refine (idxLetter _ hx _).mono ?_
      rintro e w' ⟨rfl, rfl⟩
      rw [HL.out]
      go_wp2
      have hn : notB s = false := notB_none (by rw [HR.out, HD.out, nrun_none HS.out])
      have HN := Lib.hid hn
      clear hn
      refine bodyPost_ret (v := .tuple #[.agg #[.int .i64 t.a, .int .i64 t.b, .int .i64 t.c, .int .i64 t.d], .bool false]) (by simp [results, Try.results43, go_sem]) rfl ?_
      exact not_end (by rw [HN.out]) (fun h => by rw [HN.out] at h; cases h) (((Below.refl _ _).alloc (Nat.le_refl _) _).alloc (by simp) _)
    · have HD := Lib.hid (drop_all s k hlt)
      have hn : nrun nst0 s.data.toList = some t := by rw [HR.out, HD.out]; rfl
      have HN := Lib.hid hn
      clear hn
      go_wp2
      refine bodyPost_ret (v := .tuple #[.agg #[.int .i64 t.a, .int .i64 t.b, .int .i64 t.c, .int .i64 t.d], .bool true]) (by simp [results, Try.results43, go_sem]) rfl ?_
      exact not_end (by rw [notB_some HN.out]) (fun _ => HN.out) (((Below.refl _ _).alloc (Nat.le_refl _) _).alloc (by simp) _)
end Go.Proofs.Ytfdabeikcpccgaa
