/- Contracts of FrameText. -/
import Derived.Test.YtfdbhaojdccomaaDoorDig
import Derived.Laws.IdiomStrings
namespace Go.Proofs.YtfdbhaojdccomaaDoor
open Go.RowKit

theorem ret_string {a b : ByteArray} (h : a = b) : Ending.returned (.string a) = .returned (.string b) := by rw [h]
/-- A text of bytes. -/
def stx (l : List UInt8) : ByteArray := ⟨l.toArray⟩
theorem stx_app (a b : List UInt8) : stx a ++ stx b = stx (a ++ b) := by
  apply ByteArray.ext
  simp [stx]
theorem stx_size (l : List UInt8) : (stx l).size = l.length := by simp [stx, ByteArray.size]
/-- A digit's letter. -/
def dlt (m : Nat) : UInt8 := UInt8.ofNat (48 + m % 10)
theorem dlt_nat (m : Nat) : (dlt m).toNat = 48 + m % 10 := by
  unfold dlt
  rw [UInt8.toNat_ofNat']
  omega
/-- The first j digits' letters, from the last rod on. -/
def ftx (hs ls : List Int) (n : Nat) : Nat → List UInt8
  | 0 => []
  | j + 1 => ftx hs ls n j ++ [dlt (dg hs ls (n - 1 - j)).toNat]
theorem ftx_len (hs ls : List Int) (n : Nat) : ∀ j, (ftx hs ls n j).length = j
  | 0 => rfl
  | j + 1 => by simp [ftx, ftx_len hs ls n j]
def ftxt (hs ls : List Int) : ByteArray := if frB hs ls then stx (ftx hs ls hs.length hs.length) else stx []
theorem dg_bd {hs ls : List Int} (ok : FrOk hs ls) {k : Nat} (hk : k < hs.length) : 0 ≤ dg hs ls k ∧ dg hs ls k ≤ 9 := by
  have := ok.hi k hk
  have := ok.lo k hk
  simp only [dg]
  omega
theorem ok_frT {hs ls : List Int} (ok : FrOk hs ls) : frB hs ls = true :=
  frB_y (inB_of (by have := ok.n1; omega) (by have := ok.n6; omega)) ok.len.symm (fun k hk => by
    have := ok.hi k hk
    have := ok.lo k hk
    rw [inB_of (by omega) (by omega), inB_of (by omega) (by omega)]
    rfl)
theorem fdig_at {hs ls : List Int} (ok : FrOk hs ls) {k : Nat} (h : k < hs.length) : fdig hs ls (k : Int) = dg hs ls k := by
  unfold fdig
  rw [ok_frT ok, inB_of (by omega) (by omega)]
  simp

theorem l6Dec (m : Nat) (w : World) (h : m ≤ 9) : Calls Tryd.prog 18 #[.int .i64 (m : Int)] w fun e w' => e = .returned (.string (stx [dlt m])) ∧ Below w.heap.size w w' := by
  have hcv : ∀ w : World, (convert 31 9 (.slice (some ⟨w.heap.size, 0, none⟩) 1 1)).run Tryd.prog (w.alloc (.cells #[.int .u8 (48 + (m : Int))] 5)) = .ok (.string (stx [dlt m])) (w.alloc (.cells #[.int .u8 (48 + (m : Int))] 5)) := fun w => by
    have := run_convert_bytes_back (P := Tryd.prog) (w.alloc (.cells #[.int .u8 (48 + (m : Int))] 5)) 31 9 5 ⟨w.heap.size, 0, none⟩ 1 [dlt m] Tryd.underlying31 Tryd.underlying5 Tryd.underlying9 (by
      intro j hj
      have hj0 : j = 0 := by simpa using hj
      subst hj0
      simp [Addr.add, dlt_nat]
      omega)
    exact this
  go_enter Tryd.func18, Tryd.ntmps18
  go_wp2_with fail
  go_ret
  exact ⟨rfl, (Below.refl _ _).alloc (Nat.le_refl _) _⟩

set_option maxRecDepth 100000 in
theorem itoaSmall (m : Nat) (w : World) (h : m ≤ 9) : Calls Tryd.prog 36 #[.int .i64 (m : Int)] w fun e w' => e = .returned (.string (stx [dlt m])) ∧ w = w' := by
  rcases (show m = 0 ∨ m = 1 ∨ m = 2 ∨ m = 3 ∨ m = 4 ∨ m = 5 ∨ m = 6 ∨ m = 7 ∨ m = 8 ∨ m = 9 by omega) with rfl | rfl | rfl | rfl | rfl | rfl | rfl | rfl | rfl | rfl
  all_goals
    go_enter Tryd.func36, Tryd.ntmps36
    go_wp2_with fail
    go_ret
    exact ⟨rfl, rfl⟩

theorem itoaFmt (m : Nat) (w : World) (h : m ≤ 9) : Calls Tryd.prog 35 #[.int .i64 (m : Int), .int .i64 10] w fun e w' => e = .returned (.string (stx [dlt m])) ∧ w = w' := by
  go_enter Tryd.func35, Tryd.ntmps35
  go_wp2_with fail
  refine (itoaSmall m _ h).mono ?_
  rintro e w' ⟨rfl, rfl⟩
  go_wp2_with fail
  go_ret
  exact ⟨rfl, rfl⟩
theorem itoaIn (m : Nat) (w : World) (h : m ≤ 9) : Calls Tryd.prog 33 #[.int .i64 (m : Int)] w fun e w' => e = .returned (.string (stx [dlt m])) ∧ w = w' := by
  go_enter Tryd.func33, Tryd.ntmps33
  go_wp2_with fail
  refine (itoaFmt m _ h).mono ?_
  rintro e w' ⟨rfl, rfl⟩
  go_wp2_with fail
  go_ret
  exact ⟨rfl, rfl⟩
theorem itoa (m : Nat) (w : World) (h : m ≤ 9) : Calls Tryd.prog 22 #[.int .i64 (m : Int)] w fun e w' => e = .returned (.string (stx [dlt m])) ∧ w = w' := by
  go_enter Tryd.func22, Tryd.ntmps22
  go_wp2_with fail
  refine (itoaIn m _ h).mono ?_
  rintro e w' ⟨rfl, rfl⟩
  go_wp2_with fail
  go_ret
  exact ⟨rfl, rfl⟩

set_option maxRecDepth 100000 in
set_option maxHeartbeats 1000000 in
theorem spec_FrameText (A B : Option Addr) (c d : Nat) (hs ls : List Int) (w : World) (hr : FrRd w A B hs ls) (hh : hs.length ≤ 4194304) (hl : ls.length ≤ 4194304) :
    Calls Tryd.prog 6 #[.agg #[.slice A hs.length c, .slice B ls.length d]] w fun e w' => e = .returned (.string (ftxt hs ls)) ∧ Below w.heap.size w w' := by
  have hb0 := (Below.refl w.heap.size w).alloc (Nat.le_refl _) (.cells #[.slice A hs.length c, .slice B ls.length d] 27)
  have hr0 := hr.below hb0
  have w7 : IntKind.i64.wrap ((hs.length : Int) - 1) = (hs.length : Int) - 1 := IntWalk.i64_in _ (by omega)
  cases hf : frB hs ls
  · have HF : Hid (ftxt hs ls = stx []) := Lib.hid (by simp [ftxt, hf])
    by_cases hz : hs.length = 0
    · obtain rfl : hs = [] := List.eq_nil_of_length_eq_zero hz
      clear w7 hz
      go_enter Tryd.func6, Tryd.ntmps6
      go_wp2_with fail
      go_loopw [3, 4] (fun q i wr => q = .string (stx []) ∧ i = .int .i64 (-1) ∧ Below w.heap.size w wr) (fun _ i _ => (intOf i).toNat)
      case atStart => exact ⟨rfl, rfl, hb0⟩
      case round =>
        obtain ⟨rfl, rfl, hb⟩ := hrel
        go_wp2_with fail
        go_ret
        exact ⟨ret_string HF.out.symm, hb⟩
    · have z0 : 0 ≤ (hs.length : Int) - 1 := by omega
      go_enter Tryd.func6, Tryd.ntmps6
      go_wp2_with fail
      go_loopw [3, 4] (fun q i wr => q = .string (stx []) ∧ i = .int .i64 ((hs.length : Int) - 1) ∧ wr = w.alloc (.cells #[.slice A hs.length c, .slice B ls.length d] 27)) (fun _ i _ => (intOf i).toNat)
      case atStart => exact ⟨rfl, rfl, rfl⟩
      case round =>
        obtain ⟨rfl, rfl, rfl⟩ := hrel
        go_wp2_with fail
        refine (spec_FrameValid_b _ _ _ _ _ _ _ hr0 hh hl).mono ?_
        rintro e w1 ⟨rfl, q1⟩
        rw [hf]
        have HQ := Lib.hid (bstep hb0 q1)
        clear q1
        go_wp2_with fail
        go_ret
        exact ⟨ret_string HF.out.symm, HQ.out⟩
  · have ok := frB_ok hf
    have n1 := ok.n1
    have n6 := ok.n6
    have HLn := Lib.hid ok.len
    have HF : Hid (ftxt hs ls = stx (ftx hs ls hs.length hs.length)) := Lib.hid (by simp [ftxt, hf])
    go_enter Tryd.func6, Tryd.ntmps6
    go_wp2_with fail
    go_loopw [3, 4] (fun q i wr => ∃ j : Nat, j ≤ hs.length ∧ i = .int .i64 ((hs.length : Int) - 1 - j) ∧ q = .string (stx (ftx hs ls hs.length j)) ∧ w.heap.size < wr.heap.size ∧ Hid (wr.heap[w.heap.size]? = some (.cells #[.slice A hs.length c, .slice B ls.length d] 27 (0, 0))) ∧ FrRd wr A B hs ls ∧ Below w.heap.size w wr) (fun _ i _ => (intOf i + 1).toNat)
    case atStart => exact ⟨0, Nat.zero_le _, by simp, rfl, by simp, Lib.hid (heap_alloc_new _ _), hr0, hb0⟩
    case round =>
      obtain ⟨j, hj, rfl, rfl, hz, HX, hrr, hb⟩ := hrel
      have x0 : wr.cell? ⟨w.heap.size, 0, none⟩ = some (.slice A hs.length c) := by simp [World.cell?, HX.out]
      have x1 : wr.cell? ⟨w.heap.size, 1, none⟩ = some (.slice B ls.length d) := by simp [World.cell?, HX.out]
      by_cases hlt : j < hs.length
      · have z0 : 0 ≤ (hs.length : Int) - 1 - j := by omega
        obtain ⟨k, hk⟩ : ∃ k : Nat, (hs.length : Int) - 1 - j = (k : Int) := ⟨hs.length - 1 - j, by omega⟩
        have hkn : k = hs.length - 1 - j := by omega
        have ⟨d0, d1⟩ := dg_bd ok (k := k) (by omega)
        have hfd := fdig_at ok (k := k) (by omega)
        obtain ⟨m, hm⟩ : ∃ m : Nat, dg hs ls k = (m : Int) := ⟨(dg hs ls k).toNat, by omega⟩
        have hftx : ftx hs ls hs.length (j + 1) = ftx hs ls hs.length j ++ [dlt m] := by simp only [ftx]; rw [← hkn, hm]; rfl
        have HFT := Lib.hid hftx
        have HFD := Lib.hid (hfd.trans hm)
        have HK := Lib.hid hk
        have hm9 : m ≤ 9 := by omega
        have hfl := ftx_len hs ls hs.length j
        have y1 : ¬ (9223372036854775807 < (stx (ftx hs ls hs.length j)).size + (stx [dlt m]).size) := by rw [stx_size, stx_size, hfl]; simp; omega
        have HA := Lib.hid (stx_app (ftx hs ls hs.length j) [dlt m])
        have w8 : IntKind.i64.wrap ((hs.length : Int) - 1 - j - 1) = (hs.length : Int) - 1 - j - 1 := IntWalk.i64_in _ (by omega)
        have w9 : IntKind.i64.wrap ((k : Int) - 1) = (k : Int) - 1 := IntWalk.i64_in _ (by omega)
        clear hftx hfd hkn hm d0 d1 hk hfl
        go_wp2_with fail
        refine (spec_FrameValid_b _ _ _ _ _ _ _ hrr hh hl).mono ?_
        rintro e w1 ⟨rfl, q1⟩
        rw [hf]
        have X1 := (q1.block w.heap.size hz).trans HX.out
        have hr1 := hrr.below q1
        have hb1 := bstep hb q1
        have hz1 : w.heap.size < w1.heap.size := by have := q1.size; omega
        clear q1 x0 x1 HX hrr hb
        have x0 : w1.cell? ⟨w.heap.size, 0, none⟩ = some (.slice A hs.length c) := by simp [World.cell?, X1]
        have x1 : w1.cell? ⟨w.heap.size, 1, none⟩ = some (.slice B ls.length d) := by simp [World.cell?, X1]
        go_wp2_with fail
        refine (spec_FrameDigit _ _ _ _ hs ls _ _ hr1 hh hl).mono ?_
        rintro e w2 ⟨rfl, q2⟩
        rw [HK.out, HFD.out]
        have X2 := (q2.block w.heap.size hz1).trans X1
        have hr2 := hr1.below q2
        have hb2 := bstep hb1 q2
        have hz2 : w.heap.size < w2.heap.size := by have := q2.size; omega
        clear q2 x0 x1 X1 hr1 hb1
        go_wp2_with fail
        refine (l6Dec m _ hm9).mono ?_
        rintro e w3 ⟨rfl, q3⟩
        have HX3 := Lib.hid ((q3.block w.heap.size hz2).trans X2)
        have HR3 := Lib.hid (hr2.below q3)
        have HB3 := Lib.hid (bstep hb2 q3)
        have hz3 : w.heap.size < w3.heap.size := by have := q3.size; omega
        clear q3 X2 hr2 hb2
        go_wp2_with fail
        go_roundw
        case rel => exact ⟨j + 1, by omega, by have h9 := HK.out; simp only [Value.int.injEq, true_and]; omega, by rw [HA.out, HFT.out], hz3, HX3, HR3.out, HB3.out⟩
        case measure => have h9 := HK.out; simp [intOf]; omega
      · obtain rfl : j = hs.length := by omega
        go_wp2_with fail
        go_ret
        exact ⟨ret_string HF.out.symm, hb⟩

set_option maxRecDepth 100000 in
set_option maxHeartbeats 1000000 in
theorem impl_FrameText (A B : Option Addr) (c d : Nat) (hs ls : List Int) (w : World) (hr : FrRd w A B hs ls) (hh : hs.length ≤ 4194304) (hl : ls.length ≤ 4194304) :
    Calls Tryd.prog 8 #[.agg #[.slice A hs.length c, .slice B ls.length d]] w fun e w' => e = .returned (.string (ftxt hs ls)) ∧ Below w.heap.size w w' := by
  have hb0 := (Below.refl w.heap.size w).alloc (Nat.le_refl _) (.cells #[.slice A hs.length c, .slice B ls.length d] 27)
  have hr0 := hr.below hb0
  cases hf : frB hs ls
  · have HF : Hid (ftxt hs ls = stx []) := Lib.hid (by simp [ftxt, hf])
    go_enter Tryd.func8, Tryd.ntmps8
    go_wp2_with fail
    refine (rodsOf_no _ _ _ _ _ _ _ hr0 hh hl hf).mono ?_
    rintro e w1 ⟨rfl, q1⟩
    have HQ := Lib.hid (bstep hb0 q1)
    clear q1
    go_wp2_with fail
    go_ret
    exact ⟨ret_string HF.out.symm, HQ.out⟩
  · have ok := frB_ok hf
    have n1 := ok.n1
    have n6 := ok.n6
    have HLn := Lib.hid ok.len
    have HF : Hid (ftxt hs ls = stx (ftx hs ls hs.length hs.length)) := Lib.hid (by simp [ftxt, hf])
    have w7 : IntKind.i64.wrap ((hs.length : Int) - 1) = (hs.length : Int) - 1 := IntWalk.i64_in _ (by omega)
    go_enter Tryd.func8, Tryd.ntmps8
    go_wp2_with fail
    refine (rodsOf_yes _ _ _ _ _ _ _ hr0 ok).mono ?_
    rintro e w1 ⟨p, g, rfl, R1, q1⟩
    have cb1 := R1.cbox
    have pl1 := R1.plt
    have HQ := Lib.hid (bstep hb0 q1)
    have HR1 := Lib.hid R1
    clear q1 R1
    go_wp2_with fail
    go_loopw [5, 6] (fun q i wr => ∃ j m : Nat, j ≤ hs.length ∧ i = .int .i64 ((hs.length : Int) - 1 - j) ∧ q = .string (stx (ftx hs ls hs.length j)) ∧ wr = w1.drewN m) (fun _ i _ => (intOf i + 1).toNat)
    case atStart => exact ⟨0, 0, Nat.zero_le _, by simp, rfl, rfl⟩
    case round =>
      obtain ⟨j, m0, hj, rfl, rfl, rfl⟩ := hrel
      by_cases hlt : j < hs.length
      · have z0 : 0 ≤ (hs.length : Int) - 1 - j := by omega
        obtain ⟨k, hk⟩ : ∃ k : Nat, (hs.length : Int) - 1 - j = (k : Int) := ⟨hs.length - 1 - j, by omega⟩
        have hkn : k = hs.length - 1 - j := by omega
        have hkl : k < hs.length := by omega
        have ⟨d0, d1⟩ := dg_bd ok hkl
        obtain ⟨m, hm⟩ : ∃ m : Nat, dg hs ls k = (m : Int) := ⟨(dg hs ls k).toNat, by omega⟩
        have hftx : ftx hs ls hs.length (j + 1) = ftx hs ls hs.length j ++ [dlt m] := by simp only [ftx]; rw [← hkn, hm]; rfl
        have HFT := Lib.hid hftx
        have HK := Lib.hid hk
        have hm9 : m ≤ 9 := by omega
        have hfl := ftx_len hs ls hs.length j
        have y1 : ¬ (9223372036854775807 < (stx (ftx hs ls hs.length j)).size + (stx [dlt m]).size) := by rw [stx_size, stx_size, hfl]; simp; omega
        have HA := Lib.hid (stx_app (ftx hs ls hs.length j) [dlt m])
        have w8 : IntKind.i64.wrap ((hs.length : Int) - 1 - j - 1) = (hs.length : Int) - 1 - j - 1 := IntWalk.i64_in _ (by omega)
        have w9 : IntKind.i64.wrap ((k : Int) - 1) = (k : Int) - 1 := IntWalk.i64_in _ (by omega)
        have w10 : ((hs.length : Int) - 1 - j).toNat = k := by omega
        have w11 : (hs.length : Int) - 1 - j < hs.length := by omega
        have R2 := HR1.out.drewN m0
        have ch := R2.chi hkl
        have cl := R2.clo hkl
        have ⟨a0, a1⟩ := ok.hi k hkl
        have ⟨e0, e1⟩ := ok.lo k hkl
        have HD : Hid (5 * nth hs k + nth ls k = (m : Int)) := Lib.hid (by simpa [dg] using hm)
        clear hftx hkn hm d0 d1 hk hfl R2
        go_wp2_with fail
        refine (beadDigit g (k * 2) _ _ _ ch cl a0 a1 e0 e1).mono ?_
        rintro e w' ⟨rfl, m1, rfl⟩
        rw [HD.out]
        clear ch cl
        go_wp2_with fail
        refine (itoa m _ hm9).mono ?_
        rintro e w' ⟨rfl, rfl⟩
        go_wp2_with fail
        go_roundw
        case rel => exact ⟨j + 1, m0 + m1, by omega, by have h9 := HK.out; simp only [Value.int.injEq, true_and]; omega, by rw [HA.out, HFT.out], by first | rfl | exact World.drewN_drewN _ _ _⟩
        case measure => have h9 := HK.out; simp [intOf]; omega
      · obtain rfl : j = hs.length := by omega
        go_wp2_with fail
        go_ret
        exact ⟨ret_string HF.out.symm, HQ.out.drewN _⟩
end Go.Proofs.YtfdbhaojdccomaaDoor
