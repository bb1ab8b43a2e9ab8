/- Contract of the program's FramePushes. -/
import Derived.Test.YtfdbhaojdccomaaPush
namespace Go.Proofs.Ytfdbhaojdccomaa
open Go.RowKit

def PuInv (hs ls hs' ls' : List Int) (w2 : World) (base p g p' g' : Nat) (q i : Value) (wr : World) : Prop :=
  ∃ k : Nat, k ≤ hs.length ∧ i = .int .i64 k ∧ q = .int .i64 (puU hs ls hs' ls' k) ∧ Rods wr base p g hs ls ∧ Rods wr base p' g' hs' ls' ∧ Below w2.heap.size w2 wr

set_option maxRecDepth 100000 in
set_option maxHeartbeats 1000000 in
theorem impl_FramePushes (A B A' B' : Option Addr) (c d c' d' : Nat) (hs ls hs' ls' : List Int) (w : World) (hr : FrRd w A B hs ls) (hr' : FrRd w A' B' hs' ls') (hh : hs.length ≤ 4194304) (hl : ls.length ≤ 4194304) (hh' : hs'.length ≤ 4194304) (hl' : ls'.length ≤ 4194304) :
    Calls Try.prog 27 #[.agg #[.slice A hs.length c, .slice B ls.length d], .agg #[.slice A' hs'.length c', .slice B' ls'.length d']] w fun e w' => e = .returned (.int .i64 (fpush hs ls hs' ls')) ∧ Below w.heap.size w w' := by
  have hb0 := ((Below.refl w.heap.size w).alloc (Nat.le_refl _) (.cells #[.slice A hs.length c, .slice B ls.length d] 27)).alloc (by simp) (.cells #[.slice A' hs'.length c', .slice B' ls'.length d'] 27)
  have hr0 := hr.below hb0
  have hr0' := hr'.below hb0
  cases h1 : frB hs ls
  · have HV : Hid (fpush hs ls hs' ls' = -1) := Lib.hid (by simp [fpush, h1])
    cases h2 : frB hs' ls'
    · go_enter Try.func27, Try.ntmps27
      go_wp2_with fail
      refine (rodsOf_no _ _ _ _ _ _ _ hr0 hh hl h1).mono ?_
      rintro e w1 ⟨rfl, q1⟩
      obtain ⟨x1, x2, x3, x4, z1, z2⟩ := box22 q1
      go_wp2_with fail
      refine (rodsOf_no _ _ _ _ _ _ _ (hr0'.below q1) hh' hl' h2).mono ?_
      rintro e w2 ⟨rfl, b2⟩
      clear x1 x2 x3 x4
      go_wp2_with fail
      go_quiet (fail)
      go_wp2_with fail
      go_ret
      exact ⟨ret_int HV.out.symm, (bstep hb0 (bstep q1 b2)).drewN _⟩
    · go_enter Try.func27, Try.ntmps27
      go_wp2_with fail
      refine (rodsOf_no _ _ _ _ _ _ _ hr0 hh hl h1).mono ?_
      rintro e w1 ⟨rfl, q1⟩
      obtain ⟨x1, x2, x3, x4, z1, z2⟩ := box22 q1
      go_wp2_with fail
      refine (rodsOf_yes _ _ _ _ _ _ _ (hr0'.below q1) (frB_ok h2)).mono ?_
      rintro e w2 ⟨p', g', rfl, R2, b2⟩
      clear x1 x2 x3 x4
      go_wp2_with fail
      go_quiet (fail)
      go_wp2_with fail
      go_ret
      exact ⟨ret_int HV.out.symm, (bstep hb0 (bstep q1 b2)).drewN _⟩
  have ok := frB_ok h1
  have n6 := ok.n6
  cases h2 : frB hs' ls'
  · have HV : Hid (fpush hs ls hs' ls' = -1) := Lib.hid (by simp [fpush, h2])
    go_enter Try.func27, Try.ntmps27
    go_wp2_with fail
    refine (rodsOf_yes _ _ _ _ _ _ _ hr0 ok).mono ?_
    rintro e w1 ⟨p, g, rfl, R1, q1⟩
    obtain ⟨x1, x2, x3, x4, z1, z2⟩ := box22 q1
    go_wp2_with fail
    refine (rodsOf_no _ _ _ _ _ _ _ (hr0'.below q1) hh' hl' h2).mono ?_
    rintro e w2 ⟨rfl, b2⟩
    clear x1 x2 x3 x4
    go_wp2_with fail
    go_quiet (fail)
    go_wp2_with fail
    go_ret
    exact ⟨ret_int HV.out.symm, (bstep hb0 (bstep q1 b2)).drewN _⟩
  have ok' := frB_ok h2
  by_cases h3 : hs.length = hs'.length
  · have HV : Hid (fpush hs ls hs' ls' = puU hs ls hs' ls' hs.length) := Lib.hid (by simp [fpush, h1, h2, h3])
    have d3 : ((hs.length : Int) != (hs'.length : Int)) = false := by simp [h3]
    have l3 : hs.length ≤ hs'.length := by omega
    have l4 : hs'.length ≤ hs.length := by omega
    clear h3
    go_enter Try.func27, Try.ntmps27
    go_wp2_with fail
    refine (rodsOf_yes _ _ _ _ _ _ _ hr0 ok).mono ?_
    rintro e w1 ⟨p, g, rfl, R1, q1⟩
    obtain ⟨x1, x2, x3, x4, z1, z2⟩ := box22 q1
    go_wp2_with fail
    refine (rodsOf_yes _ _ _ _ _ _ _ (hr0'.below q1) ok').mono ?_
    rintro e w2 ⟨p', g', rfl, R2, b2⟩
    clear x1 x2 x3 x4
    have q2 := bstep q1 b2
    have S1 := R1.below b2
    have S2 : Rods w2 _ p' g' hs' ls' := ⟨R2.len, R2.box, R2.row, Nat.le_trans q1.size R2.pb, Nat.le_trans q1.size R2.gb, R2.ne⟩
    have c1 := S1.cbox
    have c2 := S2.cbox
    have pl1 := S1.plt
    have pl2 := S2.plt
    go_wp2_with fail
    go_quiet (fail)
    go_wp2_with fail
    clear c1 c2
    go_loopw [9, 43] (fun q i wr => PuInv hs ls hs' ls' w2 ((w.alloc (.cells #[.slice A hs.length c, .slice B ls.length d] 27)).alloc (.cells #[.slice A' hs'.length c', .slice B' ls'.length d'] 27)).heap.size p g p' g' q i wr) (fun _ i _ => hs'.length - (intOf i).toNat)
    case atStart => exact ⟨0, Nat.zero_le _, rfl, rfl, S1.drewN _, S2.drewN _, (Below.refl _ _).drewN _⟩
    case round =>
      obtain ⟨k, hk, rfl, rfl, U1, U2, bw⟩ := hrel
      have ⟨f0, f1⟩ := puU_bd hs ls hs' ls' k
      by_cases hlt : k < hs.length
      · have k3 : k < hs'.length := by omega
        have c1 := U1.cbox
        have e1 := U1.chi hlt
        have e2 := U1.clo hlt
        have e3 := U2.chi k3
        have e4 := U2.clo k3
        have pl := U1.plt
        have gl := U1.glt
        have gl' := U2.glt
        have ⟨p0, p1⟩ := pu_bd (nth hs k) (nth ls k) (nth hs' k) (nth ls' k)
        have HS : Hid (puU hs ls hs' ls' (k + 1) = puU hs ls hs' ls' k + pu (nth hs k) (nth ls k) (nth hs' k) (nth ls' k)) := Lib.hid rfl
        have u0 : 0 ≤ (k : Int) := by omega
        have u1 : (k : Int) < hs.length := by omega
        go_wp2_with fail
        have v5 : IntKind.i64.wrap (puU hs ls hs' ls' k + pu (nth hs k) (nth ls k) (nth hs' k) (nth ls' k)) = puU hs ls hs' ls' k + pu (nth hs k) (nth ls k) (nth hs' k) (nth ls' k) := IntWalk.i64_in _ (by omega)
        have ba : Below wr.heap.size wr (wr.alloc (.cells #[.int .i64 (nth hs' k), .int .i64 (nth ls' k)] 56)) := (Below.refl _ _).alloc (Nat.le_refl _) _
        have y0 := later_cell (cell_later c1 ba)
        have y1 := later_cell (cell_later e1 ba)
        have y2 := later_cell (cell_later e2 ba)
        have y3 := later_cell (w := wr.alloc (.cells #[.int .i64 (nth hs' k), .int .i64 (nth ls' k)] 56)) (p := ⟨wr.heap.size, 0, none⟩) (v := .int .i64 (nth hs' k)) (by simp)
        have y4 := later_cell (w := wr.alloc (.cells #[.int .i64 (nth hs' k), .int .i64 (nth ls' k)] 56)) (p := ⟨wr.heap.size, 1, none⟩) (v := .int .i64 (nth ls' k)) (by simp)
        have hy := later_refl (wr.alloc (.cells #[.int .i64 (nth hs' k), .int .i64 (nth ls' k)] 56))
        refine wp_region_later (by kernel_rfl) (by kernel_rfl) ?_
        iterate 7 quiet_step (fail)
        refine wpQuiet_step (fun K hK => ?_)
        go_simp
        refine ⟨.int .i64 (pu (nth hs k) (nth ls k) (nth hs' k) (nth ls' k)), fun x => later_call (x := x) (beadPushes g (k * 2) _ _ _ _ x.val (y1 x) (y2 x)), hK _ ?_⟩
        clear hK K
        quiet_step (fail)
        quiet_step (fail)
        refine wpQuiet_nil ?_
        intro w' hw'
        obtain ⟨⟨w3, b3⟩, hw''⟩ := hw'
        obtain rfl : w' = w3 := hw''
        have bq := bstep ba b3
        have HU1 := Lib.hid (U1.below bq)
        have HU2 := Lib.hid (U2.below bq)
        have HBQ := Lib.hid (bstep bw bq)
        clear hy y0 y1 y2 y3 y4 v5 c1 e1 e2 e3 e4
        go_wp2
        go_roundw
        case rel => exact ⟨k + 1, by omega, by go_num, by rw [HS.out], HU1.out, HU2.out, HBQ.out⟩
        case measure => simp [intOf]; omega
      · go_wp2
        go_ret
        obtain rfl : k = hs.length := by omega
        exact ⟨ret_int HV.out.symm, bstep hb0 (bstep q2 bw)⟩
  · have HV : Hid (fpush hs ls hs' ls' = -1) := Lib.hid (by simp [fpush, h3])
    have d3 : ((hs.length : Int) != (hs'.length : Int)) = true := by simp; omega
    clear h3
    go_enter Try.func27, Try.ntmps27
    go_wp2_with fail
    refine (rodsOf_yes _ _ _ _ _ _ _ hr0 ok).mono ?_
    rintro e w1 ⟨p, g, rfl, R1, q1⟩
    obtain ⟨x1, x2, x3, x4, z1, z2⟩ := box22 q1
    go_wp2_with fail
    refine (rodsOf_yes _ _ _ _ _ _ _ (hr0'.below q1) ok').mono ?_
    rintro e w2 ⟨p', g', rfl, R2, b2⟩
    clear x1 x2 x3 x4
    have q2 := bstep q1 b2
    have c1 := (R1.below b2).cbox
    have c2 := R2.cbox
    have pl1 := (R1.below b2).plt
    have pl2 := R2.plt
    go_wp2_with fail
    go_quiet (fail)
    go_wp2_with fail
    go_ret
    exact ⟨ret_int HV.out.symm, (bstep hb0 q2).drewN _⟩
end Go.Proofs.Ytfdbhaojdccomaa
