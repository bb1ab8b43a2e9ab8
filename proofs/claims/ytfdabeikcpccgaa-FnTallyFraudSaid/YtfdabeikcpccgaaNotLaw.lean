/- The notches that NotchesOf writes: they are notches, their worth is the number, their length is the sum of its digits. -/
import Derived.Test.YtfdabeikcpccgaaNotO
namespace Go.Proofs.Ytfdabeikcpccgaa

theorem nrun_app : ∀ (l1 l2 : List UInt8) (t : NSt), nrun t (l1 ++ l2) = (nrun t l1).bind fun u => nrun u l2
  | [], l2, t => rfl
  | x :: l1, l2, t => by
    cases hs : nstep t x.toNat with
    | none => rw [List.cons_append, nrun_none hs, nrun_none hs]; rfl
    | some u => rw [List.cons_append, nrun_some hs, nrun_some hs]; exact nrun_app l1 l2 u

theorem rpt_succ (c : UInt8) (n : Nat) : rpt c (n + 1) = c :: rpt c n := rfl

theorem run_M (b c d : Nat) : ∀ (n a : Nat), a + n ≤ 9 → nrun ⟨a, b, c, d, 0⟩ (rpt 77 n) = some ⟨a + n, b, c, d, 0⟩
  | 0, a, _ => rfl
  | n + 1, a, h => by
    have hs : nstep ⟨a, b, c, d, 0⟩ (77 : UInt8).toNat = some ⟨a + 1, b, c, d, 0⟩ := by simp [nstep]; omega
    rw [rpt_succ, nrun_some hs, run_M b c d n (a + 1) (by omega)]
    simp; omega
theorem run_C (a c d : Nat) : ∀ (n b l : Nat), b + n ≤ 9 → l ≤ 1 → ∃ l', l' ≤ 1 ∧ nrun ⟨a, b, c, d, l⟩ (rpt 67 n) = some ⟨a, b + n, c, d, l'⟩
  | 0, b, l, _, hl => ⟨l, hl, rfl⟩
  | n + 1, b, l, h, hl => by
    have hs : nstep ⟨a, b, c, d, l⟩ (67 : UInt8).toNat = some ⟨a, b + 1, c, d, 1⟩ := by simp [nstep]; omega
    obtain ⟨l', h1, h2⟩ := run_C a c d n (b + 1) 1 (by omega) (by omega)
    refine ⟨l', h1, ?_⟩
    rw [rpt_succ, nrun_some hs, h2]
    simp; omega
theorem run_X (a b d : Nat) : ∀ (n c l : Nat), c + n ≤ 9 → l ≤ 2 → ∃ l', l' ≤ 2 ∧ nrun ⟨a, b, c, d, l⟩ (rpt 88 n) = some ⟨a, b, c + n, d, l'⟩
  | 0, c, l, _, hl => ⟨l, hl, rfl⟩
  | n + 1, c, l, h, hl => by
    have hs : nstep ⟨a, b, c, d, l⟩ (88 : UInt8).toNat = some ⟨a, b, c + 1, d, 2⟩ := by simp [nstep]; omega
    obtain ⟨l', h1, h2⟩ := run_X a b d n (c + 1) 2 (by omega) (by omega)
    refine ⟨l', h1, ?_⟩
    rw [rpt_succ, nrun_some hs, h2]
    simp; omega
theorem run_I (a b c : Nat) : ∀ (n d l : Nat), d + n ≤ 9 → l ≤ 3 → ∃ l', l' ≤ 3 ∧ nrun ⟨a, b, c, d, l⟩ (rpt 73 n) = some ⟨a, b, c, d + n, l'⟩
  | 0, d, l, _, hl => ⟨l, hl, rfl⟩
  | n + 1, d, l, h, hl => by
    have hs : nstep ⟨a, b, c, d, l⟩ (73 : UInt8).toNat = some ⟨a, b, c, d + 1, 3⟩ := by simp [nstep]; omega
    obtain ⟨l', h1, h2⟩ := run_I a b c n (d + 1) 3 (by omega) (by omega)
    refine ⟨l', h1, ?_⟩
    rw [rpt_succ, nrun_some hs, h2]
    simp; omega

theorem notL_run (x : Nat) (h : x ≤ 9999) : ∃ l, nrun nst0 (str (notL x)).data.toList = some ⟨x / 1000, x / 100 % 10, x / 10 % 10, x % 10, l⟩ := by
  show ∃ l, nrun nst0 (notL x) = _
  obtain ⟨l1, h1, e1⟩ := run_C (x / 1000) 0 0 (x / 100 % 10) 0 0 (by omega) (by omega)
  obtain ⟨l2, h2, e2⟩ := run_X (x / 1000) (x / 100 % 10) 0 (x / 10 % 10) 0 l1 (by omega) (by omega)
  obtain ⟨l3, h3, e3⟩ := run_I (x / 1000) (x / 100 % 10) (x / 10 % 10) (x % 10) 0 l2 (by omega) (by omega)
  refine ⟨l3, ?_⟩
  have e0 := run_M 0 0 0 (x / 1000) 0 (by omega)
  rw [notL, nrun_app, nrun_app, nrun_app]
  show ((((nrun ⟨0, 0, 0, 0, 0⟩ (rpt 77 (x / 1000))).bind _).bind _).bind _) = _
  rw [e0]
  simp only [Nat.zero_add] at e1 e2 e3 ⊢
  show (((nrun _ _).bind _).bind _) = _
  rw [e1]
  show ((nrun _ _).bind _) = _
  rw [e2]
  exact e3

theorem notB_notL (x : Nat) (h : x ≤ 9999) : notB (str (notL x)) = true := by
  obtain ⟨l, hl⟩ := notL_run x h
  exact notB_some hl
theorem notW_notL (x : Nat) (h : x ≤ 9999) : notW (str (notL x)) = (x : Int) := by
  obtain ⟨l, hl⟩ := notL_run x h
  rw [notW_some hl]
  simp only [NSt.worth]
  omega
/-- The sum of four digits. -/
def dsum (x : Nat) : Nat := x / 1000 + x / 100 % 10 + x / 10 % 10 + x % 10
theorem notL_dsum (x : Nat) : (str (notL x)).size = dsum x := by
  rw [str_size, notL]
  simp only [List.length_append, rpt_len, dsum]
theorem dsum_step (m : Nat) (h : m ≤ 9999) : dsum m = m % 10 + dsum (m / 10) := by
  simp only [dsum]
  omega
theorem dsum_le (m : Nat) (h : m ≤ 9999) : dsum m ≤ 36 := by
  simp only [dsum]
  omega
end Go.Proofs.Ytfdabeikcpccgaa
