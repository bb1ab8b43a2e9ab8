/- Notches of the same worth are the same text. -/
import Derived.Test.YtfdabeikcpccgaaNotLaw
import Derived.Test.YtfdabeikcpccgaaFraud
namespace Go.Proofs.Ytfdabeikcpccgaa

def nform (t : NSt) : List UInt8 := rpt 77 t.a ++ rpt 67 t.b ++ rpt 88 t.c ++ rpt 73 t.d

theorem rpt_snoc (c : UInt8) : ∀ n : Nat, rpt c n ++ [c] = rpt c (n + 1)
  | 0 => rfl
  | n + 1 => by rw [rpt_succ, List.cons_append, rpt_snoc c n, rpt_succ c (n + 1)]
theorem rpt_zero (c : UInt8) : rpt c 0 = [] := rfl

theorem u8_of {x : UInt8} {n : Nat} (h : x.toNat = n) (hn : n < 256) : x = UInt8.ofNat n := by
  subst h
  simp

theorem nform_step {t t' : NSt} {x : UInt8} {k : Nat} (ht : t.ok k) (h : nstep t x.toNat = some t') : nform t ++ [x] = nform t' := by
  have := ht.b0; have := ht.c0; have := ht.d0
  rcases nstep_cases h with ⟨hx, h1, h2, rfl⟩ | ⟨hx, h1, h2, rfl⟩ | ⟨hx, h1, h2, rfl⟩ | ⟨hx, h1, h2, rfl⟩
  · obtain rfl : x = 77 := u8_of (n := 77) hx (by decide)
    have b0 : t.b = 0 := by omega
    have c0 : t.c = 0 := by omega
    have d0 : t.d = 0 := by omega
    simp [nform, b0, c0, d0, rpt_zero, rpt_snoc]
  · obtain rfl : x = 67 := u8_of (n := 67) hx (by decide)
    have c0 : t.c = 0 := by omega
    have d0 : t.d = 0 := by omega
    simp [nform, c0, d0, rpt_zero, rpt_snoc]
  · obtain rfl : x = 88 := u8_of (n := 88) hx (by decide)
    have d0 : t.d = 0 := by omega
    simp [nform, d0, rpt_zero, rpt_snoc]
  · obtain rfl : x = 73 := u8_of (n := 73) hx (by decide)
    simp [nform, rpt_snoc]

theorem nform_run : ∀ {l : List UInt8} {t t' : NSt} {k : Nat}, t.ok k → nrun t l = some t' → nform t ++ l = nform t'
  | [], t, t', k, _, h => by simp [nrun] at h; subst h; simp
  | x :: l, t, t', k, ht, h => by
    cases hs : nstep t x.toNat with
    | none => rw [nrun_none hs] at h; cases h
    | some u =>
      rw [nrun_some hs] at h
      have := nform_run (nstep_ok ht hs) h
      rw [← nform_step ht hs] at this
      simpa using this

theorem notches_same {s f : ByteArray} (hs : notB s = true) (hf : notB f = true) (he : lsum s.data.toList = lsum f.data.toList) : s = f := by
  simp only [notB, Option.isSome_iff_exists] at hs hf
  obtain ⟨t, ht⟩ := hs
  obtain ⟨u, hu⟩ := hf
  have w1 := nrun_worth ht
  have w2 := nrun_worth hu
  have o1 := nrun_ok nst0_ok ht
  have o2 := nrun_ok nst0_ok hu
  have f1 := nform_run nst0_ok ht
  have f2 := nform_run nst0_ok hu
  have : nform t = nform u := by
    have := o1.a9; have := o1.b9; have := o1.c9; have := o1.d9
    have := o2.a9; have := o2.b9; have := o2.c9; have := o2.d9
    have hw : t.worth = u.worth := by omega
    simp only [NSt.worth] at hw
    have e1 : t.a = u.a := by omega
    have e2 : t.b = u.b := by omega
    have e3 : t.c = u.c := by omega
    have e4 : t.d = u.d := by omega
    simp only [nform, e1, e2, e3, e4]
  rw [← f1, ← f2] at this
  have h0 : nform nst0 = [] := rfl
  rw [h0, List.nil_append, List.nil_append] at this
  apply ByteArray.ext
  exact Array.toList_inj.1 this

/-- A tally's fraud and its match. -/
theorem fraud_neg {d c : Int} {s f : ByteArray} (h : (twoB d c && notB s && notB f) = false) : fraud d c s f = -1 := by simp [fraud, h]
theorem fraud_pos {d c : Int} {s f : ByteArray} (h : (twoB d c && notB s && notB f) = true) :
    (fraud d c s f = 1 ∧ fraud d c f s = 2 ∧ (twoB d c && notB s && (s.toList == f.toList)) = false) ∨ (fraud d c s f = 2 ∧ fraud d c f s = 1 ∧ (twoB d c && notB s && (s.toList == f.toList)) = false) ∨
    (fraud d c s f = 0 ∧ fraud d c f s = 0 ∧ (twoB d c && notB s && (s.toList == f.toList)) = true) := by
  simp only [Bool.and_eq_true] at h
  obtain ⟨⟨h1, h2⟩, h3⟩ := h
  have ne : lsum s.data.toList ≠ lsum f.data.toList → (s.toList == f.toList) = false := by
    intro hl
    rw [beq_eq_false_iff_ne]
    intro he
    apply hl
    rw [Lib.toList_data, Lib.toList_data] at he
    rw [he]
  by_cases hlt : lsum f.data.toList < lsum s.data.toList
  · left
    refine ⟨by simp [fraud, h1, h2, h3, hlt], ?_, by simp [ne (by omega)]⟩
    simp only [fraud, h1, h2, h3, Bool.and_self, if_true]
    rw [if_neg (by omega), if_pos hlt]
  by_cases hgt : lsum s.data.toList < lsum f.data.toList
  · right; left
    refine ⟨?_, by simp [fraud, h1, h2, h3, hgt], by simp [ne (by omega)]⟩
    simp only [fraud, h1, h2, h3, Bool.and_self, if_true]
    rw [if_neg hlt, if_pos hgt]
  · right; right
    obtain rfl := notches_same h2 h3 (by omega)
    refine ⟨?_, ?_, by simp [h1, h2]⟩
    · simp [fraud, h1, h2]
    · simp [fraud, h1, h2]
end Go.Proofs.Ytfdabeikcpccgaa
