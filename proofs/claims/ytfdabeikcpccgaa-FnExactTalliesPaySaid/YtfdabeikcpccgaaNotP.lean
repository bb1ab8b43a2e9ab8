/- Notches in plain words: the run of the four counts over a text's bytes. -/
import Derived.Test.YtfdabeikcpccgaaKit
namespace Go.Proofs.Ytfdabeikcpccgaa

/-- The counts of the four letters, and the index of the letter that stood last. -/
structure NSt where
  a : Nat
  b : Nat
  c : Nat
  d : Nat
  l : Nat

def nst0 : NSt := ⟨0, 0, 0, 0, 0⟩

/-- One letter more. -/
def nstep (t : NSt) (x : Nat) : Option NSt :=
  if x = 77 then (if t.l = 0 ∧ t.a < 9 then some ⟨t.a + 1, t.b, t.c, t.d, 0⟩ else none)
  else if x = 67 then (if t.l ≤ 1 ∧ t.b < 9 then some ⟨t.a, t.b + 1, t.c, t.d, 1⟩ else none)
  else if x = 88 then (if t.l ≤ 2 ∧ t.c < 9 then some ⟨t.a, t.b, t.c + 1, t.d, 2⟩ else none)
  else if x = 73 then (if t.l ≤ 3 ∧ t.d < 9 then some ⟨t.a, t.b, t.c, t.d + 1, 3⟩ else none)
  else none

def nrun : NSt → List UInt8 → Option NSt
  | t, [] => some t
  | t, x :: l => match nstep t x.toNat with
    | none => none
    | some t' => nrun t' l

theorem nrun_none {t : NSt} {x : UInt8} {l : List UInt8} (h : nstep t x.toNat = none) : nrun t (x :: l) = none := by simp [nrun, h]
theorem nrun_some {t t' : NSt} {x : UInt8} {l : List UInt8} (h : nstep t x.toNat = some t') : nrun t (x :: l) = nrun t' l := by simp [nrun, h]

/-- The state behind k letters. -/
structure NSt.ok (t : NSt) (k : Nat) : Prop where
  a9 : t.a ≤ 9
  b9 : t.b ≤ 9
  c9 : t.c ≤ 9
  d9 : t.d ≤ 9
  l3 : t.l ≤ 3
  b0 : t.l < 1 → t.b = 0
  c0 : t.l < 2 → t.c = 0
  d0 : t.l < 3 → t.d = 0
  k0 : t.a + t.b + t.c + t.d = k

theorem nst0_ok : nst0.ok 0 := ⟨by decide, by decide, by decide, by decide, by decide, fun _ => rfl, fun _ => rfl, fun _ => rfl, rfl⟩

theorem nstep_cases {t t' : NSt} {x : Nat} (h : nstep t x = some t') :
    (x = 77 ∧ t.l = 0 ∧ t.a < 9 ∧ t' = ⟨t.a + 1, t.b, t.c, t.d, 0⟩) ∨ (x = 67 ∧ t.l ≤ 1 ∧ t.b < 9 ∧ t' = ⟨t.a, t.b + 1, t.c, t.d, 1⟩) ∨
    (x = 88 ∧ t.l ≤ 2 ∧ t.c < 9 ∧ t' = ⟨t.a, t.b, t.c + 1, t.d, 2⟩) ∨ (x = 73 ∧ t.l ≤ 3 ∧ t.d < 9 ∧ t' = ⟨t.a, t.b, t.c, t.d + 1, 3⟩) := by
  unfold nstep at h
  split at h
  · split at h
    · injection h with h; exact .inl ⟨by assumption, by omega, by omega, h.symm⟩
    · cases h
  · split at h
    · split at h
      · injection h with h; exact .inr (.inl ⟨by assumption, by omega, by omega, h.symm⟩)
      · cases h
    · split at h
      · split at h
        · injection h with h; exact .inr (.inr (.inl ⟨by assumption, by omega, by omega, h.symm⟩))
        · cases h
      · split at h
        · split at h
          · injection h with h; exact .inr (.inr (.inr ⟨by assumption, by omega, by omega, h.symm⟩))
          · cases h
        · cases h

theorem nstep_ok {t t' : NSt} {x k : Nat} (ht : t.ok k) (h : nstep t x = some t') : t'.ok (k + 1) := by
  have := ht.k0; have := ht.a9; have := ht.b9; have := ht.c9; have := ht.d9; have := ht.l3; have := ht.b0; have := ht.c0; have := ht.d0
  rcases nstep_cases h with ⟨_, h1, h2, rfl⟩ | ⟨_, h1, h2, rfl⟩ | ⟨_, h1, h2, rfl⟩ | ⟨_, h1, h2, rfl⟩ <;> constructor <;> simp <;> omega

/-- The worth of a letter. -/
def lw (x : Nat) : Int := if x = 77 then 1000 else if x = 67 then 100 else if x = 88 then 10 else if x = 73 then 1 else 0
theorem lw_bd (x : Nat) : 0 ≤ lw x ∧ lw x ≤ 1000 := by unfold lw; split <;> (try split) <;> (try split) <;> (try split) <;> omega
def lsum : List UInt8 → Int
  | [] => 0
  | x :: l => lw x.toNat + lsum l
theorem lsum_snoc (l : List UInt8) (x : UInt8) : lsum (l ++ [x]) = lsum l + lw x.toNat := by
  induction l with
  | nil => simp [lsum]
  | cons y l ih => simp only [List.cons_append, lsum, ih]; omega
theorem lsum_bd (l : List UInt8) : 0 ≤ lsum l ∧ lsum l ≤ 1000 * l.length := by
  induction l with
  | nil => simp [lsum]
  | cons y l ih => have := lw_bd y.toNat; simp only [lsum, List.length_cons]; omega

/-- The worth of the counts. -/
def NSt.worth (t : NSt) : Int := 1000 * t.a + 100 * t.b + 10 * t.c + t.d
theorem nstep_worth {t t' : NSt} {x : Nat} (h : nstep t x = some t') : t'.worth = t.worth + lw x := by
  rcases nstep_cases h with ⟨rfl, h1, h2, rfl⟩ | ⟨rfl, h1, h2, rfl⟩ | ⟨rfl, h1, h2, rfl⟩ | ⟨rfl, h1, h2, rfl⟩ <;> simp [NSt.worth, lw] <;> omega
theorem nrun_worth : ∀ {l : List UInt8} {t t' : NSt}, nrun t l = some t' → t'.worth = t.worth + lsum l
  | [], t, t', h => by simp [nrun] at h; subst h; simp [lsum]
  | x :: l, t, t', h => by
    cases hs : nstep t x.toNat with
    | none => rw [nrun_none hs] at h; cases h
    | some u => rw [nrun_some hs] at h; have := nrun_worth h; have := nstep_worth hs; simp only [lsum]; omega
theorem nrun_ok : ∀ {l : List UInt8} {t t' : NSt} {k : Nat}, t.ok k → nrun t l = some t' → t'.ok (k + l.length)
  | [], t, t', k, ht, h => by simp [nrun] at h; subst h; simpa using ht
  | x :: l, t, t', k, ht, h => by
    cases hs : nstep t x.toNat with
    | none => rw [nrun_none hs] at h; cases h
    | some u => rw [nrun_some hs] at h; have := nrun_ok (nstep_ok ht hs) h; simpa [Nat.add_assoc, Nat.add_comm 1] using this

/-- The text are notches. -/
def notB (s : ByteArray) : Bool := (nrun nst0 s.data.toList).isSome
/-- What they are worth, -1 for other texts. -/
def notW (s : ByteArray) : Int := if notB s then lsum s.data.toList else -1

theorem drop_cons (s : ByteArray) (k : Nat) (h : k < s.size) : s.data.toList.drop k = s[k] :: s.data.toList.drop (k + 1) := by
  rw [List.drop_eq_getElem_cons (by simpa using h)]; rfl
theorem drop_all (s : ByteArray) (k : Nat) (h : ¬ k < s.size) : s.data.toList.drop k = [] := by
  rw [List.drop_eq_nil_iff]; simpa using h

theorem notB_none {s : ByteArray} (h : nrun nst0 s.data.toList = none) : notB s = false := by simp [notB, h]
theorem notB_some {s : ByteArray} {t : NSt} (h : nrun nst0 s.data.toList = some t) : notB s = true := by simp [notB, h]
theorem notW_none {s : ByteArray} (h : nrun nst0 s.data.toList = none) : notW s = -1 := by simp [notW, notB_none h]
theorem notW_some {s : ByteArray} {t : NSt} (h : nrun nst0 s.data.toList = some t) : notW s = t.worth := by
  have := nrun_worth h
  simp [notW, notB_some h]
  simp [nst0, NSt.worth] at this
  simp [NSt.worth]; omega
end Go.Proofs.Ytfdabeikcpccgaa
