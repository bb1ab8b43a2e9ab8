/- One letter more, as the reference looks at it: by the letter ahead of it and the count of letters alike. -/
import Derived.Test.YtfdabeikcpccgaaNotP
namespace Go.Proofs.Ytfdabeikcpccgaa

/-- The letter with an index. -/
def let4 (q : Nat) : Nat := if q = 0 then 77 else if q = 1 then 67 else if q = 2 then 88 else 73
/-- The count of the letter that stood last. -/
def NSt.cnt (t : NSt) : Nat := if t.l = 0 then t.a else if t.l = 1 then t.b else if t.l = 2 then t.c else t.d
theorem NSt.ok.cnt9 {t : NSt} {k : Nat} (h : t.ok k) : t.cnt ≤ 9 := by
  have := h.a9; have := h.b9; have := h.c9; have := h.d9
  unfold NSt.cnt; split <;> (try split) <;> (try split) <;> omega

theorem lw_zero {x : Nat} (h : lw x = 0) : x ≠ 77 ∧ x ≠ 67 ∧ x ≠ 88 ∧ x ≠ 73 := by
  refine ⟨?_, ?_, ?_, ?_⟩ <;> (rintro rfl; simp [lw] at h)
theorem lw_pos {x : Nat} (h : lw x ≠ 0) : x = 77 ∨ x = 67 ∨ x = 88 ∨ x = 73 := by
  unfold lw at h
  split at h
  · exact .inl (by assumption)
  · split at h
    · exact .inr (.inl (by assumption))
    · split at h
      · exact .inr (.inr (.inl (by assumption)))
      · split at h
        · exact .inr (.inr (.inr (by assumption)))
        · exact absurd rfl h

theorem sp_none {t : NSt} {x : Nat} (h : lw x = 0) : nstep t x = none := by
  obtain ⟨h1, h2, h3, h4⟩ := lw_zero h
  simp [nstep, h1, h2, h3, h4]

/-- The state behind one letter more, of which there are n in a row. -/
def Onto (t : NSt) (x n : Nat) : Prop := ∃ t', nstep t x = some t' ∧ t'.cnt = n ∧ let4 t'.l = x

theorem sp_first {t : NSt} {x : Nat} (h0 : t.ok 0) (hl : t.l = 0) (h : lw x ≠ 0) : Onto t x 1 := by
  have := h0.k0
  obtain ⟨a, b, c, d, l⟩ := t
  simp at this hl
  obtain ⟨⟨⟨rfl, rfl⟩, rfl⟩, rfl⟩ := this
  subst hl
  rcases lw_pos h with rfl | rfl | rfl | rfl <;> exact ⟨_, rfl, rfl, rfl⟩

theorem l_cases {t : NSt} {k : Nat} (h : t.ok k) : t.l = 0 ∨ t.l = 1 ∨ t.l = 2 ∨ t.l = 3 := by have := h.l3; omega

theorem sp_up {t : NSt} {k x : Nat} (ht : t.ok k) (h : lw (let4 t.l) < lw x) : nstep t x = none := by
  have hx : lw x ≠ 0 := by have := lw_bd (let4 t.l); omega
  rcases lw_pos hx with rfl | rfl | rfl | rfl <;> rcases l_cases ht with hl | hl | hl | hl <;> simp [hl, let4, lw] at h <;> simp [nstep, hl]

theorem sp_down {t : NSt} {k x : Nat} (ht : t.ok k) (hx : lw x ≠ 0) (h : ¬ lw (let4 t.l) < lw x) (hne : x ≠ let4 t.l) : Onto t x 1 := by
  have b0 := ht.b0
  have c0 := ht.c0
  have d0 := ht.d0
  rcases lw_pos hx with rfl | rfl | rfl | rfl <;> rcases l_cases ht with hl | hl | hl | hl <;> simp [hl, let4, lw] at h hne
  all_goals
    simp [hl] at b0 c0 d0
    simp [Onto, nstep, NSt.cnt, let4, *]

theorem sp_same {t : NSt} {k x : Nat} (ht : t.ok k) (he : x = let4 t.l) (hc : t.cnt < 9) : Onto t x (t.cnt + 1) := by
  subst he
  rcases l_cases ht with hl | hl | hl | hl <;> simp [NSt.cnt, hl] at hc <;> simp [Onto, nstep, NSt.cnt, let4, hl, hc]

theorem sp_full {t : NSt} {k x : Nat} (ht : t.ok k) (he : x = let4 t.l) (hc : ¬ t.cnt < 9) : nstep t x = none := by
  subst he
  rcases l_cases ht with hl | hl | hl | hl <;> simp [NSt.cnt, hl] at hc <;> simp [nstep, let4, hl] <;> omega
end Go.Proofs.Ytfdabeikcpccgaa
