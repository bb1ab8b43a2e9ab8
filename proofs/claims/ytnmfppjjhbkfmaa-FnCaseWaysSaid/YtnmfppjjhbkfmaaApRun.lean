/- append and make as runs: for the laws of the operations of a region. -/
import Derived.Test.YtnmfppjjhbkfmaaRegU
namespace Go.Proofs.Ytnmfppjjhbkfmaa
open Go.RowKit

theorem below_new (w : World) (o : Obj) : Below w.heap.size w (w.alloc o) := (Below.refl _ _).alloc (Nat.le_refl _) _

theorem ap_run (ty : TypeId) (w : World) (base : Nat) (A : Option Addr) (c : Nat) (zs : List Int) (b off d : Nat) (ys : List Int) (hown : Sl w base A c zs) (hy : ∀ j, j < ys.length → w.cell? ⟨b, off + j, none⟩ = some (.int .i64 (nth ys j)))
    (hlen : zs.length + ys.length ≤ 4194304) (hbase : base ≤ w.heap.size) :
    ∃ A' c' w', (Builtin.append_ #[24, 24] ty #[.slice A zs.length c, .slice (some ⟨b, off, none⟩) ys.length d]).run Try.prog w = .ok (.slice A' (zs.length + ys.length) c') w' ∧ Sl w' base A' c' (zs ++ ys) ∧ w.grownBy w' (blk A) ∧ (blk A' = blk A ∨ ∃ g, blk A' = some g ∧ w.heap.size ≤ g) := by
  obtain ⟨i, hi, hz0, hz1, hz2⟩ := info_parts int_info
  obtain ⟨v', w', hr, h2, h3, h4, h5⟩ := run_append_own_at (P := Try.prog) w base 24 ty 3 i (.int .i64 0) 1 8 Try.underlying24 hi hz0 hz1 hz2 rfl (by decide) _ zs.length (zs.map (Value.int .i64)) hown
    ⟨b, off, none⟩ ys.length d (ys.map (Value.int .i64)) (by simp) (by
      intro j u hj
      rw [List.getElem?_map] at hj
      have hjl : j < ys.length := by
        rcases Nat.lt_or_ge j ys.length with h1 | h1
        · exact h1
        · rw [List.getElem?_eq_none h1] at hj; simp at hj
      rw [nth_lt hjl] at hj
      simp at hj
      subst hj
      have ha : (⟨b, off, none⟩ : Addr).add j = ⟨b, off + j, none⟩ := by
        unfold Addr.add; split <;> simp_all
      rw [ha]; exact hy j hjl) (by
      intro u hu
      simp at hu
      obtain ⟨z, _, rfl⟩ := hu
      rfl) (by simp only [maxLen]; omega) (by omega) hbase
  rw [ownBlock_blk] at h3 h5
  have hf : ∃ A' c', v' = .slice A' (zs.length + ys.length) c' := by
    rcases h2.2 with ⟨hv, h0⟩ | ⟨g, cap, cur, hv, _⟩
    · exact ⟨none, 0, by rw [hv]; simp; omega⟩
    · exact ⟨some ⟨g, 0, none⟩, cap, hv⟩
  obtain ⟨A', c', rfl⟩ := hf
  rw [ownBlock_blk] at h5
  refine ⟨A', c', w', hr, ?_, h3, ?_⟩
  · unfold Sl
    simpa using h2
  · rcases h5 with h1 | h1
    · exact .inl h1
    · exact .inr ⟨_, h1, Nat.le_refl _⟩

theorem ap_run1 (ty : TypeId) (w : World) (base : Nat) (A : Option Addr) (c : Nat) (zs : List Int) (b d : Nat) (z : Int) (hown : Sl w base A c zs) (hy : w.cell? ⟨b, 0, none⟩ = some (.int .i64 z)) (hlen : zs.length + 1 ≤ 4194304) (hbase : base ≤ w.heap.size) :
    ∃ A' c' w', (Builtin.append_ #[24, 24] ty #[.slice A zs.length c, .slice (some ⟨b, 0, none⟩) 1 d]).run Try.prog w = .ok (.slice A' (zs.length + 1) c') w' ∧ Sl w' base A' c' (zs ++ [z]) ∧ w.grownBy w' (blk A) ∧ (blk A' = blk A ∨ ∃ g, blk A' = some g ∧ w.heap.size ≤ g) :=
  ap_run ty w base A c zs b 0 d [z] hown (fun j hj => by
    have : j = 0 := by simpa using hj
    subst this
    exact hy) hlen hbase

/-- append as an operation of a region. -/
theorem kept_ap {P : Program} {o : Oper} {a : Act} {w : World} {K : Value → World → Prop} (t : TypeId) (s x : Operand) (ho : o.op = .call { callee := .builtin .append, args := #[s, x], argTypes := #[t, t] }) {vs vx v' : Value} {w' : World}
    (hr : (Builtin.append_ #[t, t] o.type #[vs, vx]).run P w = .ok v' w') (hs : a.eval s = vs) (hx : a.eval x = vx) (hK : K v' w') : Kept (Gives P o a w K) := by
  refine ⟨?_⟩
  unfold Gives execOp
  simp only [ho, resolve, invoke, builtin, Sem.run_bind, Sem.run_pure, Result.andThen_ok, List.map_toArray, List.map_cons, List.map_nil, hs, hx, hr]
  exact hK
end Go.Proofs.Ytnmfppjjhbkfmaa
