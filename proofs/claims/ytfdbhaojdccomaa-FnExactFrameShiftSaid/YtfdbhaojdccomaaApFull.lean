/- append onto a full row: old memory is as it was. -/
import Derived.Test.YtfdbhaojdccomaaApRun
namespace Go.Proofs.Ytfdbhaojdccomaa
open Go.RowKit

theorem ap_full (ty : TypeId) (w : World) (base x : Nat) (zs : List Int) (b off d : Nat) (ys : List Int) (hown : Sl w base (some ⟨x, 0, none⟩) zs.length zs) (hy : ∀ j, j < ys.length → w.cell? ⟨b, off + j, none⟩ = some (.int .i64 (nth ys j)))
    (hlen : zs.length + ys.length ≤ 4194304) (hbase : base ≤ w.heap.size) :
    ∃ A' c' w', (Builtin.append_ #[22, 22] ty #[.slice (some ⟨x, 0, none⟩) zs.length zs.length, .slice (some ⟨b, off, none⟩) ys.length d]).run Try.prog w = .ok (.slice A' (zs.length + ys.length) c') w' ∧ Sl w' base A' c' (zs ++ ys) ∧ Below w.heap.size w w' ∧ (blk A' = some x ∨ ∃ g, blk A' = some g ∧ w.heap.size ≤ g) := by
  obtain ⟨A', c', w', hr, h1, h2, h3⟩ := ap_run ty w base (some ⟨x, 0, none⟩) zs.length zs b off d ys hown hy hlen hbase
  refine ⟨A', c', w', hr, h1, ?_, h3⟩
  obtain ⟨i, hi, hz0, hz1, hz2⟩ := info_parts int_info
  have hnews : ∀ j u, (ys.map (Value.int .i64))[j]? = some u → w.cell? ((⟨b, off, none⟩ : Addr).add j) = some u := by
    intro j u hj
    rw [List.getElem?_map] at hj
    have hjl : j < ys.length := by
      rcases Nat.lt_or_ge j ys.length with h1 | h1
      · exact h1
      · rw [List.getElem?_eq_none h1] at hj; simp at hj
    rw [nth_lt hjl] at hj
    simp at hj
    subst hj
    have ha : (⟨b, off, none⟩ : Addr).add j = ⟨b, off + j, none⟩ := by
      unfold Addr.add; split <;> simp_all
    rw [ha]; exact hy j hjl
  rcases Nat.eq_zero_or_pos ys.length with h0 | h0
  · have hy0 : ys = [] := List.eq_nil_of_length_eq_zero h0
    subst hy0
    rcases hown.2 with ⟨hv, _⟩ | ⟨g, cap, cur, hv, _, hg, hnc, hcm, hcs, htake⟩
    · cases hv
    injection hv with e1 e2 e3
    injection e1 with e1
    injection e1 with e1
    subst e1 e3
    have hr2 := run_append_room (P := Try.prog) w 22 ty 3 i Try.underlying22 hi x zs.length zs.length cur hg ⟨b, off, none⟩ 0 d [] (by simp) (by intro j u h; simp at h) (by simp) (by omega) (by rw [hz1, hcs]; simp)
    simp only [List.length_nil] at hr
    rw [hr2] at hr
    injection hr with _ hw
    subst hw
    refine ⟨rfl, rfl, rfl, by simp [World.setRow], fun k hk => ?_⟩
    have e : (cur.toList.take (zs.length * i.size) ++ [] ++ cur.toList.drop (zs.length * i.size + ([] : List Value).length)).toArray = cur := by simp
    rw [e]
    show (w.heap.modify x _)[k]? = w.heap[k]?
    rw [Array.getElem?_modify]
    split
    · rename_i hxk
      subst hxk
      rw [hg]
      rfl
    · rfl
  · have holds : ∀ j u, (zs.map (Value.int .i64))[j]? = some u → w.cell? ((⟨x, 0, none⟩ : Addr).add j) = some u := by
      intro j u hj
      rw [List.getElem?_map] at hj
      have hjl : j < zs.length := by
        rcases Nat.lt_or_ge j zs.length with h1 | h1
        · exact h1
        · rw [List.getElem?_eq_none h1] at hj; simp at hj
      rw [nth_lt hjl] at hj
      simp at hj
      subst hj
      have ha : (⟨x, 0, none⟩ : Addr).add j = ⟨x, 0 + j, none⟩ := by
        unfold Addr.add; split <;> simp_all
      rw [ha, Nat.zero_add]
      exact hown.cell hjl
    have hr2 := run_append_grow (P := Try.prog) w 22 ty 3 i (.int .i64 0) Try.underlying22 hi hz0 ⟨x, 0, none⟩ zs.length zs.length (zs.map (Value.int .i64)) (by simp [hz1]) holds ⟨b, off, none⟩ ys.length d (ys.map (Value.int .i64)) (by simp [hz1]) hnews (by omega) (by omega) (growslice_fits (by omega) (by rw [hz2]; omega))
    rw [hr2] at hr
    injection hr with _ hw
    subst hw
    exact ((Below.refl _ _).drew).alloc (Nat.le_refl _) _
end Go.Proofs.Ytfdbhaojdccomaa
