/- Contracts of restBy and passes. -/
import Derived.Test.YtceigfdmaeanaabNinM
import Derived.MapKept
import Derived.Carry
namespace Go.Proofs.Ytceigfdmaeanaab
open Go.RowKit Go.MapKept

theorem mu_new {w : World} {b : Nat} {es : Array MapEntry} {cl : Nat} (k : Int) (v : Value) (hb : w.heap[b]? = some (.map es cl)) (h1 : Instr.findNow (.int .i64) (.int .i64 k) es.toList 0 = some none) :
    (Instr.mapUpdate 65 (.map (some b)) (.int .i64 k) v).run Try.prog w = .ok () { w with heap := w.heap.setIfInBounds b (.map (es.push { key := .int .i64 k, val := v, born := cl }) (cl + 1)) } := by
  simp [Instr.mapUpdate, run_underlying Try.underlying65, Go.MapKept.run_getObj_map hb, Go.MapKept.run_checkKey Try.underlying3 (show IsKey (.int .i64) (.int .i64 k) from rfl), Go.MapKept.run_findKey Try.underlying3 h1, Go.MapKept.run_setObj_map _ hb, Result.andThen]
theorem lk_at {w : World} {b i : Nat} {es : Array MapEntry} {cl : Nat} (k : Int) (v : Value) (hb : w.heap[b]? = some (.map es cl)) (h1 : Instr.findNow (.int .i64) (.int .i64 k) es.toList 0 = some (some (i, v))) :
    (Instr.lookup 65 (.map (some b)) (.int .i64 k) false).run Try.prog w = .ok v w := by
  simp [Instr.lookup, run_underlying Try.underlying65, Go.MapKept.run_getObj_map hb, Go.MapKept.run_checkKey Try.underlying3 (show IsKey (.int .i64) (.int .i64 k) from rfl), Go.MapKept.run_findKey Try.underlying3 h1, Result.andThen]
theorem below_map {B b : Nat} {w w1 : World} {o : Obj} (h : Below B w w1) (hb : B ≤ b) : Below B w { w1 with heap := w1.heap.setIfInBounds b o } :=
  ⟨h.os, h.tape, h.output, by simpa using h.size, fun k hk => by
    have : b ≠ k := by omega
    simp [this, h.block k hk]⟩

set_option maxRecDepth 100000 in
theorem restBy9 (w : World) : Calls Try.prog 60 #[.int .i64 9] w fun e w' => e = .returned (.func (Fn.func 66) #[] #[]) ∧ Below w.heap.size w w' := by
  have hb0 := (Below.refl w.heap.size w).alloc (Nat.le_refl _) (.map #[] 0)
  go_enter Try.func60, Try.ntmps60
  go_wp2_with fail
  rw [run_makeMap]
  simp only [Result.andThen]
  rw [Oper.upon_value]
  have h1 : (w.alloc (.map #[] 0)).heap[w.heap.size]? = some (.map #[] 0) := heap_alloc_new _ _
  have HB0 := Lib.hid hb0
  clear hb0
  go_wp2_with fail
  rw [mu_new 9 _ h1 rfl]
  simp only [Result.andThen]
  rw [Oper.upon_skip]
  have HB1 := Lib.hid (below_map (b := w.heap.size) (o := .map (#[].push { key := .int .i64 9, val := .func (Fn.func 66) #[] #[], born := 0 }) (0 + 1)) HB0.out (Nat.le_refl _))
  have h2 := (Go.MapKept.heap_set (o' := .map (#[].push { key := .int .i64 9, val := .func (Fn.func 66) #[] #[], born := 0 }) (0 + 1)) h1).1
  clear h1
  generalize hW1 : ({ w.alloc (.map #[] 0) with heap := (w.alloc (.map #[] 0)).heap.setIfInBounds w.heap.size (.map (#[].push { key := .int .i64 9, val := .func (Fn.func 66) #[] #[], born := 0 }) (0 + 1)) } : World) = w1 at *
  have h3 : w1.heap[w.heap.size]? = some (.map (#[].push { key := .int .i64 9, val := .func (Fn.func 66) #[] #[], born := 0 }) (0 + 1)) := by rw [← hW1]; exact h2
  clear hW1 h2
  go_wp2_with fail
  rw [mu_new 11 _ h3 rfl]
  simp only [Result.andThen]
  rw [Oper.upon_skip]
  have HB2 := Lib.hid (below_map (b := w.heap.size) (o := .map ((#[].push { key := .int .i64 9, val := .func (Fn.func 66) #[] #[], born := 0 }).push { key := .int .i64 11, val := .func (Fn.func 67) #[] #[], born := 0 + 1 }) (0 + 1 + 1)) HB1.out (Nat.le_refl _))
  have h4 := (Go.MapKept.heap_set (o' := .map ((#[].push { key := .int .i64 9, val := .func (Fn.func 66) #[] #[], born := 0 }).push { key := .int .i64 11, val := .func (Fn.func 67) #[] #[], born := 0 + 1 }) (0 + 1 + 1)) h3).1
  generalize hW2 : ({ w1 with heap := w1.heap.setIfInBounds w.heap.size (.map ((#[].push { key := .int .i64 9, val := .func (Fn.func 66) #[] #[], born := 0 }).push { key := .int .i64 11, val := .func (Fn.func 67) #[] #[], born := 0 + 1 }) (0 + 1 + 1)) } : World) = w2 at *
  have h5 : w2.heap[w.heap.size]? = some (.map ((#[].push { key := .int .i64 9, val := .func (Fn.func 66) #[] #[], born := 0 }).push { key := .int .i64 11, val := .func (Fn.func 67) #[] #[], born := 0 + 1 }) (0 + 1 + 1)) := by rw [← hW2]; exact h4
  clear hW2 h4 h3
  go_wp2_with fail
  rw [lk_at 9 (.func (Fn.func 66) #[] #[]) h5 rfl]
  simp only [Result.andThen]
  rw [Oper.upon_value]
  go_wp2_with fail
  go_ret
  exact ⟨rfl, HB2.out⟩

set_option maxRecDepth 100000 in
theorem restBy11 (w : World) : Calls Try.prog 60 #[.int .i64 11] w fun e w' => e = .returned (.func (Fn.func 67) #[] #[]) ∧ Below w.heap.size w w' := by
  have hb0 := (Below.refl w.heap.size w).alloc (Nat.le_refl _) (.map #[] 0)
  go_enter Try.func60, Try.ntmps60
  go_wp2_with fail
  rw [run_makeMap]
  simp only [Result.andThen]
  rw [Oper.upon_value]
  have h1 : (w.alloc (.map #[] 0)).heap[w.heap.size]? = some (.map #[] 0) := heap_alloc_new _ _
  have HB0 := Lib.hid hb0
  clear hb0
  go_wp2_with fail
  rw [mu_new 9 _ h1 rfl]
  simp only [Result.andThen]
  rw [Oper.upon_skip]
  have HB1 := Lib.hid (below_map (b := w.heap.size) (o := .map (#[].push { key := .int .i64 9, val := .func (Fn.func 66) #[] #[], born := 0 }) (0 + 1)) HB0.out (Nat.le_refl _))
  have h2 := (Go.MapKept.heap_set (o' := .map (#[].push { key := .int .i64 9, val := .func (Fn.func 66) #[] #[], born := 0 }) (0 + 1)) h1).1
  clear h1
  generalize hW1 : ({ w.alloc (.map #[] 0) with heap := (w.alloc (.map #[] 0)).heap.setIfInBounds w.heap.size (.map (#[].push { key := .int .i64 9, val := .func (Fn.func 66) #[] #[], born := 0 }) (0 + 1)) } : World) = w1 at *
  have h3 : w1.heap[w.heap.size]? = some (.map (#[].push { key := .int .i64 9, val := .func (Fn.func 66) #[] #[], born := 0 }) (0 + 1)) := by rw [← hW1]; exact h2
  clear hW1 h2
  go_wp2_with fail
  rw [mu_new 11 _ h3 rfl]
  simp only [Result.andThen]
  rw [Oper.upon_skip]
  have HB2 := Lib.hid (below_map (b := w.heap.size) (o := .map ((#[].push { key := .int .i64 9, val := .func (Fn.func 66) #[] #[], born := 0 }).push { key := .int .i64 11, val := .func (Fn.func 67) #[] #[], born := 0 + 1 }) (0 + 1 + 1)) HB1.out (Nat.le_refl _))
  have h4 := (Go.MapKept.heap_set (o' := .map ((#[].push { key := .int .i64 9, val := .func (Fn.func 66) #[] #[], born := 0 }).push { key := .int .i64 11, val := .func (Fn.func 67) #[] #[], born := 0 + 1 }) (0 + 1 + 1)) h3).1
  generalize hW2 : ({ w1 with heap := w1.heap.setIfInBounds w.heap.size (.map ((#[].push { key := .int .i64 9, val := .func (Fn.func 66) #[] #[], born := 0 }).push { key := .int .i64 11, val := .func (Fn.func 67) #[] #[], born := 0 + 1 }) (0 + 1 + 1)) } : World) = w2 at *
  have h5 : w2.heap[w.heap.size]? = some (.map ((#[].push { key := .int .i64 9, val := .func (Fn.func 66) #[] #[], born := 0 }).push { key := .int .i64 11, val := .func (Fn.func 67) #[] #[], born := 0 + 1 }) (0 + 1 + 1)) := by rw [← hW2]; exact h4
  clear hW2 h4 h3
  go_wp2_with fail
  rw [lk_at 11 (.func (Fn.func 67) #[] #[]) h5 rfl]
  simp only [Result.andThen]
  rw [Oper.upon_value]
  go_wp2_with fail
  go_ret
  exact ⟨rfl, HB2.out⟩

end Go.Proofs.Ytceigfdmaeanaab
