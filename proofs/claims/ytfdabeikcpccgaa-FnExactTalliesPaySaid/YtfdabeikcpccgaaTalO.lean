/- A tally that came in, opened. -/
import Derived.Test.YtfdabeikcpccgaaFraud
import Derived.Lib.SmallJoins
namespace Go.Proofs.Ytfdabeikcpccgaa
open Go.Joins Go.ChangeShapes Go.WideShapes Go.ChangeAt Go.RowKit

theorem open_tally {H : Type} {enc : TypeId × Value → H} {w : World} {base : Nat} {spare : Nat → Bool} {held : Bool} {r : Reach} {b0 : Nat} {v : Value} {d : DataW H} {p : List MemPlace}
    (hv : Value.okWide Try.prog w r b0 25 v) (h : DataW.Trod enc Try.prog w base spare held 25 v d p) :
    ∃ (a b : Int) (s f : ByteArray), v = .agg #[.int .i64 a, .int .i64 b, .string s, .string f] ∧ s.size ≤ maxLen ∧ f.size ≤ maxLen := by
  obtain ⟨v0, v1, v2, v3, y0, y1, y2, y3, n, rfl, _, _, t0, t1, t2, t3⟩ := open_agg4 Try.underlying25 (by kernel_rfl) (by kernel_rfl) hv h
  obtain ⟨a, ha, _, _⟩ := DataW.trod_int Try.underlying3 t0
  obtain ⟨b, hb, _, _⟩ := DataW.trod_int Try.underlying3 t1
  obtain ⟨s, hs, _, hs'⟩ := DataW.trod_string Try.underlying9 t2
  obtain ⟨f, hf, _, hf'⟩ := DataW.trod_string Try.underlying9 t3
  simp only [List.cons.injEq, and_true] at ha hb hs hf
  subst ha hb hs hf
  exact ⟨a, b, s, f, rfl, hs', hf'⟩
end Go.Proofs.Ytfdabeikcpccgaa
