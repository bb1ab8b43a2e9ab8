/-
  No cell of these rows narrows 'for every input' (looked for: loops, veiled, ifaces, maps, wideKeys, modest, calm, conditions, laid).
  DERIVED. THE GIVEN ROWS OF THIS SEAT. 10 by the template 'for every input the law returns true; each argument reads behind the call as it read before'; 0 by the template 'total and deterministic' (their statements: YtfdbhaojdccomaaTotals.lean).
  GIVEN WITH THE SEED: the statements are not yours to turn. If you find one false, say at which input.
  Laid BY PROGRAM, IN A SANDBOX (cutbox-rows.mjs): the forced cells as the released guide's own fill.sh prints them over the translation f9089061c13d2cca… (all of the seat's roots in one cut). By AI agents, Wed Nov 11 2026. No macro, syntax, notation, axiom, sorry.
-/
import Derived.Test.YtfdbhaojdccomaaChecked
import GoSem.Claim
import GoSem.ClaimJoined
import GoSem.ClaimMapViews
import Derived.JoinedTies
import Derived.KernelRfl
namespace Go.Proofs.Ytfdbhaojdccomaa
/- THE CELL 'sum', in the pinned program and in every row, IS THE sha256 OF THE DUMP (.gsa) THAT YtfdbhaojdccomaaProg.lean LOADS. Nothing in Lean hashes anything: it is a label: what it is worth is what the hold of that sum in a sandbox is worth. -/
noncomputable def Try.pinned : Pinned := { name := "ytfdbhaojdccomaa", sum := "f9089061c13d2ccace6fa88a8564b3e05bf3282f0d55565e34f39fb1d4e98f31", checked := Try.checked }
namespace Rows
def none {H : Type} : Left H := { results := [], args := [] }

/-- 'laws.FnExactFrameValid': WHATEVER THE INPUT: true; the input reads as it did. -/
def fnExactFrameValidSpec : ChangeSpec := { name := "fnExactFrameValid", fn := fun _ => fun
  | [d] => { results := [.lit (.bool true)], args := [d] }
  | _ => none }
def fnExactFrameValidRow : OpenClaim := { program := "ytfdbhaojdccomaa", sum := "f9089061c13d2ccace6fa88a8564b3e05bf3282f0d55565e34f39fb1d4e98f31", func := "loop.example/countingboards/laws.FnExactFrameValid", spec := "fnExactFrameValid", apart := false }
def FnExactFrameValidSaid : Prop := fnExactFrameValidRow.holds Try.pinned (OpenSpec.ofChange fnExactFrameValidSpec)

/-- ITS FALSE NEIGHBOUR: 'it returns false'. Refute it at one input. -/
def fnExactFrameValidWrong : ChangeSpec := { name := "fnExactFrameValid", fn := fun _ => fun
  | [d] => { results := [.lit (.bool false)], args := [d] }
  | _ => none }
def FnExactFrameValidWrongFalsely : Prop := fnExactFrameValidRow.holds Try.pinned (OpenSpec.ofChange fnExactFrameValidWrong)

/-- 'laws.FnExactFrameDigit': WHATEVER THE INPUT: true; the input reads as it did. -/
def fnExactFrameDigitSpec : ChangeSpec := { name := "fnExactFrameDigit", fn := fun _ => fun
  | [d1, d2] => { results := [.lit (.bool true)], args := [d1, d2] }
  | _ => none }
def fnExactFrameDigitRow : OpenClaim := { program := "ytfdbhaojdccomaa", sum := "f9089061c13d2ccace6fa88a8564b3e05bf3282f0d55565e34f39fb1d4e98f31", func := "loop.example/countingboards/laws.FnExactFrameDigit", spec := "fnExactFrameDigit", apart := false }
def FnExactFrameDigitSaid : Prop := fnExactFrameDigitRow.holds Try.pinned (OpenSpec.ofChange fnExactFrameDigitSpec)

/-- ITS FALSE NEIGHBOUR: 'it returns false'. Refute it at one input. -/
def fnExactFrameDigitWrong : ChangeSpec := { name := "fnExactFrameDigit", fn := fun _ => fun
  | [d1, d2] => { results := [.lit (.bool false)], args := [d1, d2] }
  | _ => none }
def FnExactFrameDigitWrongFalsely : Prop := fnExactFrameDigitRow.holds Try.pinned (OpenSpec.ofChange fnExactFrameDigitWrong)

/-- 'laws.FnExactFrameValue': WHATEVER THE INPUT: true; the input reads as it did. -/
def fnExactFrameValueSpec : ChangeSpec := { name := "fnExactFrameValue", fn := fun _ => fun
  | [d] => { results := [.lit (.bool true)], args := [d] }
  | _ => none }
def fnExactFrameValueRow : OpenClaim := { program := "ytfdbhaojdccomaa", sum := "f9089061c13d2ccace6fa88a8564b3e05bf3282f0d55565e34f39fb1d4e98f31", func := "loop.example/countingboards/laws.FnExactFrameValue", spec := "fnExactFrameValue", apart := false }
def FnExactFrameValueSaid : Prop := fnExactFrameValueRow.holds Try.pinned (OpenSpec.ofChange fnExactFrameValueSpec)

/-- ITS FALSE NEIGHBOUR: 'it returns false'. Refute it at one input. -/
def fnExactFrameValueWrong : ChangeSpec := { name := "fnExactFrameValue", fn := fun _ => fun
  | [d] => { results := [.lit (.bool false)], args := [d] }
  | _ => none }
def FnExactFrameValueWrongFalsely : Prop := fnExactFrameValueRow.holds Try.pinned (OpenSpec.ofChange fnExactFrameValueWrong)

/-- 'laws.FnExactFrameOf': WHATEVER THE INPUT: true; the input reads as it did. -/
def fnExactFrameOfSpec : ChangeSpec := { name := "fnExactFrameOf", fn := fun _ => fun
  | [d1, d2] => { results := [.lit (.bool true)], args := [d1, d2] }
  | _ => none }
def fnExactFrameOfRow : OpenClaim := { program := "ytfdbhaojdccomaa", sum := "f9089061c13d2ccace6fa88a8564b3e05bf3282f0d55565e34f39fb1d4e98f31", func := "loop.example/countingboards/laws.FnExactFrameOf", spec := "fnExactFrameOf", apart := false }
def FnExactFrameOfSaid : Prop := fnExactFrameOfRow.holds Try.pinned (OpenSpec.ofChange fnExactFrameOfSpec)

/-- ITS FALSE NEIGHBOUR: 'it returns false'. Refute it at one input. -/
def fnExactFrameOfWrong : ChangeSpec := { name := "fnExactFrameOf", fn := fun _ => fun
  | [d1, d2] => { results := [.lit (.bool false)], args := [d1, d2] }
  | _ => none }
def FnExactFrameOfWrongFalsely : Prop := fnExactFrameOfRow.holds Try.pinned (OpenSpec.ofChange fnExactFrameOfWrong)

/-- 'laws.FnExactFramePushes': WHATEVER THE INPUT: true; the input reads as it did. -/
def fnExactFramePushesSpec : ChangeSpec := { name := "fnExactFramePushes", fn := fun _ => fun
  | [d1, d2] => { results := [.lit (.bool true)], args := [d1, d2] }
  | _ => none }
def fnExactFramePushesRow : OpenClaim := { program := "ytfdbhaojdccomaa", sum := "f9089061c13d2ccace6fa88a8564b3e05bf3282f0d55565e34f39fb1d4e98f31", func := "loop.example/countingboards/laws.FnExactFramePushes", spec := "fnExactFramePushes", apart := false }
def FnExactFramePushesSaid : Prop := fnExactFramePushesRow.holds Try.pinned (OpenSpec.ofChange fnExactFramePushesSpec)

/-- ITS FALSE NEIGHBOUR: 'it returns false'. Refute it at one input. -/
def fnExactFramePushesWrong : ChangeSpec := { name := "fnExactFramePushes", fn := fun _ => fun
  | [d1, d2] => { results := [.lit (.bool false)], args := [d1, d2] }
  | _ => none }
def FnExactFramePushesWrongFalsely : Prop := fnExactFramePushesRow.holds Try.pinned (OpenSpec.ofChange fnExactFramePushesWrong)

/-- 'laws.FnExactFrameShift': WHATEVER THE INPUT: true; the input reads as it did. -/
def fnExactFrameShiftSpec : ChangeSpec := { name := "fnExactFrameShift", fn := fun _ => fun
  | [d] => { results := [.lit (.bool true)], args := [d] }
  | _ => none }
def fnExactFrameShiftRow : OpenClaim := { program := "ytfdbhaojdccomaa", sum := "f9089061c13d2ccace6fa88a8564b3e05bf3282f0d55565e34f39fb1d4e98f31", func := "loop.example/countingboards/laws.FnExactFrameShift", spec := "fnExactFrameShift", apart := false }
def FnExactFrameShiftSaid : Prop := fnExactFrameShiftRow.holds Try.pinned (OpenSpec.ofChange fnExactFrameShiftSpec)

/-- ITS FALSE NEIGHBOUR: 'it returns false'. Refute it at one input. -/
def fnExactFrameShiftWrong : ChangeSpec := { name := "fnExactFrameShift", fn := fun _ => fun
  | [d] => { results := [.lit (.bool false)], args := [d] }
  | _ => none }
def FnExactFrameShiftWrongFalsely : Prop := fnExactFrameShiftRow.holds Try.pinned (OpenSpec.ofChange fnExactFrameShiftWrong)

/-- 'laws.FnExactFrameNines': WHATEVER THE INPUT: true; the input reads as it did. -/
def fnExactFrameNinesSpec : ChangeSpec := { name := "fnExactFrameNines", fn := fun _ => fun
  | [d] => { results := [.lit (.bool true)], args := [d] }
  | _ => none }
def fnExactFrameNinesRow : OpenClaim := { program := "ytfdbhaojdccomaa", sum := "f9089061c13d2ccace6fa88a8564b3e05bf3282f0d55565e34f39fb1d4e98f31", func := "loop.example/countingboards/laws.FnExactFrameNines", spec := "fnExactFrameNines", apart := false }
def FnExactFrameNinesSaid : Prop := fnExactFrameNinesRow.holds Try.pinned (OpenSpec.ofChange fnExactFrameNinesSpec)

/-- ITS FALSE NEIGHBOUR: 'it returns false'. Refute it at one input. -/
def fnExactFrameNinesWrong : ChangeSpec := { name := "fnExactFrameNines", fn := fun _ => fun
  | [d] => { results := [.lit (.bool false)], args := [d] }
  | _ => none }
def FnExactFrameNinesWrongFalsely : Prop := fnExactFrameNinesRow.holds Try.pinned (OpenSpec.ofChange fnExactFrameNinesWrong)

/-- 'laws.FnPushes': WHATEVER THE INPUT: true; the input reads as it did. -/
def fnPushesSpec : ChangeSpec := { name := "fnPushes", fn := fun _ => fun
  | [d] => { results := [.lit (.bool true)], args := [d] }
  | _ => none }
def fnPushesRow : OpenClaim := { program := "ytfdbhaojdccomaa", sum := "f9089061c13d2ccace6fa88a8564b3e05bf3282f0d55565e34f39fb1d4e98f31", func := "loop.example/countingboards/laws.FnPushes", spec := "fnPushes", apart := false }
def FnPushesSaid : Prop := fnPushesRow.holds Try.pinned (OpenSpec.ofChange fnPushesSpec)

/-- ITS FALSE NEIGHBOUR: 'it returns false'. Refute it at one input. -/
def fnPushesWrong : ChangeSpec := { name := "fnPushes", fn := fun _ => fun
  | [d] => { results := [.lit (.bool false)], args := [d] }
  | _ => none }
def FnPushesWrongFalsely : Prop := fnPushesRow.holds Try.pinned (OpenSpec.ofChange fnPushesWrong)

/-- 'laws.FnFrameNines': WHATEVER THE INPUT: true; the input reads as it did. -/
def fnFrameNinesSpec : ChangeSpec := { name := "fnFrameNines", fn := fun _ => fun
  | [d] => { results := [.lit (.bool true)], args := [d] }
  | _ => none }
def fnFrameNinesRow : OpenClaim := { program := "ytfdbhaojdccomaa", sum := "f9089061c13d2ccace6fa88a8564b3e05bf3282f0d55565e34f39fb1d4e98f31", func := "loop.example/countingboards/laws.FnFrameNines", spec := "fnFrameNines", apart := false }
def FnFrameNinesSaid : Prop := fnFrameNinesRow.holds Try.pinned (OpenSpec.ofChange fnFrameNinesSpec)

/-- ITS FALSE NEIGHBOUR: 'it returns false'. Refute it at one input. -/
def fnFrameNinesWrong : ChangeSpec := { name := "fnFrameNines", fn := fun _ => fun
  | [d] => { results := [.lit (.bool false)], args := [d] }
  | _ => none }
def FnFrameNinesWrongFalsely : Prop := fnFrameNinesRow.holds Try.pinned (OpenSpec.ofChange fnFrameNinesWrong)

/-- 'laws.FnFrameValue': WHATEVER THE INPUT: true; the input reads as it did. -/
def fnFrameValueSpec : ChangeSpec := { name := "fnFrameValue", fn := fun _ => fun
  | [d] => { results := [.lit (.bool true)], args := [d] }
  | _ => none }
def fnFrameValueRow : OpenClaim := { program := "ytfdbhaojdccomaa", sum := "f9089061c13d2ccace6fa88a8564b3e05bf3282f0d55565e34f39fb1d4e98f31", func := "loop.example/countingboards/laws.FnFrameValue", spec := "fnFrameValue", apart := false }
def FnFrameValueSaid : Prop := fnFrameValueRow.holds Try.pinned (OpenSpec.ofChange fnFrameValueSpec)

/-- ITS FALSE NEIGHBOUR: 'it returns false'. Refute it at one input. -/
def fnFrameValueWrong : ChangeSpec := { name := "fnFrameValue", fn := fun _ => fun
  | [d] => { results := [.lit (.bool false)], args := [d] }
  | _ => none }
def FnFrameValueWrongFalsely : Prop := fnFrameValueRow.holds Try.pinned (OpenSpec.ofChange fnFrameValueWrong)

/- THE SECOND FORM. 'bulk': how many values and letters a reading holds, each counted each time it is reached (what is shared counts as often as it is met; a slice's spare places count too). A statement '..UptoSaid' is the law's where the arguments, and the package variables that the reading takes, are together of bulk at most 1048576: NARROWER than '..Said'. Prove '..Said' where nothing that the law and all that it calls make is longer than what came in: it says more and counts as full. Else prove '..UptoSaid'. A law counts once. -/
mutual
def uptoBulk {H : Type} : DataW H → Nat
  | .lit (.string bytes) => bytes.length + 1
  | .lit _ => 1
  | .nil => 1
  | .ptr d => uptoBulk d + 1
  | .slice elems spare => uptoBulkAll elems + uptoBulkAll spare + 1
  | .agg parts => uptoBulkAll parts + 1
  | .iface _ d => uptoBulk d + 1
  | .map entries => uptoBulkEntries entries + 1
  | .held _ => 1
def uptoBulkAll {H : Type} : List (DataW H) → Nat
  | [] => 0
  | d :: r => uptoBulk d + uptoBulkAll r
def uptoBulkEntries {H : Type} : List (Lit × DataW H) → Nat
  | [] => 0
  | x :: r => uptoBulkEntry x + uptoBulkEntries r
def uptoBulkEntry {H : Type} : Lit × DataW H → Nat
  | (.string bytes, d) => bytes.length + uptoBulk d + 1
  | (_, d) => uptoBulk d + 1
 end
def uptoSmall : (H : Type) → List (DataW H) → Bool := fun _ ds => decide (uptoBulkAll ds ≤ 1048576)
def OpenSpec.upto (s : _root_.Go.ChangeSpec) : _root_.Go.OpenSpec := { _root_.Go.OpenSpec.ofChange s with cond := some uptoSmall }

/-- 'laws.FnExactFrameValid', WHERE WHAT IT READS IS OF BULK AT MOST 1048576: true; the input reads as it did. -/
def fnExactFrameValidUptoRow : OpenClaim := { program := "ytfdbhaojdccomaa", sum := "f9089061c13d2ccace6fa88a8564b3e05bf3282f0d55565e34f39fb1d4e98f31", func := "loop.example/countingboards/laws.FnExactFrameValid", spec := "fnExactFrameValid", apart := false, narrowed := true }
def FnExactFrameValidUptoSaid : Prop := fnExactFrameValidUptoRow.holds Try.pinned (OpenSpec.upto fnExactFrameValidSpec)

/-- 'laws.FnExactFrameDigit', WHERE WHAT IT READS IS OF BULK AT MOST 1048576: true; the input reads as it did. -/
def fnExactFrameDigitUptoRow : OpenClaim := { program := "ytfdbhaojdccomaa", sum := "f9089061c13d2ccace6fa88a8564b3e05bf3282f0d55565e34f39fb1d4e98f31", func := "loop.example/countingboards/laws.FnExactFrameDigit", spec := "fnExactFrameDigit", apart := false, narrowed := true }
def FnExactFrameDigitUptoSaid : Prop := fnExactFrameDigitUptoRow.holds Try.pinned (OpenSpec.upto fnExactFrameDigitSpec)

/-- 'laws.FnExactFrameValue', WHERE WHAT IT READS IS OF BULK AT MOST 1048576: true; the input reads as it did. -/
def fnExactFrameValueUptoRow : OpenClaim := { program := "ytfdbhaojdccomaa", sum := "f9089061c13d2ccace6fa88a8564b3e05bf3282f0d55565e34f39fb1d4e98f31", func := "loop.example/countingboards/laws.FnExactFrameValue", spec := "fnExactFrameValue", apart := false, narrowed := true }
def FnExactFrameValueUptoSaid : Prop := fnExactFrameValueUptoRow.holds Try.pinned (OpenSpec.upto fnExactFrameValueSpec)

/-- 'laws.FnExactFrameOf', WHERE WHAT IT READS IS OF BULK AT MOST 1048576: true; the input reads as it did. -/
def fnExactFrameOfUptoRow : OpenClaim := { program := "ytfdbhaojdccomaa", sum := "f9089061c13d2ccace6fa88a8564b3e05bf3282f0d55565e34f39fb1d4e98f31", func := "loop.example/countingboards/laws.FnExactFrameOf", spec := "fnExactFrameOf", apart := false, narrowed := true }
def FnExactFrameOfUptoSaid : Prop := fnExactFrameOfUptoRow.holds Try.pinned (OpenSpec.upto fnExactFrameOfSpec)

/-- 'laws.FnExactFramePushes', WHERE WHAT IT READS IS OF BULK AT MOST 1048576: true; the input reads as it did. -/
def fnExactFramePushesUptoRow : OpenClaim := { program := "ytfdbhaojdccomaa", sum := "f9089061c13d2ccace6fa88a8564b3e05bf3282f0d55565e34f39fb1d4e98f31", func := "loop.example/countingboards/laws.FnExactFramePushes", spec := "fnExactFramePushes", apart := false, narrowed := true }
def FnExactFramePushesUptoSaid : Prop := fnExactFramePushesUptoRow.holds Try.pinned (OpenSpec.upto fnExactFramePushesSpec)

/-- 'laws.FnExactFrameShift', WHERE WHAT IT READS IS OF BULK AT MOST 1048576: true; the input reads as it did. -/
def fnExactFrameShiftUptoRow : OpenClaim := { program := "ytfdbhaojdccomaa", sum := "f9089061c13d2ccace6fa88a8564b3e05bf3282f0d55565e34f39fb1d4e98f31", func := "loop.example/countingboards/laws.FnExactFrameShift", spec := "fnExactFrameShift", apart := false, narrowed := true }
def FnExactFrameShiftUptoSaid : Prop := fnExactFrameShiftUptoRow.holds Try.pinned (OpenSpec.upto fnExactFrameShiftSpec)

/-- 'laws.FnExactFrameNines', WHERE WHAT IT READS IS OF BULK AT MOST 1048576: true; the input reads as it did. -/
def fnExactFrameNinesUptoRow : OpenClaim := { program := "ytfdbhaojdccomaa", sum := "f9089061c13d2ccace6fa88a8564b3e05bf3282f0d55565e34f39fb1d4e98f31", func := "loop.example/countingboards/laws.FnExactFrameNines", spec := "fnExactFrameNines", apart := false, narrowed := true }
def FnExactFrameNinesUptoSaid : Prop := fnExactFrameNinesUptoRow.holds Try.pinned (OpenSpec.upto fnExactFrameNinesSpec)

/-- 'laws.FnPushes', WHERE WHAT IT READS IS OF BULK AT MOST 1048576: true; the input reads as it did. -/
def fnPushesUptoRow : OpenClaim := { program := "ytfdbhaojdccomaa", sum := "f9089061c13d2ccace6fa88a8564b3e05bf3282f0d55565e34f39fb1d4e98f31", func := "loop.example/countingboards/laws.FnPushes", spec := "fnPushes", apart := false, narrowed := true }
def FnPushesUptoSaid : Prop := fnPushesUptoRow.holds Try.pinned (OpenSpec.upto fnPushesSpec)

/-- 'laws.FnFrameNines', WHERE WHAT IT READS IS OF BULK AT MOST 1048576: true; the input reads as it did. -/
def fnFrameNinesUptoRow : OpenClaim := { program := "ytfdbhaojdccomaa", sum := "f9089061c13d2ccace6fa88a8564b3e05bf3282f0d55565e34f39fb1d4e98f31", func := "loop.example/countingboards/laws.FnFrameNines", spec := "fnFrameNines", apart := false, narrowed := true }
def FnFrameNinesUptoSaid : Prop := fnFrameNinesUptoRow.holds Try.pinned (OpenSpec.upto fnFrameNinesSpec)

/-- 'laws.FnFrameValue', WHERE WHAT IT READS IS OF BULK AT MOST 1048576: true; the input reads as it did. -/
def fnFrameValueUptoRow : OpenClaim := { program := "ytfdbhaojdccomaa", sum := "f9089061c13d2ccace6fa88a8564b3e05bf3282f0d55565e34f39fb1d4e98f31", func := "loop.example/countingboards/laws.FnFrameValue", spec := "fnFrameValue", apart := false, narrowed := true }
def FnFrameValueUptoSaid : Prop := fnFrameValueUptoRow.holds Try.pinned (OpenSpec.upto fnFrameValueSpec)

end Rows
end Go.Proofs.Ytfdbhaojdccomaa
