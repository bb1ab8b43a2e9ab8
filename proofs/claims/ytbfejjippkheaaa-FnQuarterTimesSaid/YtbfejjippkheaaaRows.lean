/-
  No cell of these rows narrows 'for every input' (looked for: loops, veiled, ifaces, maps, wideKeys, modest, calm, conditions, laid).
  DERIVED. THE GIVEN ROWS OF THIS SEAT. 9 by the template 'for every input the law returns true; each argument reads behind the call as it read before'; 0 by the template 'total and deterministic' (their statements: YtbfejjippkheaaaTotals.lean).
  GIVEN WITH THE SEED: the statements are not yours to turn. If you find one false, say at which input.
  Laid BY PROGRAM, IN A SANDBOX (cutbox-rows.mjs): the forced cells as the released guide's own fill.sh prints them over the translation a9565b43f8d8e807… (all of the seat's roots in one cut). By AI agents, Wed Nov 11 2026. No macro, syntax, notation, axiom, sorry.
-/
import Derived.Test.YtbfejjippkheaaaChecked
import GoSem.Claim
import GoSem.ClaimJoined
import GoSem.ClaimMapViews
import Derived.JoinedTies
import Derived.KernelRfl
namespace Go.Proofs.Ytbfejjippkheaaa
/- THE CELL 'sum', in the pinned program and in every row, IS THE sha256 OF THE DUMP (.gsa) THAT YtbfejjippkheaaaProg.lean LOADS. Nothing in Lean hashes anything: it is a label: what it is worth is what the hold of that sum in a sandbox is worth. -/
noncomputable def Try.pinned : Pinned := { name := "ytbfejjippkheaaa", sum := "a9565b43f8d8e8070020e77b6d0b56a992ffd7325e07b14a6b5ad29f57c66ae4", checked := Try.checked }
namespace Rows
def none {H : Type} : Left H := { results := [], args := [] }

/-- 'laws.FnExactQuarterOf': WHATEVER THE INPUT: true; the input reads as it did. -/
def fnExactQuarterOfSpec : ChangeSpec := { name := "fnExactQuarterOf", fn := fun _ => fun
  | [d] => { results := [.lit (.bool true)], args := [d] }
  | _ => none }
def fnExactQuarterOfRow : OpenClaim := { program := "ytbfejjippkheaaa", sum := "a9565b43f8d8e8070020e77b6d0b56a992ffd7325e07b14a6b5ad29f57c66ae4", func := "loop.example/countingboards/laws.FnExactQuarterOf", spec := "fnExactQuarterOf", apart := false }
def FnExactQuarterOfSaid : Prop := fnExactQuarterOfRow.holds Try.pinned (OpenSpec.ofChange fnExactQuarterOfSpec)

/-- ITS FALSE NEIGHBOUR: 'it returns false'. Refute it at one input. -/
def fnExactQuarterOfWrong : ChangeSpec := { name := "fnExactQuarterOf", fn := fun _ => fun
  | [d] => { results := [.lit (.bool false)], args := [d] }
  | _ => none }
def FnExactQuarterOfWrongFalsely : Prop := fnExactQuarterOfRow.holds Try.pinned (OpenSpec.ofChange fnExactQuarterOfWrong)

/-- 'laws.FnExactTriangleOf': WHATEVER THE INPUT: true; the input reads as it did. -/
def fnExactTriangleOfSpec : ChangeSpec := { name := "fnExactTriangleOf", fn := fun _ => fun
  | [d] => { results := [.lit (.bool true)], args := [d] }
  | _ => none }
def fnExactTriangleOfRow : OpenClaim := { program := "ytbfejjippkheaaa", sum := "a9565b43f8d8e8070020e77b6d0b56a992ffd7325e07b14a6b5ad29f57c66ae4", func := "loop.example/countingboards/laws.FnExactTriangleOf", spec := "fnExactTriangleOf", apart := false }
def FnExactTriangleOfSaid : Prop := fnExactTriangleOfRow.holds Try.pinned (OpenSpec.ofChange fnExactTriangleOfSpec)

/-- ITS FALSE NEIGHBOUR: 'it returns false'. Refute it at one input. -/
def fnExactTriangleOfWrong : ChangeSpec := { name := "fnExactTriangleOf", fn := fun _ => fun
  | [d] => { results := [.lit (.bool false)], args := [d] }
  | _ => none }
def FnExactTriangleOfWrongFalsely : Prop := fnExactTriangleOfRow.holds Try.pinned (OpenSpec.ofChange fnExactTriangleOfWrong)

/-- 'laws.FnExactTriangleTimes': WHATEVER THE INPUT: true; the input reads as it did. -/
def fnExactTriangleTimesSpec : ChangeSpec := { name := "fnExactTriangleTimes", fn := fun _ => fun
  | [d1, d2] => { results := [.lit (.bool true)], args := [d1, d2] }
  | _ => none }
def fnExactTriangleTimesRow : OpenClaim := { program := "ytbfejjippkheaaa", sum := "a9565b43f8d8e8070020e77b6d0b56a992ffd7325e07b14a6b5ad29f57c66ae4", func := "loop.example/countingboards/laws.FnExactTriangleTimes", spec := "fnExactTriangleTimes", apart := false }
def FnExactTriangleTimesSaid : Prop := fnExactTriangleTimesRow.holds Try.pinned (OpenSpec.ofChange fnExactTriangleTimesSpec)

/-- ITS FALSE NEIGHBOUR: 'it returns false'. Refute it at one input. -/
def fnExactTriangleTimesWrong : ChangeSpec := { name := "fnExactTriangleTimes", fn := fun _ => fun
  | [d1, d2] => { results := [.lit (.bool false)], args := [d1, d2] }
  | _ => none }
def FnExactTriangleTimesWrongFalsely : Prop := fnExactTriangleTimesRow.holds Try.pinned (OpenSpec.ofChange fnExactTriangleTimesWrong)

/-- 'laws.FnExactQuarterTimes': WHATEVER THE INPUT: true; the input reads as it did. -/
def fnExactQuarterTimesSpec : ChangeSpec := { name := "fnExactQuarterTimes", fn := fun _ => fun
  | [d1, d2] => { results := [.lit (.bool true)], args := [d1, d2] }
  | _ => none }
def fnExactQuarterTimesRow : OpenClaim := { program := "ytbfejjippkheaaa", sum := "a9565b43f8d8e8070020e77b6d0b56a992ffd7325e07b14a6b5ad29f57c66ae4", func := "loop.example/countingboards/laws.FnExactQuarterTimes", spec := "fnExactQuarterTimes", apart := false }
def FnExactQuarterTimesSaid : Prop := fnExactQuarterTimesRow.holds Try.pinned (OpenSpec.ofChange fnExactQuarterTimesSpec)

/-- ITS FALSE NEIGHBOUR: 'it returns false'. Refute it at one input. -/
def fnExactQuarterTimesWrong : ChangeSpec := { name := "fnExactQuarterTimes", fn := fun _ => fun
  | [d1, d2] => { results := [.lit (.bool false)], args := [d1, d2] }
  | _ => none }
def FnExactQuarterTimesWrongFalsely : Prop := fnExactQuarterTimesRow.holds Try.pinned (OpenSpec.ofChange fnExactQuarterTimesWrong)

/-- 'laws.FnQuarter': WHATEVER THE INPUT: true; the input reads as it did. -/
def fnQuarterSpec : ChangeSpec := { name := "fnQuarter", fn := fun _ => fun
  | [d] => { results := [.lit (.bool true)], args := [d] }
  | _ => none }
def fnQuarterRow : OpenClaim := { program := "ytbfejjippkheaaa", sum := "a9565b43f8d8e8070020e77b6d0b56a992ffd7325e07b14a6b5ad29f57c66ae4", func := "loop.example/countingboards/laws.FnQuarter", spec := "fnQuarter", apart := false }
def FnQuarterSaid : Prop := fnQuarterRow.holds Try.pinned (OpenSpec.ofChange fnQuarterSpec)

/-- ITS FALSE NEIGHBOUR: 'it returns false'. Refute it at one input. -/
def fnQuarterWrong : ChangeSpec := { name := "fnQuarter", fn := fun _ => fun
  | [d] => { results := [.lit (.bool false)], args := [d] }
  | _ => none }
def FnQuarterWrongFalsely : Prop := fnQuarterRow.holds Try.pinned (OpenSpec.ofChange fnQuarterWrong)

/-- 'laws.FnTriangle': WHATEVER THE INPUT: true; the input reads as it did. -/
def fnTriangleSpec : ChangeSpec := { name := "fnTriangle", fn := fun _ => fun
  | [d] => { results := [.lit (.bool true)], args := [d] }
  | _ => none }
def fnTriangleRow : OpenClaim := { program := "ytbfejjippkheaaa", sum := "a9565b43f8d8e8070020e77b6d0b56a992ffd7325e07b14a6b5ad29f57c66ae4", func := "loop.example/countingboards/laws.FnTriangle", spec := "fnTriangle", apart := false }
def FnTriangleSaid : Prop := fnTriangleRow.holds Try.pinned (OpenSpec.ofChange fnTriangleSpec)

/-- ITS FALSE NEIGHBOUR: 'it returns false'. Refute it at one input. -/
def fnTriangleWrong : ChangeSpec := { name := "fnTriangle", fn := fun _ => fun
  | [d] => { results := [.lit (.bool false)], args := [d] }
  | _ => none }
def FnTriangleWrongFalsely : Prop := fnTriangleRow.holds Try.pinned (OpenSpec.ofChange fnTriangleWrong)

/-- 'laws.FnExactQuarterSteps': WHATEVER THE INPUT: true; the input reads as it did. -/
def fnExactQuarterStepsSpec : ChangeSpec := { name := "fnExactQuarterSteps", fn := fun _ => fun
  | [d] => { results := [.lit (.bool true)], args := [d] }
  | _ => none }
def fnExactQuarterStepsRow : OpenClaim := { program := "ytbfejjippkheaaa", sum := "a9565b43f8d8e8070020e77b6d0b56a992ffd7325e07b14a6b5ad29f57c66ae4", func := "loop.example/countingboards/laws.FnExactQuarterSteps", spec := "fnExactQuarterSteps", apart := false }
def FnExactQuarterStepsSaid : Prop := fnExactQuarterStepsRow.holds Try.pinned (OpenSpec.ofChange fnExactQuarterStepsSpec)

/-- ITS FALSE NEIGHBOUR: 'it returns false'. Refute it at one input. -/
def fnExactQuarterStepsWrong : ChangeSpec := { name := "fnExactQuarterSteps", fn := fun _ => fun
  | [d] => { results := [.lit (.bool false)], args := [d] }
  | _ => none }
def FnExactQuarterStepsWrongFalsely : Prop := fnExactQuarterStepsRow.holds Try.pinned (OpenSpec.ofChange fnExactQuarterStepsWrong)

/-- 'laws.FnQuarterSteps': WHATEVER THE INPUT: true; the input reads as it did. -/
def fnQuarterStepsSpec : ChangeSpec := { name := "fnQuarterSteps", fn := fun _ => fun
  | [d] => { results := [.lit (.bool true)], args := [d] }
  | _ => none }
def fnQuarterStepsRow : OpenClaim := { program := "ytbfejjippkheaaa", sum := "a9565b43f8d8e8070020e77b6d0b56a992ffd7325e07b14a6b5ad29f57c66ae4", func := "loop.example/countingboards/laws.FnQuarterSteps", spec := "fnQuarterSteps", apart := false }
def FnQuarterStepsSaid : Prop := fnQuarterStepsRow.holds Try.pinned (OpenSpec.ofChange fnQuarterStepsSpec)

/-- ITS FALSE NEIGHBOUR: 'it returns false'. Refute it at one input. -/
def fnQuarterStepsWrong : ChangeSpec := { name := "fnQuarterSteps", fn := fun _ => fun
  | [d] => { results := [.lit (.bool false)], args := [d] }
  | _ => none }
def FnQuarterStepsWrongFalsely : Prop := fnQuarterStepsRow.holds Try.pinned (OpenSpec.ofChange fnQuarterStepsWrong)

/-- 'laws.FnQuarterTimes': WHATEVER THE INPUT: true; the input reads as it did. -/
def fnQuarterTimesSpec : ChangeSpec := { name := "fnQuarterTimes", fn := fun _ => fun
  | [d] => { results := [.lit (.bool true)], args := [d] }
  | _ => none }
def fnQuarterTimesRow : OpenClaim := { program := "ytbfejjippkheaaa", sum := "a9565b43f8d8e8070020e77b6d0b56a992ffd7325e07b14a6b5ad29f57c66ae4", func := "loop.example/countingboards/laws.FnQuarterTimes", spec := "fnQuarterTimes", unfollowed := true, recurses := true, apart := false }
def FnQuarterTimesSaid : Prop := fnQuarterTimesRow.holds Try.pinned (OpenSpec.ofChange fnQuarterTimesSpec)

/-- ITS FALSE NEIGHBOUR: 'it returns false'. Refute it at one input. -/
def fnQuarterTimesWrong : ChangeSpec := { name := "fnQuarterTimes", fn := fun _ => fun
  | [d] => { results := [.lit (.bool false)], args := [d] }
  | _ => none }
def FnQuarterTimesWrongFalsely : Prop := fnQuarterTimesRow.holds Try.pinned (OpenSpec.ofChange fnQuarterTimesWrong)

/- THE SECOND FORM. 'bulk': how many values and letters a reading holds, each counted each time it is reached (what is shared counts as often as it is met; a slice's spare places count too). A statement '..UptoSaid' is the law's where the arguments, and the package variables that the reading takes, are together of bulk at most 1048576: NARROWER than '..Said'. Prove '..Said' where nothing that the law and all that it calls make is longer than what came in: it says more and counts as full. Else prove '..UptoSaid'. A law counts once. -/
mutual
def uptoBulk {H : Type} : DataW H → Nat
  | .lit (.string bytes) => bytes.length + 1
  | .lit _ => 1
  | .nil => 1
  | .ptr d => uptoBulk d + 1
  | .slice elems spare => uptoBulkAll elems + uptoBulkAll spare + 1
  | .agg parts => uptoBulkAll parts + 1
  | .iface _ d => uptoBulk d + 1
  | .map entries => uptoBulkEntries entries + 1
  | .held _ => 1
def uptoBulkAll {H : Type} : List (DataW H) → Nat
  | [] => 0
  | d :: r => uptoBulk d + uptoBulkAll r
def uptoBulkEntries {H : Type} : List (Lit × DataW H) → Nat
  | [] => 0
  | x :: r => uptoBulkEntry x + uptoBulkEntries r
def uptoBulkEntry {H : Type} : Lit × DataW H → Nat
  | (.string bytes, d) => bytes.length + uptoBulk d + 1
  | (_, d) => uptoBulk d + 1
 end
def uptoSmall : (H : Type) → List (DataW H) → Bool := fun _ ds => decide (uptoBulkAll ds ≤ 1048576)
def OpenSpec.upto (s : _root_.Go.ChangeSpec) : _root_.Go.OpenSpec := { _root_.Go.OpenSpec.ofChange s with cond := some uptoSmall }

/-- 'laws.FnExactQuarterOf', WHERE WHAT IT READS IS OF BULK AT MOST 1048576: true; the input reads as it did. -/
def fnExactQuarterOfUptoRow : OpenClaim := { program := "ytbfejjippkheaaa", sum := "a9565b43f8d8e8070020e77b6d0b56a992ffd7325e07b14a6b5ad29f57c66ae4", func := "loop.example/countingboards/laws.FnExactQuarterOf", spec := "fnExactQuarterOf", apart := false, narrowed := true }
def FnExactQuarterOfUptoSaid : Prop := fnExactQuarterOfUptoRow.holds Try.pinned (OpenSpec.upto fnExactQuarterOfSpec)

/-- 'laws.FnExactTriangleOf', WHERE WHAT IT READS IS OF BULK AT MOST 1048576: true; the input reads as it did. -/
def fnExactTriangleOfUptoRow : OpenClaim := { program := "ytbfejjippkheaaa", sum := "a9565b43f8d8e8070020e77b6d0b56a992ffd7325e07b14a6b5ad29f57c66ae4", func := "loop.example/countingboards/laws.FnExactTriangleOf", spec := "fnExactTriangleOf", apart := false, narrowed := true }
def FnExactTriangleOfUptoSaid : Prop := fnExactTriangleOfUptoRow.holds Try.pinned (OpenSpec.upto fnExactTriangleOfSpec)

/-- 'laws.FnExactTriangleTimes', WHERE WHAT IT READS IS OF BULK AT MOST 1048576: true; the input reads as it did. -/
def fnExactTriangleTimesUptoRow : OpenClaim := { program := "ytbfejjippkheaaa", sum := "a9565b43f8d8e8070020e77b6d0b56a992ffd7325e07b14a6b5ad29f57c66ae4", func := "loop.example/countingboards/laws.FnExactTriangleTimes", spec := "fnExactTriangleTimes", apart := false, narrowed := true }
def FnExactTriangleTimesUptoSaid : Prop := fnExactTriangleTimesUptoRow.holds Try.pinned (OpenSpec.upto fnExactTriangleTimesSpec)

/-- 'laws.FnExactQuarterTimes', WHERE WHAT IT READS IS OF BULK AT MOST 1048576: true; the input reads as it did. -/
def fnExactQuarterTimesUptoRow : OpenClaim := { program := "ytbfejjippkheaaa", sum := "a9565b43f8d8e8070020e77b6d0b56a992ffd7325e07b14a6b5ad29f57c66ae4", func := "loop.example/countingboards/laws.FnExactQuarterTimes", spec := "fnExactQuarterTimes", apart := false, narrowed := true }
def FnExactQuarterTimesUptoSaid : Prop := fnExactQuarterTimesUptoRow.holds Try.pinned (OpenSpec.upto fnExactQuarterTimesSpec)

/-- 'laws.FnQuarter', WHERE WHAT IT READS IS OF BULK AT MOST 1048576: true; the input reads as it did. -/
def fnQuarterUptoRow : OpenClaim := { program := "ytbfejjippkheaaa", sum := "a9565b43f8d8e8070020e77b6d0b56a992ffd7325e07b14a6b5ad29f57c66ae4", func := "loop.example/countingboards/laws.FnQuarter", spec := "fnQuarter", apart := false, narrowed := true }
def FnQuarterUptoSaid : Prop := fnQuarterUptoRow.holds Try.pinned (OpenSpec.upto fnQuarterSpec)

/-- 'laws.FnTriangle', WHERE WHAT IT READS IS OF BULK AT MOST 1048576: true; the input reads as it did. -/
def fnTriangleUptoRow : OpenClaim := { program := "ytbfejjippkheaaa", sum := "a9565b43f8d8e8070020e77b6d0b56a992ffd7325e07b14a6b5ad29f57c66ae4", func := "loop.example/countingboards/laws.FnTriangle", spec := "fnTriangle", apart := false, narrowed := true }
def FnTriangleUptoSaid : Prop := fnTriangleUptoRow.holds Try.pinned (OpenSpec.upto fnTriangleSpec)

/-- 'laws.FnExactQuarterSteps', WHERE WHAT IT READS IS OF BULK AT MOST 1048576: true; the input reads as it did. -/
def fnExactQuarterStepsUptoRow : OpenClaim := { program := "ytbfejjippkheaaa", sum := "a9565b43f8d8e8070020e77b6d0b56a992ffd7325e07b14a6b5ad29f57c66ae4", func := "loop.example/countingboards/laws.FnExactQuarterSteps", spec := "fnExactQuarterSteps", apart := false, narrowed := true }
def FnExactQuarterStepsUptoSaid : Prop := fnExactQuarterStepsUptoRow.holds Try.pinned (OpenSpec.upto fnExactQuarterStepsSpec)

/-- 'laws.FnQuarterSteps', WHERE WHAT IT READS IS OF BULK AT MOST 1048576: true; the input reads as it did. -/
def fnQuarterStepsUptoRow : OpenClaim := { program := "ytbfejjippkheaaa", sum := "a9565b43f8d8e8070020e77b6d0b56a992ffd7325e07b14a6b5ad29f57c66ae4", func := "loop.example/countingboards/laws.FnQuarterSteps", spec := "fnQuarterSteps", apart := false, narrowed := true }
def FnQuarterStepsUptoSaid : Prop := fnQuarterStepsUptoRow.holds Try.pinned (OpenSpec.upto fnQuarterStepsSpec)

/-- 'laws.FnQuarterTimes', WHERE WHAT IT READS IS OF BULK AT MOST 1048576: true; the input reads as it did. -/
def fnQuarterTimesUptoRow : OpenClaim := { program := "ytbfejjippkheaaa", sum := "a9565b43f8d8e8070020e77b6d0b56a992ffd7325e07b14a6b5ad29f57c66ae4", func := "loop.example/countingboards/laws.FnQuarterTimes", spec := "fnQuarterTimes", unfollowed := true, recurses := true, apart := false, narrowed := true }
def FnQuarterTimesUptoSaid : Prop := fnQuarterTimesUptoRow.holds Try.pinned (OpenSpec.upto fnQuarterTimesSpec)

end Rows
end Go.Proofs.Ytbfejjippkheaaa
