/-
  No cell of these rows narrows 'for every input' (looked for: loops, veiled, ifaces, maps, wideKeys, modest, calm, conditions, laid).
  DERIVED. THE GIVEN ROWS OF THIS SEAT. 6 by the template 'for every input the law returns true; each argument reads behind the call as it read before'; 0 by the template 'total and deterministic' (their statements: YtceigfdmaeanaabTotals.lean).
  GIVEN WITH THE SEED: the statements are not yours to turn. If you find one false, say at which input.
  Laid BY PROGRAM, IN A SANDBOX (cutbox-rows.mjs): the forced cells as the released guide's own fill.sh prints them over the translation a25d4a581857411b… (all of the seat's roots in one cut). By AI agents, Wed Nov 11 2026. No macro, syntax, notation, axiom, sorry.
-/
import Derived.Test.YtceigfdmaeanaabChecked
import GoSem.Claim
import GoSem.ClaimJoined
import GoSem.ClaimMapViews
import Derived.JoinedTies
import Derived.KernelRfl
namespace Go.Proofs.Ytceigfdmaeanaab
/- THE CELL 'sum', in the pinned program and in every row, IS THE sha256 OF THE DUMP (.gsa) THAT YtceigfdmaeanaabProg.lean LOADS. Nothing in Lean hashes anything: it is a label: what it is worth is what the hold of that sum in a sandbox is worth. -/
noncomputable def Try.pinned : Pinned := { name := "ytceigfdmaeanaab", sum := "a25d4a581857411b5a05443bef6a2cc233224b4969d2171a87988bf40e0b5c78", checked := Try.checked }
namespace Rows
def none {H : Type} : Left H := { results := [], args := [] }

/-- 'laws.FnNumeralFar': WHATEVER THE INPUT: true; the input reads as it did. -/
def fnNumeralFarSpec : ChangeSpec := { name := "fnNumeralFar", fn := fun _ => fun
  | [d] => { results := [.lit (.bool true)], args := [d] }
  | _ => none }
def fnNumeralFarRow : OpenClaim := { program := "ytceigfdmaeanaab", sum := "a25d4a581857411b5a05443bef6a2cc233224b4969d2171a87988bf40e0b5c78", func := "loop.example/countingboards/laws.FnNumeralFar", spec := "fnNumeralFar", apart := false }
def FnNumeralFarSaid : Prop := fnNumeralFarRow.holds Try.pinned (OpenSpec.ofChange fnNumeralFarSpec)

/-- ITS FALSE NEIGHBOUR: 'it returns false'. Refute it at one input. -/
def fnNumeralFarWrong : ChangeSpec := { name := "fnNumeralFar", fn := fun _ => fun
  | [d] => { results := [.lit (.bool false)], args := [d] }
  | _ => none }
def FnNumeralFarWrongFalsely : Prop := fnNumeralFarRow.holds Try.pinned (OpenSpec.ofChange fnNumeralFarWrong)

/-- 'laws.FnBothChecks': WHATEVER THE INPUT: true; the input reads as it did. -/
def fnBothChecksSpec : ChangeSpec := { name := "fnBothChecks", fn := fun _ => fun
  | [d] => { results := [.lit (.bool true)], args := [d] }
  | _ => none }
def fnBothChecksRow : OpenClaim := { program := "ytceigfdmaeanaab", sum := "a25d4a581857411b5a05443bef6a2cc233224b4969d2171a87988bf40e0b5c78", func := "loop.example/countingboards/laws.FnBothChecks", spec := "fnBothChecks", unfollowed := true, recurses := true, apart := false }
def FnBothChecksSaid : Prop := fnBothChecksRow.holds Try.pinned (OpenSpec.ofChange fnBothChecksSpec)

/-- ITS FALSE NEIGHBOUR: 'it returns false'. Refute it at one input. -/
def fnBothChecksWrong : ChangeSpec := { name := "fnBothChecks", fn := fun _ => fun
  | [d] => { results := [.lit (.bool false)], args := [d] }
  | _ => none }
def FnBothChecksWrongFalsely : Prop := fnBothChecksRow.holds Try.pinned (OpenSpec.ofChange fnBothChecksWrong)

/-- 'laws.FnNinesSum': WHATEVER THE INPUT: true; the input reads as it did. -/
def fnNinesSumSpec : ChangeSpec := { name := "fnNinesSum", fn := fun _ => fun
  | [d] => { results := [.lit (.bool true)], args := [d] }
  | _ => none }
def fnNinesSumRow : OpenClaim := { program := "ytceigfdmaeanaab", sum := "a25d4a581857411b5a05443bef6a2cc233224b4969d2171a87988bf40e0b5c78", func := "loop.example/countingboards/laws.FnNinesSum", spec := "fnNinesSum", unfollowed := true, recurses := true, apart := false }
def FnNinesSumSaid : Prop := fnNinesSumRow.holds Try.pinned (OpenSpec.ofChange fnNinesSumSpec)

/-- ITS FALSE NEIGHBOUR: 'it returns false'. Refute it at one input. -/
def fnNinesSumWrong : ChangeSpec := { name := "fnNinesSum", fn := fun _ => fun
  | [d] => { results := [.lit (.bool false)], args := [d] }
  | _ => none }
def FnNinesSumWrongFalsely : Prop := fnNinesSumRow.holds Try.pinned (OpenSpec.ofChange fnNinesSumWrong)

/-- 'laws.FnNinesTimes': WHATEVER THE INPUT: true; the input reads as it did. -/
def fnNinesTimesSpec : ChangeSpec := { name := "fnNinesTimes", fn := fun _ => fun
  | [d1, d2] => { results := [.lit (.bool true)], args := [d1, d2] }
  | _ => none }
def fnNinesTimesRow : OpenClaim := { program := "ytceigfdmaeanaab", sum := "a25d4a581857411b5a05443bef6a2cc233224b4969d2171a87988bf40e0b5c78", func := "loop.example/countingboards/laws.FnNinesTimes", spec := "fnNinesTimes", unfollowed := true, recurses := true, apart := false }
def FnNinesTimesSaid : Prop := fnNinesTimesRow.holds Try.pinned (OpenSpec.ofChange fnNinesTimesSpec)

/-- ITS FALSE NEIGHBOUR: 'it returns false'. Refute it at one input. -/
def fnNinesTimesWrong : ChangeSpec := { name := "fnNinesTimes", fn := fun _ => fun
  | [d1, d2] => { results := [.lit (.bool false)], args := [d1, d2] }
  | _ => none }
def FnNinesTimesWrongFalsely : Prop := fnNinesTimesRow.holds Try.pinned (OpenSpec.ofChange fnNinesTimesWrong)

/-- 'laws.FnElevensTimes': WHATEVER THE INPUT: true; the input reads as it did. -/
def fnElevensTimesSpec : ChangeSpec := { name := "fnElevensTimes", fn := fun _ => fun
  | [d1, d2] => { results := [.lit (.bool true)], args := [d1, d2] }
  | _ => none }
def fnElevensTimesRow : OpenClaim := { program := "ytceigfdmaeanaab", sum := "a25d4a581857411b5a05443bef6a2cc233224b4969d2171a87988bf40e0b5c78", func := "loop.example/countingboards/laws.FnElevensTimes", spec := "fnElevensTimes", unfollowed := true, recurses := true, apart := false }
def FnElevensTimesSaid : Prop := fnElevensTimesRow.holds Try.pinned (OpenSpec.ofChange fnElevensTimesSpec)

/-- ITS FALSE NEIGHBOUR: 'it returns false'. Refute it at one input. -/
def fnElevensTimesWrong : ChangeSpec := { name := "fnElevensTimes", fn := fun _ => fun
  | [d1, d2] => { results := [.lit (.bool false)], args := [d1, d2] }
  | _ => none }
def FnElevensTimesWrongFalsely : Prop := fnElevensTimesRow.holds Try.pinned (OpenSpec.ofChange fnElevensTimesWrong)

/-- 'laws.FnLatticeTimes': WHATEVER THE INPUT: true; the input reads as it did. -/
def fnLatticeTimesSpec : ChangeSpec := { name := "fnLatticeTimes", fn := fun _ => fun
  | [d1, d2] => { results := [.lit (.bool true)], args := [d1, d2] }
  | _ => none }
def fnLatticeTimesRow : OpenClaim := { program := "ytceigfdmaeanaab", sum := "a25d4a581857411b5a05443bef6a2cc233224b4969d2171a87988bf40e0b5c78", func := "loop.example/countingboards/laws.FnLatticeTimes", spec := "fnLatticeTimes", unfollowed := true, recurses := true, apart := false }
def FnLatticeTimesSaid : Prop := fnLatticeTimesRow.holds Try.pinned (OpenSpec.ofChange fnLatticeTimesSpec)

/-- ITS FALSE NEIGHBOUR: 'it returns false'. Refute it at one input. -/
def fnLatticeTimesWrong : ChangeSpec := { name := "fnLatticeTimes", fn := fun _ => fun
  | [d1, d2] => { results := [.lit (.bool false)], args := [d1, d2] }
  | _ => none }
def FnLatticeTimesWrongFalsely : Prop := fnLatticeTimesRow.holds Try.pinned (OpenSpec.ofChange fnLatticeTimesWrong)

/- THE SECOND FORM. 'bulk': how many values and letters a reading holds, each counted each time it is reached (what is shared counts as often as it is met; a slice's spare places count too). A statement '..UptoSaid' is the law's where the arguments, and the package variables that the reading takes, are together of bulk at most 1048576: NARROWER than '..Said'. Prove '..Said' where nothing that the law and all that it calls make is longer than what came in: it says more and counts as full. Else prove '..UptoSaid'. A law counts once. -/
mutual
def uptoBulk {H : Type} : DataW H → Nat
  | .lit (.string bytes) => bytes.length + 1
  | .lit _ => 1
  | .nil => 1
  | .ptr d => uptoBulk d + 1
  | .slice elems spare => uptoBulkAll elems + uptoBulkAll spare + 1
  | .agg parts => uptoBulkAll parts + 1
  | .iface _ d => uptoBulk d + 1
  | .map entries => uptoBulkEntries entries + 1
  | .held _ => 1
def uptoBulkAll {H : Type} : List (DataW H) → Nat
  | [] => 0
  | d :: r => uptoBulk d + uptoBulkAll r
def uptoBulkEntries {H : Type} : List (Lit × DataW H) → Nat
  | [] => 0
  | x :: r => uptoBulkEntry x + uptoBulkEntries r
def uptoBulkEntry {H : Type} : Lit × DataW H → Nat
  | (.string bytes, d) => bytes.length + uptoBulk d + 1
  | (_, d) => uptoBulk d + 1
 end
def uptoSmall : (H : Type) → List (DataW H) → Bool := fun _ ds => decide (uptoBulkAll ds ≤ 1048576)
def OpenSpec.upto (s : _root_.Go.ChangeSpec) : _root_.Go.OpenSpec := { _root_.Go.OpenSpec.ofChange s with cond := some uptoSmall }

/-- 'laws.FnNumeralFar', WHERE WHAT IT READS IS OF BULK AT MOST 1048576: true; the input reads as it did. -/
def fnNumeralFarUptoRow : OpenClaim := { program := "ytceigfdmaeanaab", sum := "a25d4a581857411b5a05443bef6a2cc233224b4969d2171a87988bf40e0b5c78", func := "loop.example/countingboards/laws.FnNumeralFar", spec := "fnNumeralFar", apart := false, narrowed := true }
def FnNumeralFarUptoSaid : Prop := fnNumeralFarUptoRow.holds Try.pinned (OpenSpec.upto fnNumeralFarSpec)

/-- 'laws.FnBothChecks', WHERE WHAT IT READS IS OF BULK AT MOST 1048576: true; the input reads as it did. -/
def fnBothChecksUptoRow : OpenClaim := { program := "ytceigfdmaeanaab", sum := "a25d4a581857411b5a05443bef6a2cc233224b4969d2171a87988bf40e0b5c78", func := "loop.example/countingboards/laws.FnBothChecks", spec := "fnBothChecks", unfollowed := true, recurses := true, apart := false, narrowed := true }
def FnBothChecksUptoSaid : Prop := fnBothChecksUptoRow.holds Try.pinned (OpenSpec.upto fnBothChecksSpec)

/-- 'laws.FnNinesSum', WHERE WHAT IT READS IS OF BULK AT MOST 1048576: true; the input reads as it did. -/
def fnNinesSumUptoRow : OpenClaim := { program := "ytceigfdmaeanaab", sum := "a25d4a581857411b5a05443bef6a2cc233224b4969d2171a87988bf40e0b5c78", func := "loop.example/countingboards/laws.FnNinesSum", spec := "fnNinesSum", unfollowed := true, recurses := true, apart := false, narrowed := true }
def FnNinesSumUptoSaid : Prop := fnNinesSumUptoRow.holds Try.pinned (OpenSpec.upto fnNinesSumSpec)

/-- 'laws.FnNinesTimes', WHERE WHAT IT READS IS OF BULK AT MOST 1048576: true; the input reads as it did. -/
def fnNinesTimesUptoRow : OpenClaim := { program := "ytceigfdmaeanaab", sum := "a25d4a581857411b5a05443bef6a2cc233224b4969d2171a87988bf40e0b5c78", func := "loop.example/countingboards/laws.FnNinesTimes", spec := "fnNinesTimes", unfollowed := true, recurses := true, apart := false, narrowed := true }
def FnNinesTimesUptoSaid : Prop := fnNinesTimesUptoRow.holds Try.pinned (OpenSpec.upto fnNinesTimesSpec)

/-- 'laws.FnElevensTimes', WHERE WHAT IT READS IS OF BULK AT MOST 1048576: true; the input reads as it did. -/
def fnElevensTimesUptoRow : OpenClaim := { program := "ytceigfdmaeanaab", sum := "a25d4a581857411b5a05443bef6a2cc233224b4969d2171a87988bf40e0b5c78", func := "loop.example/countingboards/laws.FnElevensTimes", spec := "fnElevensTimes", unfollowed := true, recurses := true, apart := false, narrowed := true }
def FnElevensTimesUptoSaid : Prop := fnElevensTimesUptoRow.holds Try.pinned (OpenSpec.upto fnElevensTimesSpec)

/-- 'laws.FnLatticeTimes', WHERE WHAT IT READS IS OF BULK AT MOST 1048576: true; the input reads as it did. -/
def fnLatticeTimesUptoRow : OpenClaim := { program := "ytceigfdmaeanaab", sum := "a25d4a581857411b5a05443bef6a2cc233224b4969d2171a87988bf40e0b5c78", func := "loop.example/countingboards/laws.FnLatticeTimes", spec := "fnLatticeTimes", unfollowed := true, recurses := true, apart := false, narrowed := true }
def FnLatticeTimesUptoSaid : Prop := fnLatticeTimesUptoRow.holds Try.pinned (OpenSpec.upto fnLatticeTimesSpec)

end Rows
end Go.Proofs.Ytceigfdmaeanaab
