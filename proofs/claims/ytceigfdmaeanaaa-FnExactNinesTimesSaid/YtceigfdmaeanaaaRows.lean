/-
  No cell of these rows narrows 'for every input' (looked for: loops, veiled, ifaces, maps, wideKeys, modest, calm, conditions, laid).
  DERIVED. THE GIVEN ROWS OF THIS SEAT. 12 by the template 'for every input the law returns true; each argument reads behind the call as it read before'; 0 by the template 'total and deterministic' (their statements: YtceigfdmaeanaaaTotals.lean).
  GIVEN WITH THE SEED: the statements are not yours to turn. If you find one false, say at which input.
  Laid BY PROGRAM, IN A SANDBOX (cutbox-rows.mjs): the forced cells as the released guide's own fill.sh prints them over the translation d1af975a7ab6cf01… (all of the seat's roots in one cut). By AI agents, Wed Nov 11 2026. No macro, syntax, notation, axiom, sorry.
-/
import Derived.Test.YtceigfdmaeanaaaChecked
import GoSem.Claim
import GoSem.ClaimJoined
import GoSem.ClaimMapViews
import Derived.JoinedTies
import Derived.KernelRfl
namespace Go.Proofs.Ytceigfdmaeanaaa
/- THE CELL 'sum', in the pinned program and in every row, IS THE sha256 OF THE DUMP (.gsa) THAT YtceigfdmaeanaaaProg.lean LOADS. Nothing in Lean hashes anything: it is a label: what it is worth is what the hold of that sum in a sandbox is worth. -/
noncomputable def Try.pinned : Pinned := { name := "ytceigfdmaeanaaa", sum := "d1af975a7ab6cf0197083e487a9c21c34c04311b61d2516ead8519a5317b222b", checked := Try.checked }
namespace Rows
def none {H : Type} : Left H := { results := [], args := [] }

/-- 'laws.FnExactNinesOf': WHATEVER THE INPUT: true; the input reads as it did. -/
def fnExactNinesOfSpec : ChangeSpec := { name := "fnExactNinesOf", fn := fun _ => fun
  | [d] => { results := [.lit (.bool true)], args := [d] }
  | _ => none }
def fnExactNinesOfRow : OpenClaim := { program := "ytceigfdmaeanaaa", sum := "d1af975a7ab6cf0197083e487a9c21c34c04311b61d2516ead8519a5317b222b", func := "loop.example/countingboards/laws.FnExactNinesOf", spec := "fnExactNinesOf", apart := false }
def FnExactNinesOfSaid : Prop := fnExactNinesOfRow.holds Try.pinned (OpenSpec.ofChange fnExactNinesOfSpec)

/-- ITS FALSE NEIGHBOUR: 'it returns false'. Refute it at one input. -/
def fnExactNinesOfWrong : ChangeSpec := { name := "fnExactNinesOf", fn := fun _ => fun
  | [d] => { results := [.lit (.bool false)], args := [d] }
  | _ => none }
def FnExactNinesOfWrongFalsely : Prop := fnExactNinesOfRow.holds Try.pinned (OpenSpec.ofChange fnExactNinesOfWrong)

/-- 'laws.FnExactNumeralFar': WHATEVER THE INPUT: true; the input reads as it did. -/
def fnExactNumeralFarSpec : ChangeSpec := { name := "fnExactNumeralFar", fn := fun _ => fun
  | [d1, d2] => { results := [.lit (.bool true)], args := [d1, d2] }
  | _ => none }
def fnExactNumeralFarRow : OpenClaim := { program := "ytceigfdmaeanaaa", sum := "d1af975a7ab6cf0197083e487a9c21c34c04311b61d2516ead8519a5317b222b", func := "loop.example/countingboards/laws.FnExactNumeralFar", spec := "fnExactNumeralFar", apart := false }
def FnExactNumeralFarSaid : Prop := fnExactNumeralFarRow.holds Try.pinned (OpenSpec.ofChange fnExactNumeralFarSpec)

/-- ITS FALSE NEIGHBOUR: 'it returns false'. Refute it at one input. -/
def fnExactNumeralFarWrong : ChangeSpec := { name := "fnExactNumeralFar", fn := fun _ => fun
  | [d1, d2] => { results := [.lit (.bool false)], args := [d1, d2] }
  | _ => none }
def FnExactNumeralFarWrongFalsely : Prop := fnExactNumeralFarRow.holds Try.pinned (OpenSpec.ofChange fnExactNumeralFarWrong)

/-- 'laws.FnExactElevensOf': WHATEVER THE INPUT: true; the input reads as it did. -/
def fnExactElevensOfSpec : ChangeSpec := { name := "fnExactElevensOf", fn := fun _ => fun
  | [d] => { results := [.lit (.bool true)], args := [d] }
  | _ => none }
def fnExactElevensOfRow : OpenClaim := { program := "ytceigfdmaeanaaa", sum := "d1af975a7ab6cf0197083e487a9c21c34c04311b61d2516ead8519a5317b222b", func := "loop.example/countingboards/laws.FnExactElevensOf", spec := "fnExactElevensOf", apart := false }
def FnExactElevensOfSaid : Prop := fnExactElevensOfRow.holds Try.pinned (OpenSpec.ofChange fnExactElevensOfSpec)

/-- ITS FALSE NEIGHBOUR: 'it returns false'. Refute it at one input. -/
def fnExactElevensOfWrong : ChangeSpec := { name := "fnExactElevensOf", fn := fun _ => fun
  | [d] => { results := [.lit (.bool false)], args := [d] }
  | _ => none }
def FnExactElevensOfWrongFalsely : Prop := fnExactElevensOfRow.holds Try.pinned (OpenSpec.ofChange fnExactElevensOfWrong)

/-- 'laws.FnExactNumeralSlip': WHATEVER THE INPUT: true; the input reads as it did. -/
def fnExactNumeralSlipSpec : ChangeSpec := { name := "fnExactNumeralSlip", fn := fun _ => fun
  | [d1, d2, d3] => { results := [.lit (.bool true)], args := [d1, d2, d3] }
  | _ => none }
def fnExactNumeralSlipRow : OpenClaim := { program := "ytceigfdmaeanaaa", sum := "d1af975a7ab6cf0197083e487a9c21c34c04311b61d2516ead8519a5317b222b", func := "loop.example/countingboards/laws.FnExactNumeralSlip", spec := "fnExactNumeralSlip", apart := false }
def FnExactNumeralSlipSaid : Prop := fnExactNumeralSlipRow.holds Try.pinned (OpenSpec.ofChange fnExactNumeralSlipSpec)

/-- ITS FALSE NEIGHBOUR: 'it returns false'. Refute it at one input. -/
def fnExactNumeralSlipWrong : ChangeSpec := { name := "fnExactNumeralSlip", fn := fun _ => fun
  | [d1, d2, d3] => { results := [.lit (.bool false)], args := [d1, d2, d3] }
  | _ => none }
def FnExactNumeralSlipWrongFalsely : Prop := fnExactNumeralSlipRow.holds Try.pinned (OpenSpec.ofChange fnExactNumeralSlipWrong)

/-- 'laws.FnExactNumeralExchange': WHATEVER THE INPUT: true; the input reads as it did. -/
def fnExactNumeralExchangeSpec : ChangeSpec := { name := "fnExactNumeralExchange", fn := fun _ => fun
  | [d1, d2] => { results := [.lit (.bool true)], args := [d1, d2] }
  | _ => none }
def fnExactNumeralExchangeRow : OpenClaim := { program := "ytceigfdmaeanaaa", sum := "d1af975a7ab6cf0197083e487a9c21c34c04311b61d2516ead8519a5317b222b", func := "loop.example/countingboards/laws.FnExactNumeralExchange", spec := "fnExactNumeralExchange", apart := false }
def FnExactNumeralExchangeSaid : Prop := fnExactNumeralExchangeRow.holds Try.pinned (OpenSpec.ofChange fnExactNumeralExchangeSpec)

/-- ITS FALSE NEIGHBOUR: 'it returns false'. Refute it at one input. -/
def fnExactNumeralExchangeWrong : ChangeSpec := { name := "fnExactNumeralExchange", fn := fun _ => fun
  | [d1, d2] => { results := [.lit (.bool false)], args := [d1, d2] }
  | _ => none }
def FnExactNumeralExchangeWrongFalsely : Prop := fnExactNumeralExchangeRow.holds Try.pinned (OpenSpec.ofChange fnExactNumeralExchangeWrong)

/-- 'laws.FnExactNinesSum': WHATEVER THE INPUT: true; the input reads as it did. -/
def fnExactNinesSumSpec : ChangeSpec := { name := "fnExactNinesSum", fn := fun _ => fun
  | [d1, d2, d3] => { results := [.lit (.bool true)], args := [d1, d2, d3] }
  | _ => none }
def fnExactNinesSumRow : OpenClaim := { program := "ytceigfdmaeanaaa", sum := "d1af975a7ab6cf0197083e487a9c21c34c04311b61d2516ead8519a5317b222b", func := "loop.example/countingboards/laws.FnExactNinesSum", spec := "fnExactNinesSum", unfollowed := true, recurses := true, apart := false }
def FnExactNinesSumSaid : Prop := fnExactNinesSumRow.holds Try.pinned (OpenSpec.ofChange fnExactNinesSumSpec)

/-- ITS FALSE NEIGHBOUR: 'it returns false'. Refute it at one input. -/
def fnExactNinesSumWrong : ChangeSpec := { name := "fnExactNinesSum", fn := fun _ => fun
  | [d1, d2, d3] => { results := [.lit (.bool false)], args := [d1, d2, d3] }
  | _ => none }
def FnExactNinesSumWrongFalsely : Prop := fnExactNinesSumRow.holds Try.pinned (OpenSpec.ofChange fnExactNinesSumWrong)

/-- 'laws.FnExactNinesTimes': WHATEVER THE INPUT: true; the input reads as it did. -/
def fnExactNinesTimesSpec : ChangeSpec := { name := "fnExactNinesTimes", fn := fun _ => fun
  | [d1, d2, d3] => { results := [.lit (.bool true)], args := [d1, d2, d3] }
  | _ => none }
def fnExactNinesTimesRow : OpenClaim := { program := "ytceigfdmaeanaaa", sum := "d1af975a7ab6cf0197083e487a9c21c34c04311b61d2516ead8519a5317b222b", func := "loop.example/countingboards/laws.FnExactNinesTimes", spec := "fnExactNinesTimes", unfollowed := true, recurses := true, apart := false }
def FnExactNinesTimesSaid : Prop := fnExactNinesTimesRow.holds Try.pinned (OpenSpec.ofChange fnExactNinesTimesSpec)

/-- ITS FALSE NEIGHBOUR: 'it returns false'. Refute it at one input. -/
def fnExactNinesTimesWrong : ChangeSpec := { name := "fnExactNinesTimes", fn := fun _ => fun
  | [d1, d2, d3] => { results := [.lit (.bool false)], args := [d1, d2, d3] }
  | _ => none }
def FnExactNinesTimesWrongFalsely : Prop := fnExactNinesTimesRow.holds Try.pinned (OpenSpec.ofChange fnExactNinesTimesWrong)

/-- 'laws.FnExactElevensTimes': WHATEVER THE INPUT: true; the input reads as it did. -/
def fnExactElevensTimesSpec : ChangeSpec := { name := "fnExactElevensTimes", fn := fun _ => fun
  | [d1, d2, d3] => { results := [.lit (.bool true)], args := [d1, d2, d3] }
  | _ => none }
def fnExactElevensTimesRow : OpenClaim := { program := "ytceigfdmaeanaaa", sum := "d1af975a7ab6cf0197083e487a9c21c34c04311b61d2516ead8519a5317b222b", func := "loop.example/countingboards/laws.FnExactElevensTimes", spec := "fnExactElevensTimes", unfollowed := true, recurses := true, apart := false }
def FnExactElevensTimesSaid : Prop := fnExactElevensTimesRow.holds Try.pinned (OpenSpec.ofChange fnExactElevensTimesSpec)

/-- ITS FALSE NEIGHBOUR: 'it returns false'. Refute it at one input. -/
def fnExactElevensTimesWrong : ChangeSpec := { name := "fnExactElevensTimes", fn := fun _ => fun
  | [d1, d2, d3] => { results := [.lit (.bool false)], args := [d1, d2, d3] }
  | _ => none }
def FnExactElevensTimesWrongFalsely : Prop := fnExactElevensTimesRow.holds Try.pinned (OpenSpec.ofChange fnExactElevensTimesWrong)

/-- 'laws.FnNines': WHATEVER THE INPUT: true; the input reads as it did. -/
def fnNinesSpec : ChangeSpec := { name := "fnNines", fn := fun _ => fun
  | [d1, d2] => { results := [.lit (.bool true)], args := [d1, d2] }
  | _ => none }
def fnNinesRow : OpenClaim := { program := "ytceigfdmaeanaaa", sum := "d1af975a7ab6cf0197083e487a9c21c34c04311b61d2516ead8519a5317b222b", func := "loop.example/countingboards/laws.FnNines", spec := "fnNines", apart := false }
def FnNinesSaid : Prop := fnNinesRow.holds Try.pinned (OpenSpec.ofChange fnNinesSpec)

/-- ITS FALSE NEIGHBOUR: 'it returns false'. Refute it at one input. -/
def fnNinesWrong : ChangeSpec := { name := "fnNines", fn := fun _ => fun
  | [d1, d2] => { results := [.lit (.bool false)], args := [d1, d2] }
  | _ => none }
def FnNinesWrongFalsely : Prop := fnNinesRow.holds Try.pinned (OpenSpec.ofChange fnNinesWrong)

/-- 'laws.FnElevens': WHATEVER THE INPUT: true; the input reads as it did. -/
def fnElevensSpec : ChangeSpec := { name := "fnElevens", fn := fun _ => fun
  | [d1, d2] => { results := [.lit (.bool true)], args := [d1, d2] }
  | _ => none }
def fnElevensRow : OpenClaim := { program := "ytceigfdmaeanaaa", sum := "d1af975a7ab6cf0197083e487a9c21c34c04311b61d2516ead8519a5317b222b", func := "loop.example/countingboards/laws.FnElevens", spec := "fnElevens", apart := false }
def FnElevensSaid : Prop := fnElevensRow.holds Try.pinned (OpenSpec.ofChange fnElevensSpec)

/-- ITS FALSE NEIGHBOUR: 'it returns false'. Refute it at one input. -/
def fnElevensWrong : ChangeSpec := { name := "fnElevens", fn := fun _ => fun
  | [d1, d2] => { results := [.lit (.bool false)], args := [d1, d2] }
  | _ => none }
def FnElevensWrongFalsely : Prop := fnElevensRow.holds Try.pinned (OpenSpec.ofChange fnElevensWrong)

/-- 'laws.FnSlip': WHATEVER THE INPUT: true; the input reads as it did. -/
def fnSlipSpec : ChangeSpec := { name := "fnSlip", fn := fun _ => fun
  | [d] => { results := [.lit (.bool true)], args := [d] }
  | _ => none }
def fnSlipRow : OpenClaim := { program := "ytceigfdmaeanaaa", sum := "d1af975a7ab6cf0197083e487a9c21c34c04311b61d2516ead8519a5317b222b", func := "loop.example/countingboards/laws.FnSlip", spec := "fnSlip", apart := false }
def FnSlipSaid : Prop := fnSlipRow.holds Try.pinned (OpenSpec.ofChange fnSlipSpec)

/-- ITS FALSE NEIGHBOUR: 'it returns false'. Refute it at one input. -/
def fnSlipWrong : ChangeSpec := { name := "fnSlip", fn := fun _ => fun
  | [d] => { results := [.lit (.bool false)], args := [d] }
  | _ => none }
def FnSlipWrongFalsely : Prop := fnSlipRow.holds Try.pinned (OpenSpec.ofChange fnSlipWrong)

/-- 'laws.FnExchange': WHATEVER THE INPUT: true; the input reads as it did. -/
def fnExchangeSpec : ChangeSpec := { name := "fnExchange", fn := fun _ => fun
  | [d] => { results := [.lit (.bool true)], args := [d] }
  | _ => none }
def fnExchangeRow : OpenClaim := { program := "ytceigfdmaeanaaa", sum := "d1af975a7ab6cf0197083e487a9c21c34c04311b61d2516ead8519a5317b222b", func := "loop.example/countingboards/laws.FnExchange", spec := "fnExchange", apart := false }
def FnExchangeSaid : Prop := fnExchangeRow.holds Try.pinned (OpenSpec.ofChange fnExchangeSpec)

/-- ITS FALSE NEIGHBOUR: 'it returns false'. Refute it at one input. -/
def fnExchangeWrong : ChangeSpec := { name := "fnExchange", fn := fun _ => fun
  | [d] => { results := [.lit (.bool false)], args := [d] }
  | _ => none }
def FnExchangeWrongFalsely : Prop := fnExchangeRow.holds Try.pinned (OpenSpec.ofChange fnExchangeWrong)

/- THE SECOND FORM. 'bulk': how many values and letters a reading holds, each counted each time it is reached (what is shared counts as often as it is met; a slice's spare places count too). A statement '..UptoSaid' is the law's where the arguments, and the package variables that the reading takes, are together of bulk at most 1048576: NARROWER than '..Said'. Prove '..Said' where nothing that the law and all that it calls make is longer than what came in: it says more and counts as full. Else prove '..UptoSaid'. A law counts once. -/
mutual
def uptoBulk {H : Type} : DataW H → Nat
  | .lit (.string bytes) => bytes.length + 1
  | .lit _ => 1
  | .nil => 1
  | .ptr d => uptoBulk d + 1
  | .slice elems spare => uptoBulkAll elems + uptoBulkAll spare + 1
  | .agg parts => uptoBulkAll parts + 1
  | .iface _ d => uptoBulk d + 1
  | .map entries => uptoBulkEntries entries + 1
  | .held _ => 1
def uptoBulkAll {H : Type} : List (DataW H) → Nat
  | [] => 0
  | d :: r => uptoBulk d + uptoBulkAll r
def uptoBulkEntries {H : Type} : List (Lit × DataW H) → Nat
  | [] => 0
  | x :: r => uptoBulkEntry x + uptoBulkEntries r
def uptoBulkEntry {H : Type} : Lit × DataW H → Nat
  | (.string bytes, d) => bytes.length + uptoBulk d + 1
  | (_, d) => uptoBulk d + 1
 end
def uptoSmall : (H : Type) → List (DataW H) → Bool := fun _ ds => decide (uptoBulkAll ds ≤ 1048576)
def OpenSpec.upto (s : _root_.Go.ChangeSpec) : _root_.Go.OpenSpec := { _root_.Go.OpenSpec.ofChange s with cond := some uptoSmall }

/-- 'laws.FnExactNinesOf', WHERE WHAT IT READS IS OF BULK AT MOST 1048576: true; the input reads as it did. -/
def fnExactNinesOfUptoRow : OpenClaim := { program := "ytceigfdmaeanaaa", sum := "d1af975a7ab6cf0197083e487a9c21c34c04311b61d2516ead8519a5317b222b", func := "loop.example/countingboards/laws.FnExactNinesOf", spec := "fnExactNinesOf", apart := false, narrowed := true }
def FnExactNinesOfUptoSaid : Prop := fnExactNinesOfUptoRow.holds Try.pinned (OpenSpec.upto fnExactNinesOfSpec)

/-- 'laws.FnExactNumeralFar', WHERE WHAT IT READS IS OF BULK AT MOST 1048576: true; the input reads as it did. -/
def fnExactNumeralFarUptoRow : OpenClaim := { program := "ytceigfdmaeanaaa", sum := "d1af975a7ab6cf0197083e487a9c21c34c04311b61d2516ead8519a5317b222b", func := "loop.example/countingboards/laws.FnExactNumeralFar", spec := "fnExactNumeralFar", apart := false, narrowed := true }
def FnExactNumeralFarUptoSaid : Prop := fnExactNumeralFarUptoRow.holds Try.pinned (OpenSpec.upto fnExactNumeralFarSpec)

/-- 'laws.FnExactElevensOf', WHERE WHAT IT READS IS OF BULK AT MOST 1048576: true; the input reads as it did. -/
def fnExactElevensOfUptoRow : OpenClaim := { program := "ytceigfdmaeanaaa", sum := "d1af975a7ab6cf0197083e487a9c21c34c04311b61d2516ead8519a5317b222b", func := "loop.example/countingboards/laws.FnExactElevensOf", spec := "fnExactElevensOf", apart := false, narrowed := true }
def FnExactElevensOfUptoSaid : Prop := fnExactElevensOfUptoRow.holds Try.pinned (OpenSpec.upto fnExactElevensOfSpec)

/-- 'laws.FnExactNumeralSlip', WHERE WHAT IT READS IS OF BULK AT MOST 1048576: true; the input reads as it did. -/
def fnExactNumeralSlipUptoRow : OpenClaim := { program := "ytceigfdmaeanaaa", sum := "d1af975a7ab6cf0197083e487a9c21c34c04311b61d2516ead8519a5317b222b", func := "loop.example/countingboards/laws.FnExactNumeralSlip", spec := "fnExactNumeralSlip", apart := false, narrowed := true }
def FnExactNumeralSlipUptoSaid : Prop := fnExactNumeralSlipUptoRow.holds Try.pinned (OpenSpec.upto fnExactNumeralSlipSpec)

/-- 'laws.FnExactNumeralExchange', WHERE WHAT IT READS IS OF BULK AT MOST 1048576: true; the input reads as it did. -/
def fnExactNumeralExchangeUptoRow : OpenClaim := { program := "ytceigfdmaeanaaa", sum := "d1af975a7ab6cf0197083e487a9c21c34c04311b61d2516ead8519a5317b222b", func := "loop.example/countingboards/laws.FnExactNumeralExchange", spec := "fnExactNumeralExchange", apart := false, narrowed := true }
def FnExactNumeralExchangeUptoSaid : Prop := fnExactNumeralExchangeUptoRow.holds Try.pinned (OpenSpec.upto fnExactNumeralExchangeSpec)

/-- 'laws.FnExactNinesSum', WHERE WHAT IT READS IS OF BULK AT MOST 1048576: true; the input reads as it did. -/
def fnExactNinesSumUptoRow : OpenClaim := { program := "ytceigfdmaeanaaa", sum := "d1af975a7ab6cf0197083e487a9c21c34c04311b61d2516ead8519a5317b222b", func := "loop.example/countingboards/laws.FnExactNinesSum", spec := "fnExactNinesSum", unfollowed := true, recurses := true, apart := false, narrowed := true }
def FnExactNinesSumUptoSaid : Prop := fnExactNinesSumUptoRow.holds Try.pinned (OpenSpec.upto fnExactNinesSumSpec)

/-- 'laws.FnExactNinesTimes', WHERE WHAT IT READS IS OF BULK AT MOST 1048576: true; the input reads as it did. -/
def fnExactNinesTimesUptoRow : OpenClaim := { program := "ytceigfdmaeanaaa", sum := "d1af975a7ab6cf0197083e487a9c21c34c04311b61d2516ead8519a5317b222b", func := "loop.example/countingboards/laws.FnExactNinesTimes", spec := "fnExactNinesTimes", unfollowed := true, recurses := true, apart := false, narrowed := true }
def FnExactNinesTimesUptoSaid : Prop := fnExactNinesTimesUptoRow.holds Try.pinned (OpenSpec.upto fnExactNinesTimesSpec)

/-- 'laws.FnExactElevensTimes', WHERE WHAT IT READS IS OF BULK AT MOST 1048576: true; the input reads as it did. -/
def fnExactElevensTimesUptoRow : OpenClaim := { program := "ytceigfdmaeanaaa", sum := "d1af975a7ab6cf0197083e487a9c21c34c04311b61d2516ead8519a5317b222b", func := "loop.example/countingboards/laws.FnExactElevensTimes", spec := "fnExactElevensTimes", unfollowed := true, recurses := true, apart := false, narrowed := true }
def FnExactElevensTimesUptoSaid : Prop := fnExactElevensTimesUptoRow.holds Try.pinned (OpenSpec.upto fnExactElevensTimesSpec)

/-- 'laws.FnNines', WHERE WHAT IT READS IS OF BULK AT MOST 1048576: true; the input reads as it did. -/
def fnNinesUptoRow : OpenClaim := { program := "ytceigfdmaeanaaa", sum := "d1af975a7ab6cf0197083e487a9c21c34c04311b61d2516ead8519a5317b222b", func := "loop.example/countingboards/laws.FnNines", spec := "fnNines", apart := false, narrowed := true }
def FnNinesUptoSaid : Prop := fnNinesUptoRow.holds Try.pinned (OpenSpec.upto fnNinesSpec)

/-- 'laws.FnElevens', WHERE WHAT IT READS IS OF BULK AT MOST 1048576: true; the input reads as it did. -/
def fnElevensUptoRow : OpenClaim := { program := "ytceigfdmaeanaaa", sum := "d1af975a7ab6cf0197083e487a9c21c34c04311b61d2516ead8519a5317b222b", func := "loop.example/countingboards/laws.FnElevens", spec := "fnElevens", apart := false, narrowed := true }
def FnElevensUptoSaid : Prop := fnElevensUptoRow.holds Try.pinned (OpenSpec.upto fnElevensSpec)

/-- 'laws.FnSlip', WHERE WHAT IT READS IS OF BULK AT MOST 1048576: true; the input reads as it did. -/
def fnSlipUptoRow : OpenClaim := { program := "ytceigfdmaeanaaa", sum := "d1af975a7ab6cf0197083e487a9c21c34c04311b61d2516ead8519a5317b222b", func := "loop.example/countingboards/laws.FnSlip", spec := "fnSlip", apart := false, narrowed := true }
def FnSlipUptoSaid : Prop := fnSlipUptoRow.holds Try.pinned (OpenSpec.upto fnSlipSpec)

/-- 'laws.FnExchange', WHERE WHAT IT READS IS OF BULK AT MOST 1048576: true; the input reads as it did. -/
def fnExchangeUptoRow : OpenClaim := { program := "ytceigfdmaeanaaa", sum := "d1af975a7ab6cf0197083e487a9c21c34c04311b61d2516ead8519a5317b222b", func := "loop.example/countingboards/laws.FnExchange", spec := "fnExchange", apart := false, narrowed := true }
def FnExchangeUptoSaid : Prop := fnExchangeUptoRow.holds Try.pinned (OpenSpec.upto fnExchangeSpec)

end Rows
end Go.Proofs.Ytceigfdmaeanaaa
