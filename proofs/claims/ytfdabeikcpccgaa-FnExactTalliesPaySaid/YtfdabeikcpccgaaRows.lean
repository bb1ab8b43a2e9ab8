/-
  No cell of these rows narrows 'for every input' (looked for: loops, veiled, ifaces, maps, wideKeys, modest, calm, conditions, laid).
  DERIVED. THE GIVEN ROWS OF THIS SEAT. 11 by the template 'for every input the law returns true; each argument reads behind the call as it read before'; 0 by the template 'total and deterministic' (their statements: YtfdabeikcpccgaaTotals.lean).
  GIVEN WITH THE SEED: the statements are not yours to turn. If you find one false, say at which input.
  Laid BY PROGRAM, IN A SANDBOX (cutbox-rows.mjs): the forced cells as the released guide's own fill.sh prints them over the translation 58ee2351d705e229… (all of the seat's roots in one cut). By AI agents, Wed Nov 11 2026. No macro, syntax, notation, axiom, sorry.
-/
import Derived.Test.YtfdabeikcpccgaaChecked
import GoSem.Claim
import GoSem.ClaimJoined
import GoSem.ClaimMapViews
import Derived.JoinedTies
import Derived.KernelRfl
namespace Go.Proofs.Ytfdabeikcpccgaa
/- THE CELL 'sum', in the pinned program and in every row, IS THE sha256 OF THE DUMP (.gsa) THAT YtfdabeikcpccgaaProg.lean LOADS. Nothing in Lean hashes anything: it is a label: what it is worth is what the hold of that sum in a sandbox is worth. -/
noncomputable def Try.pinned : Pinned := { name := "ytfdabeikcpccgaa", sum := "58ee2351d705e2290324f08c51d8e71f2568ee4bb007a58003f2b208178b460b", checked := Try.checked }
namespace Rows
def none {H : Type} : Left H := { results := [], args := [] }

/-- 'laws.FnExactNotchesValid': WHATEVER THE INPUT: true; the input reads as it did. -/
def fnExactNotchesValidSpec : ChangeSpec := { name := "fnExactNotchesValid", fn := fun _ => fun
  | [d] => { results := [.lit (.bool true)], args := [d] }
  | _ => none }
def fnExactNotchesValidRow : OpenClaim := { program := "ytfdabeikcpccgaa", sum := "58ee2351d705e2290324f08c51d8e71f2568ee4bb007a58003f2b208178b460b", func := "loop.example/countingboards/laws.FnExactNotchesValid", spec := "fnExactNotchesValid", inPlace := ["internal/bytealg.IndexByteString"], apart := false }
def FnExactNotchesValidSaid : Prop := fnExactNotchesValidRow.holds Try.pinned (OpenSpec.ofChange fnExactNotchesValidSpec)

/-- ITS FALSE NEIGHBOUR: 'it returns false'. Refute it at one input. -/
def fnExactNotchesValidWrong : ChangeSpec := { name := "fnExactNotchesValid", fn := fun _ => fun
  | [d] => { results := [.lit (.bool false)], args := [d] }
  | _ => none }
def FnExactNotchesValidWrongFalsely : Prop := fnExactNotchesValidRow.holds Try.pinned (OpenSpec.ofChange fnExactNotchesValidWrong)

/-- 'laws.FnExactNotchesWorth': WHATEVER THE INPUT: true; the input reads as it did. -/
def fnExactNotchesWorthSpec : ChangeSpec := { name := "fnExactNotchesWorth", fn := fun _ => fun
  | [d] => { results := [.lit (.bool true)], args := [d] }
  | _ => none }
def fnExactNotchesWorthRow : OpenClaim := { program := "ytfdabeikcpccgaa", sum := "58ee2351d705e2290324f08c51d8e71f2568ee4bb007a58003f2b208178b460b", func := "loop.example/countingboards/laws.FnExactNotchesWorth", spec := "fnExactNotchesWorth", inPlace := ["internal/bytealg.IndexByteString"], apart := false }
def FnExactNotchesWorthSaid : Prop := fnExactNotchesWorthRow.holds Try.pinned (OpenSpec.ofChange fnExactNotchesWorthSpec)

/-- ITS FALSE NEIGHBOUR: 'it returns false'. Refute it at one input. -/
def fnExactNotchesWorthWrong : ChangeSpec := { name := "fnExactNotchesWorth", fn := fun _ => fun
  | [d] => { results := [.lit (.bool false)], args := [d] }
  | _ => none }
def FnExactNotchesWorthWrongFalsely : Prop := fnExactNotchesWorthRow.holds Try.pinned (OpenSpec.ofChange fnExactNotchesWorthWrong)

/-- 'laws.FnExactTallyMatches': WHATEVER THE INPUT: true; the input reads as it did. -/
def fnExactTallyMatchesSpec : ChangeSpec := { name := "fnExactTallyMatches", fn := fun _ => fun
  | [d] => { results := [.lit (.bool true)], args := [d] }
  | _ => none }
def fnExactTallyMatchesRow : OpenClaim := { program := "ytfdabeikcpccgaa", sum := "58ee2351d705e2290324f08c51d8e71f2568ee4bb007a58003f2b208178b460b", func := "loop.example/countingboards/laws.FnExactTallyMatches", spec := "fnExactTallyMatches", inPlace := ["internal/bytealg.IndexByteString"], apart := false }
def FnExactTallyMatchesSaid : Prop := fnExactTallyMatchesRow.holds Try.pinned (OpenSpec.ofChange fnExactTallyMatchesSpec)

/-- ITS FALSE NEIGHBOUR: 'it returns false'. Refute it at one input. -/
def fnExactTallyMatchesWrong : ChangeSpec := { name := "fnExactTallyMatches", fn := fun _ => fun
  | [d] => { results := [.lit (.bool false)], args := [d] }
  | _ => none }
def FnExactTallyMatchesWrongFalsely : Prop := fnExactTallyMatchesRow.holds Try.pinned (OpenSpec.ofChange fnExactTallyMatchesWrong)

/-- 'laws.FnExactTallyFraud': WHATEVER THE INPUT: true; the input reads as it did. -/
def fnExactTallyFraudSpec : ChangeSpec := { name := "fnExactTallyFraud", fn := fun _ => fun
  | [d] => { results := [.lit (.bool true)], args := [d] }
  | _ => none }
def fnExactTallyFraudRow : OpenClaim := { program := "ytfdabeikcpccgaa", sum := "58ee2351d705e2290324f08c51d8e71f2568ee4bb007a58003f2b208178b460b", func := "loop.example/countingboards/laws.FnExactTallyFraud", spec := "fnExactTallyFraud", inPlace := ["internal/bytealg.IndexByteString"], apart := false }
def FnExactTallyFraudSaid : Prop := fnExactTallyFraudRow.holds Try.pinned (OpenSpec.ofChange fnExactTallyFraudSpec)

/-- ITS FALSE NEIGHBOUR: 'it returns false'. Refute it at one input. -/
def fnExactTallyFraudWrong : ChangeSpec := { name := "fnExactTallyFraud", fn := fun _ => fun
  | [d] => { results := [.lit (.bool false)], args := [d] }
  | _ => none }
def FnExactTallyFraudWrongFalsely : Prop := fnExactTallyFraudRow.holds Try.pinned (OpenSpec.ofChange fnExactTallyFraudWrong)

/-- 'laws.FnExactTalliesValid': WHATEVER THE INPUT: true; the input reads as it did. -/
def fnExactTalliesValidSpec : ChangeSpec := { name := "fnExactTalliesValid", fn := fun _ => fun
  | [d] => { results := [.lit (.bool true)], args := [d] }
  | _ => none }
def fnExactTalliesValidRow : OpenClaim := { program := "ytfdabeikcpccgaa", sum := "58ee2351d705e2290324f08c51d8e71f2568ee4bb007a58003f2b208178b460b", func := "loop.example/countingboards/laws.FnExactTalliesValid", spec := "fnExactTalliesValid", inPlace := ["internal/bytealg.IndexByteString"], apart := false }
def FnExactTalliesValidSaid : Prop := fnExactTalliesValidRow.holds Try.pinned (OpenSpec.ofChange fnExactTalliesValidSpec)

/-- ITS FALSE NEIGHBOUR: 'it returns false'. Refute it at one input. -/
def fnExactTalliesValidWrong : ChangeSpec := { name := "fnExactTalliesValid", fn := fun _ => fun
  | [d] => { results := [.lit (.bool false)], args := [d] }
  | _ => none }
def FnExactTalliesValidWrongFalsely : Prop := fnExactTalliesValidRow.holds Try.pinned (OpenSpec.ofChange fnExactTalliesValidWrong)

/-- 'laws.FnExactNotchesOf': WHATEVER THE INPUT: true; the input reads as it did. -/
def fnExactNotchesOfSpec : ChangeSpec := { name := "fnExactNotchesOf", fn := fun _ => fun
  | [d] => { results := [.lit (.bool true)], args := [d] }
  | _ => none }
def fnExactNotchesOfRow : OpenClaim := { program := "ytfdabeikcpccgaa", sum := "58ee2351d705e2290324f08c51d8e71f2568ee4bb007a58003f2b208178b460b", func := "loop.example/countingboards/laws.FnExactNotchesOf", spec := "fnExactNotchesOf", inPlace := ["internal/abi.NoEscape", "internal/bytealg.MakeNoZero"], apart := false }
def FnExactNotchesOfSaid : Prop := fnExactNotchesOfRow.holds Try.pinned (OpenSpec.ofChange fnExactNotchesOfSpec)

/-- ITS FALSE NEIGHBOUR: 'it returns false'. Refute it at one input. -/
def fnExactNotchesOfWrong : ChangeSpec := { name := "fnExactNotchesOf", fn := fun _ => fun
  | [d] => { results := [.lit (.bool false)], args := [d] }
  | _ => none }
def FnExactNotchesOfWrongFalsely : Prop := fnExactNotchesOfRow.holds Try.pinned (OpenSpec.ofChange fnExactNotchesOfWrong)

/-- 'laws.FnExactTalliesTotal': WHATEVER THE INPUT: true; the input reads as it did. -/
def fnExactTalliesTotalSpec : ChangeSpec := { name := "fnExactTalliesTotal", fn := fun _ => fun
  | [d] => { results := [.lit (.bool true)], args := [d] }
  | _ => none }
def fnExactTalliesTotalRow : OpenClaim := { program := "ytfdabeikcpccgaa", sum := "58ee2351d705e2290324f08c51d8e71f2568ee4bb007a58003f2b208178b460b", func := "loop.example/countingboards/laws.FnExactTalliesTotal", spec := "fnExactTalliesTotal", inPlace := ["internal/bytealg.IndexByteString"], apart := false }
def FnExactTalliesTotalSaid : Prop := fnExactTalliesTotalRow.holds Try.pinned (OpenSpec.ofChange fnExactTalliesTotalSpec)

/-- ITS FALSE NEIGHBOUR: 'it returns false'. Refute it at one input. -/
def fnExactTalliesTotalWrong : ChangeSpec := { name := "fnExactTalliesTotal", fn := fun _ => fun
  | [d] => { results := [.lit (.bool false)], args := [d] }
  | _ => none }
def FnExactTalliesTotalWrongFalsely : Prop := fnExactTalliesTotalRow.holds Try.pinned (OpenSpec.ofChange fnExactTalliesTotalWrong)

/-- 'laws.FnTallyFraud': WHATEVER THE INPUT: true; the input reads as it did. -/
def fnTallyFraudSpec : ChangeSpec := { name := "fnTallyFraud", fn := fun _ => fun
  | [d] => { results := [.lit (.bool true)], args := [d] }
  | _ => none }
def fnTallyFraudRow : OpenClaim := { program := "ytfdabeikcpccgaa", sum := "58ee2351d705e2290324f08c51d8e71f2568ee4bb007a58003f2b208178b460b", func := "loop.example/countingboards/laws.FnTallyFraud", spec := "fnTallyFraud", inPlace := ["internal/bytealg.IndexByteString"], apart := false }
def FnTallyFraudSaid : Prop := fnTallyFraudRow.holds Try.pinned (OpenSpec.ofChange fnTallyFraudSpec)

/-- ITS FALSE NEIGHBOUR: 'it returns false'. Refute it at one input. -/
def fnTallyFraudWrong : ChangeSpec := { name := "fnTallyFraud", fn := fun _ => fun
  | [d] => { results := [.lit (.bool false)], args := [d] }
  | _ => none }
def FnTallyFraudWrongFalsely : Prop := fnTallyFraudRow.holds Try.pinned (OpenSpec.ofChange fnTallyFraudWrong)

/-- 'laws.FnExactTallyNew': WHATEVER THE INPUT: true; the input reads as it did. -/
def fnExactTallyNewSpec : ChangeSpec := { name := "fnExactTallyNew", fn := fun _ => fun
  | [d1, d2, d3] => { results := [.lit (.bool true)], args := [d1, d2, d3] }
  | _ => none }
def fnExactTallyNewRow : OpenClaim := { program := "ytfdabeikcpccgaa", sum := "58ee2351d705e2290324f08c51d8e71f2568ee4bb007a58003f2b208178b460b", func := "loop.example/countingboards/laws.FnExactTallyNew", spec := "fnExactTallyNew", inPlace := ["internal/abi.NoEscape", "internal/bytealg.MakeNoZero"], apart := false }
def FnExactTallyNewSaid : Prop := fnExactTallyNewRow.holds Try.pinned (OpenSpec.ofChange fnExactTallyNewSpec)

/-- ITS FALSE NEIGHBOUR: 'it returns false'. Refute it at one input. -/
def fnExactTallyNewWrong : ChangeSpec := { name := "fnExactTallyNew", fn := fun _ => fun
  | [d1, d2, d3] => { results := [.lit (.bool false)], args := [d1, d2, d3] }
  | _ => none }
def FnExactTallyNewWrongFalsely : Prop := fnExactTallyNewRow.holds Try.pinned (OpenSpec.ofChange fnExactTallyNewWrong)

/-- 'laws.FnExactTalliesPay': WHATEVER THE INPUT: true; the input reads as it did. -/
def fnExactTalliesPaySpec : ChangeSpec := { name := "fnExactTalliesPay", fn := fun _ => fun
  | [d1, d2] => { results := [.lit (.bool true)], args := [d1, d2] }
  | _ => none }
def fnExactTalliesPayRow : OpenClaim := { program := "ytfdabeikcpccgaa", sum := "58ee2351d705e2290324f08c51d8e71f2568ee4bb007a58003f2b208178b460b", func := "loop.example/countingboards/laws.FnExactTalliesPay", spec := "fnExactTalliesPay", inPlace := ["internal/bytealg.IndexByteString"], apart := false }
def FnExactTalliesPaySaid : Prop := fnExactTalliesPayRow.holds Try.pinned (OpenSpec.ofChange fnExactTalliesPaySpec)

/-- ITS FALSE NEIGHBOUR: 'it returns false'. Refute it at one input. -/
def fnExactTalliesPayWrong : ChangeSpec := { name := "fnExactTalliesPay", fn := fun _ => fun
  | [d1, d2] => { results := [.lit (.bool false)], args := [d1, d2] }
  | _ => none }
def FnExactTalliesPayWrongFalsely : Prop := fnExactTalliesPayRow.holds Try.pinned (OpenSpec.ofChange fnExactTalliesPayWrong)

/-- 'laws.FnNotches': WHATEVER THE INPUT: true; the input reads as it did. -/
def fnNotchesSpec : ChangeSpec := { name := "fnNotches", fn := fun _ => fun
  | [d] => { results := [.lit (.bool true)], args := [d] }
  | _ => none }
def fnNotchesRow : OpenClaim := { program := "ytfdabeikcpccgaa", sum := "58ee2351d705e2290324f08c51d8e71f2568ee4bb007a58003f2b208178b460b", func := "loop.example/countingboards/laws.FnNotches", spec := "fnNotches", inPlace := ["internal/abi.NoEscape", "internal/bytealg.MakeNoZero", "internal/bytealg.IndexByteString"], apart := false }
def FnNotchesSaid : Prop := fnNotchesRow.holds Try.pinned (OpenSpec.ofChange fnNotchesSpec)

/-- ITS FALSE NEIGHBOUR: 'it returns false'. Refute it at one input. -/
def fnNotchesWrong : ChangeSpec := { name := "fnNotches", fn := fun _ => fun
  | [d] => { results := [.lit (.bool false)], args := [d] }
  | _ => none }
def FnNotchesWrongFalsely : Prop := fnNotchesRow.holds Try.pinned (OpenSpec.ofChange fnNotchesWrong)

/- THE SECOND FORM. 'bulk': how many values and letters a reading holds, each counted each time it is reached (what is shared counts as often as it is met; a slice's spare places count too). A statement '..UptoSaid' is the law's where the arguments, and the package variables that the reading takes, are together of bulk at most 1048576: NARROWER than '..Said'. Prove '..Said' where nothing that the law and all that it calls make is longer than what came in: it says more and counts as full. Else prove '..UptoSaid'. A law counts once. -/
mutual
def uptoBulk {H : Type} : DataW H → Nat
  | .lit (.string bytes) => bytes.length + 1
  | .lit _ => 1
  | .nil => 1
  | .ptr d => uptoBulk d + 1
  | .slice elems spare => uptoBulkAll elems + uptoBulkAll spare + 1
  | .agg parts => uptoBulkAll parts + 1
  | .iface _ d => uptoBulk d + 1
  | .map entries => uptoBulkEntries entries + 1
  | .held _ => 1
def uptoBulkAll {H : Type} : List (DataW H) → Nat
  | [] => 0
  | d :: r => uptoBulk d + uptoBulkAll r
def uptoBulkEntries {H : Type} : List (Lit × DataW H) → Nat
  | [] => 0
  | x :: r => uptoBulkEntry x + uptoBulkEntries r
def uptoBulkEntry {H : Type} : Lit × DataW H → Nat
  | (.string bytes, d) => bytes.length + uptoBulk d + 1
  | (_, d) => uptoBulk d + 1
 end
def uptoSmall : (H : Type) → List (DataW H) → Bool := fun _ ds => decide (uptoBulkAll ds ≤ 1048576)
def OpenSpec.upto (s : _root_.Go.ChangeSpec) : _root_.Go.OpenSpec := { _root_.Go.OpenSpec.ofChange s with cond := some uptoSmall }

/-- 'laws.FnExactNotchesValid', WHERE WHAT IT READS IS OF BULK AT MOST 1048576: true; the input reads as it did. -/
def fnExactNotchesValidUptoRow : OpenClaim := { program := "ytfdabeikcpccgaa", sum := "58ee2351d705e2290324f08c51d8e71f2568ee4bb007a58003f2b208178b460b", func := "loop.example/countingboards/laws.FnExactNotchesValid", spec := "fnExactNotchesValid", inPlace := ["internal/bytealg.IndexByteString"], apart := false, narrowed := true }
def FnExactNotchesValidUptoSaid : Prop := fnExactNotchesValidUptoRow.holds Try.pinned (OpenSpec.upto fnExactNotchesValidSpec)

/-- 'laws.FnExactNotchesWorth', WHERE WHAT IT READS IS OF BULK AT MOST 1048576: true; the input reads as it did. -/
def fnExactNotchesWorthUptoRow : OpenClaim := { program := "ytfdabeikcpccgaa", sum := "58ee2351d705e2290324f08c51d8e71f2568ee4bb007a58003f2b208178b460b", func := "loop.example/countingboards/laws.FnExactNotchesWorth", spec := "fnExactNotchesWorth", inPlace := ["internal/bytealg.IndexByteString"], apart := false, narrowed := true }
def FnExactNotchesWorthUptoSaid : Prop := fnExactNotchesWorthUptoRow.holds Try.pinned (OpenSpec.upto fnExactNotchesWorthSpec)

/-- 'laws.FnExactTallyMatches', WHERE WHAT IT READS IS OF BULK AT MOST 1048576: true; the input reads as it did. -/
def fnExactTallyMatchesUptoRow : OpenClaim := { program := "ytfdabeikcpccgaa", sum := "58ee2351d705e2290324f08c51d8e71f2568ee4bb007a58003f2b208178b460b", func := "loop.example/countingboards/laws.FnExactTallyMatches", spec := "fnExactTallyMatches", inPlace := ["internal/bytealg.IndexByteString"], apart := false, narrowed := true }
def FnExactTallyMatchesUptoSaid : Prop := fnExactTallyMatchesUptoRow.holds Try.pinned (OpenSpec.upto fnExactTallyMatchesSpec)

/-- 'laws.FnExactTallyFraud', WHERE WHAT IT READS IS OF BULK AT MOST 1048576: true; the input reads as it did. -/
def fnExactTallyFraudUptoRow : OpenClaim := { program := "ytfdabeikcpccgaa", sum := "58ee2351d705e2290324f08c51d8e71f2568ee4bb007a58003f2b208178b460b", func := "loop.example/countingboards/laws.FnExactTallyFraud", spec := "fnExactTallyFraud", inPlace := ["internal/bytealg.IndexByteString"], apart := false, narrowed := true }
def FnExactTallyFraudUptoSaid : Prop := fnExactTallyFraudUptoRow.holds Try.pinned (OpenSpec.upto fnExactTallyFraudSpec)

/-- 'laws.FnExactTalliesValid', WHERE WHAT IT READS IS OF BULK AT MOST 1048576: true; the input reads as it did. -/
def fnExactTalliesValidUptoRow : OpenClaim := { program := "ytfdabeikcpccgaa", sum := "58ee2351d705e2290324f08c51d8e71f2568ee4bb007a58003f2b208178b460b", func := "loop.example/countingboards/laws.FnExactTalliesValid", spec := "fnExactTalliesValid", inPlace := ["internal/bytealg.IndexByteString"], apart := false, narrowed := true }
def FnExactTalliesValidUptoSaid : Prop := fnExactTalliesValidUptoRow.holds Try.pinned (OpenSpec.upto fnExactTalliesValidSpec)

/-- 'laws.FnExactNotchesOf', WHERE WHAT IT READS IS OF BULK AT MOST 1048576: true; the input reads as it did. -/
def fnExactNotchesOfUptoRow : OpenClaim := { program := "ytfdabeikcpccgaa", sum := "58ee2351d705e2290324f08c51d8e71f2568ee4bb007a58003f2b208178b460b", func := "loop.example/countingboards/laws.FnExactNotchesOf", spec := "fnExactNotchesOf", inPlace := ["internal/abi.NoEscape", "internal/bytealg.MakeNoZero"], apart := false, narrowed := true }
def FnExactNotchesOfUptoSaid : Prop := fnExactNotchesOfUptoRow.holds Try.pinned (OpenSpec.upto fnExactNotchesOfSpec)

/-- 'laws.FnExactTalliesTotal', WHERE WHAT IT READS IS OF BULK AT MOST 1048576: true; the input reads as it did. -/
def fnExactTalliesTotalUptoRow : OpenClaim := { program := "ytfdabeikcpccgaa", sum := "58ee2351d705e2290324f08c51d8e71f2568ee4bb007a58003f2b208178b460b", func := "loop.example/countingboards/laws.FnExactTalliesTotal", spec := "fnExactTalliesTotal", inPlace := ["internal/bytealg.IndexByteString"], apart := false, narrowed := true }
def FnExactTalliesTotalUptoSaid : Prop := fnExactTalliesTotalUptoRow.holds Try.pinned (OpenSpec.upto fnExactTalliesTotalSpec)

/-- 'laws.FnTallyFraud', WHERE WHAT IT READS IS OF BULK AT MOST 1048576: true; the input reads as it did. -/
def fnTallyFraudUptoRow : OpenClaim := { program := "ytfdabeikcpccgaa", sum := "58ee2351d705e2290324f08c51d8e71f2568ee4bb007a58003f2b208178b460b", func := "loop.example/countingboards/laws.FnTallyFraud", spec := "fnTallyFraud", inPlace := ["internal/bytealg.IndexByteString"], apart := false, narrowed := true }
def FnTallyFraudUptoSaid : Prop := fnTallyFraudUptoRow.holds Try.pinned (OpenSpec.upto fnTallyFraudSpec)

/-- 'laws.FnExactTallyNew', WHERE WHAT IT READS IS OF BULK AT MOST 1048576: true; the input reads as it did. -/
def fnExactTallyNewUptoRow : OpenClaim := { program := "ytfdabeikcpccgaa", sum := "58ee2351d705e2290324f08c51d8e71f2568ee4bb007a58003f2b208178b460b", func := "loop.example/countingboards/laws.FnExactTallyNew", spec := "fnExactTallyNew", inPlace := ["internal/abi.NoEscape", "internal/bytealg.MakeNoZero"], apart := false, narrowed := true }
def FnExactTallyNewUptoSaid : Prop := fnExactTallyNewUptoRow.holds Try.pinned (OpenSpec.upto fnExactTallyNewSpec)

/-- 'laws.FnExactTalliesPay', WHERE WHAT IT READS IS OF BULK AT MOST 1048576: true; the input reads as it did. -/
def fnExactTalliesPayUptoRow : OpenClaim := { program := "ytfdabeikcpccgaa", sum := "58ee2351d705e2290324f08c51d8e71f2568ee4bb007a58003f2b208178b460b", func := "loop.example/countingboards/laws.FnExactTalliesPay", spec := "fnExactTalliesPay", inPlace := ["internal/bytealg.IndexByteString"], apart := false, narrowed := true }
def FnExactTalliesPayUptoSaid : Prop := fnExactTalliesPayUptoRow.holds Try.pinned (OpenSpec.upto fnExactTalliesPaySpec)

/-- 'laws.FnNotches', WHERE WHAT IT READS IS OF BULK AT MOST 1048576: true; the input reads as it did. -/
def fnNotchesUptoRow : OpenClaim := { program := "ytfdabeikcpccgaa", sum := "58ee2351d705e2290324f08c51d8e71f2568ee4bb007a58003f2b208178b460b", func := "loop.example/countingboards/laws.FnNotches", spec := "fnNotches", inPlace := ["internal/abi.NoEscape", "internal/bytealg.MakeNoZero", "internal/bytealg.IndexByteString"], apart := false, narrowed := true }
def FnNotchesUptoSaid : Prop := fnNotchesUptoRow.holds Try.pinned (OpenSpec.upto fnNotchesSpec)

end Rows
end Go.Proofs.Ytfdabeikcpccgaa
