/-
  DERIVED. GIVEN WITH THE SEED: THE CARDS: each row of YtnmfppjjhbkfmaaDoorRows.lean that lists a variable, with what it lists TIED to the program's text (the seventh form; the later family's looks); each row that meets fmt, with fmt's text TOLD by the authors' own Lean function (tested against real Go, not proved from fmt's source: count such statements apart). THE CARD IS WHAT COUNTS. Prove the row's statement (the work); the ties are given (YtnmfppjjhbkfmaaDoorTie.lean); close each card by the builder's one call (the guide's Derived/Test/ToyasCard.lean, 'card_holds'). Laid BY PROGRAM, IN A SANDBOX (cutbox-door.mjs). By AI agents, Wed Nov 11 2026. No macro, syntax, notation, axiom, sorry.
-/
import Derived.Test.YtnmfppjjhbkfmaaDoorRows
import GoSem.ClaimSeven
namespace Go.Proofs.YtnmfppjjhbkfmaaDoor
namespace Rows

/-- THE TIED CARD OF 'laws.FnUnitsText'. -/
def fnUnitsTextCard : Claim7 := { stood := { row := fnUnitsTextRow, standIns := [], harness := (true, "31716f0567f56a79c88d900291bebd3429b7992293564a648200ece226cb6653"), looks := false }, kinds := [], alts := [], laidByText := true, laidKinds := [.data, .data, .data], laidTests := true, laidLooks := .later }
def FnUnitsTextCardSaid : Prop := Claim7.holds Tryd.pinned (.plain (OpenSpec.ofChange fnUnitsTextSpec)) fnUnitsTextCard

/-- THE TIED CARD OF 'laws.FnBoardText'. -/
def fnBoardTextCard : Claim7 := { stood := { row := fnBoardTextRow, standIns := [], harness := (true, "31716f0567f56a79c88d900291bebd3429b7992293564a648200ece226cb6653"), looks := false }, kinds := [], alts := [], laidByText := true, laidKinds := [.data, .data, .data], laidTests := true, laidLooks := .later }
def FnBoardTextCardSaid : Prop := Claim7.holds Tryd.pinned (.plain (OpenSpec.ofChange fnBoardTextSpec)) fnBoardTextCard

/-- THE SECOND FORM's CARD OF 'laws.FnUnitsText'. -/
def fnUnitsTextUptoCard : Claim7 := { stood := { row := fnUnitsTextUptoRow, standIns := [], harness := (true, "31716f0567f56a79c88d900291bebd3429b7992293564a648200ece226cb6653"), looks := false }, kinds := [], alts := [], laidByText := true, laidKinds := [.data, .data, .data], laidTests := true, laidLooks := .later }
def FnUnitsTextUptoCardSaid : Prop := Claim7.holds Tryd.pinned (.plain (OpenSpec.upto fnUnitsTextSpec)) fnUnitsTextUptoCard

/-- THE SECOND FORM's CARD OF 'laws.FnBoardText'. -/
def fnBoardTextUptoCard : Claim7 := { stood := { row := fnBoardTextUptoRow, standIns := [], harness := (true, "31716f0567f56a79c88d900291bebd3429b7992293564a648200ece226cb6653"), looks := false }, kinds := [], alts := [], laidByText := true, laidKinds := [.data, .data, .data], laidTests := true, laidLooks := .later }
def FnBoardTextUptoCardSaid : Prop := Claim7.holds Tryd.pinned (.plain (OpenSpec.upto fnBoardTextSpec)) fnBoardTextUptoCard
end Rows
end Go.Proofs.YtnmfppjjhbkfmaaDoor
