/-
  DERIVED. GIVEN WITH THE SEED: THE CARDS: each row of YtfdbhaojdccomaaDoorRows.lean that lists a variable, with what it lists TIED to the program's text (the seventh form; the later family's looks); each row that meets fmt, with fmt's text TOLD by the authors' own Lean function (tested against real Go, not proved from fmt's source: count such statements apart). THE CARD IS WHAT COUNTS. Prove the row's statement (the work); the ties are given (YtfdbhaojdccomaaDoorTie.lean); close each card by the builder's one call (the guide's Derived/Test/ToyasCard.lean, 'card_holds'). Laid BY PROGRAM, IN A SANDBOX (cutbox-door.mjs). By AI agents, Wed Nov 11 2026. No macro, syntax, notation, axiom, sorry.
-/
import Derived.Test.YtfdbhaojdccomaaDoorRows
import GoSem.ClaimSeven
namespace Go.Proofs.YtfdbhaojdccomaaDoor
namespace Rows

/-- THE TIED CARD OF 'laws.FnExactFrameText'. -/
def fnExactFrameTextCard : Claim7 := { stood := { row := fnExactFrameTextRow, standIns := [], harness := (true, "f36b6f2d1d0f9051407cfe688a354fb596cd1cc2b11c467f808d5a033451decc"), looks := false }, kinds := [], alts := [], laidByText := true, laidKinds := [.data, .data, .data], laidTests := true, laidLooks := .later }
def FnExactFrameTextCardSaid : Prop := Claim7.holds Tryd.pinned (.plain (OpenSpec.ofChange fnExactFrameTextSpec)) fnExactFrameTextCard

/-- THE TIED CARD OF 'laws.FnFrameOf'. -/
def fnFrameOfCard : Claim7 := { stood := { row := fnFrameOfRow, standIns := [], harness := (true, "f36b6f2d1d0f9051407cfe688a354fb596cd1cc2b11c467f808d5a033451decc"), looks := false }, kinds := [], alts := [], laidByText := true, laidKinds := [.data, .data, .data], laidTests := true, laidLooks := .later }
def FnFrameOfCardSaid : Prop := Claim7.holds Tryd.pinned (.plain (OpenSpec.ofChange fnFrameOfSpec)) fnFrameOfCard

/-- THE SECOND FORM's CARD OF 'laws.FnExactFrameText'. -/
def fnExactFrameTextUptoCard : Claim7 := { stood := { row := fnExactFrameTextUptoRow, standIns := [], harness := (true, "f36b6f2d1d0f9051407cfe688a354fb596cd1cc2b11c467f808d5a033451decc"), looks := false }, kinds := [], alts := [], laidByText := true, laidKinds := [.data, .data, .data], laidTests := true, laidLooks := .later }
def FnExactFrameTextUptoCardSaid : Prop := Claim7.holds Tryd.pinned (.plain (OpenSpec.upto fnExactFrameTextSpec)) fnExactFrameTextUptoCard

/-- THE SECOND FORM's CARD OF 'laws.FnFrameOf'. -/
def fnFrameOfUptoCard : Claim7 := { stood := { row := fnFrameOfUptoRow, standIns := [], harness := (true, "f36b6f2d1d0f9051407cfe688a354fb596cd1cc2b11c467f808d5a033451decc"), looks := false }, kinds := [], alts := [], laidByText := true, laidKinds := [.data, .data, .data], laidTests := true, laidLooks := .later }
def FnFrameOfUptoCardSaid : Prop := Claim7.holds Tryd.pinned (.plain (OpenSpec.upto fnFrameOfSpec)) fnFrameOfUptoCard
end Rows
end Go.Proofs.YtfdbhaojdccomaaDoor
