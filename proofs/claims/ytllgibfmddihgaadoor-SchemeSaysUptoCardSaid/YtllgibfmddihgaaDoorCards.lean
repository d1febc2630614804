/-
  DERIVED. GIVEN WITH THE SEED: THE CARDS: each row of YtllgibfmddihgaaDoorRows.lean that lists a variable, with what it lists TIED to the program's text (the seventh form; the later family's looks); each row that meets fmt, with fmt's text TOLD by the authors' own Lean function (tested against real Go, not proved from fmt's source: count such statements apart). THE CARD IS WHAT COUNTS. Prove the row's statement (the work); the ties are given (YtllgibfmddihgaaDoorTie.lean); close each card by the builder's one call (the guide's Derived/Test/ToyasCard.lean, 'card_holds'). Laid BY PROGRAM, IN A SANDBOX (cutbox-door.mjs). By AI agents, Wed Nov 11 2026. No macro, syntax, notation, axiom, sorry.
-/
import Derived.Test.YtllgibfmddihgaaDoorRows
import GoSem.ClaimSeven
namespace Go.Proofs.YtllgibfmddihgaaDoor
namespace Rows

/-- THE TIED CARD OF 'roadlaw2.TreeSame'. -/
def treeSameCard : Claim7 := { stood := { row := treeSameRow, standIns := [], harness := (true, "9af72b4ab942cde0efa070d2487bbaaea428b36cd637004729dd98747c4913d7"), looks := false }, kinds := [], alts := [], laidByText := true, laidKinds := [.data, .data, .data], laidTests := true, laidLooks := .later }
def TreeSameCardSaid : Prop := Claim7.holds Tryd.pinned (.plain (OpenSpec.ofChange treeSameSpec)) treeSameCard

/-- THE TIED CARD OF 'roadlaw2.ExcerptSays'. -/
def excerptSaysCard : Claim7 := { stood := { row := excerptSaysRow, standIns := [], harness := (true, "9af72b4ab942cde0efa070d2487bbaaea428b36cd637004729dd98747c4913d7"), looks := false }, kinds := [], alts := [], laidByText := true, laidKinds := [.data, .data, .data], laidTests := true, laidLooks := .later }
def ExcerptSaysCardSaid : Prop := Claim7.holds Tryd.pinned (.plain (OpenSpec.ofChange excerptSaysSpec)) excerptSaysCard

/-- THE TIED CARD OF 'roadlaw2.KindSays'. -/
def kindSaysCard : Claim7 := { stood := { row := kindSaysRow, standIns := [], harness := (true, "9af72b4ab942cde0efa070d2487bbaaea428b36cd637004729dd98747c4913d7"), looks := false }, kinds := [], alts := [], laidByText := true, laidKinds := [.data, .data, .data], laidTests := true, laidLooks := .later }
def KindSaysCardSaid : Prop := Claim7.holds Tryd.pinned (.plain (OpenSpec.ofChange kindSaysSpec)) kindSaysCard

/-- THE TIED CARD OF 'roadlaw2.SchemeSays'. -/
def schemeSaysCard : Claim7 := { stood := { row := schemeSaysRow, standIns := [], harness := (true, "9af72b4ab942cde0efa070d2487bbaaea428b36cd637004729dd98747c4913d7"), looks := false }, kinds := [], alts := [], laidByText := true, laidKinds := [.data, .data, .data], laidTests := true, laidLooks := .later }
def SchemeSaysCardSaid : Prop := Claim7.holds Tryd.pinned (.plain (OpenSpec.ofChange schemeSaysSpec)) schemeSaysCard

/-- THE TIED CARD OF 'roadlaw2.TreeTells'. -/
def treeTellsCard : Claim7 := { stood := { row := treeTellsRow, standIns := [], harness := (true, "9af72b4ab942cde0efa070d2487bbaaea428b36cd637004729dd98747c4913d7"), looks := false }, kinds := [], alts := [], laidByText := true, laidKinds := [.data, .data, .data], laidTests := true, laidLooks := .later }
def TreeTellsCardSaid : Prop := Claim7.holds Tryd.pinned (.plain (OpenSpec.ofChange treeTellsSpec)) treeTellsCard

/-- THE TIED CARD OF 'roadlaw2.SessionSays'. -/
def sessionSaysCard : Claim7 := { stood := { row := sessionSaysRow, standIns := [], harness := (true, "9af72b4ab942cde0efa070d2487bbaaea428b36cd637004729dd98747c4913d7"), looks := false }, kinds := [], alts := [], laidByText := true, laidKinds := [.data, .data, .data], laidTests := true, laidLooks := .later }
def SessionSaysCardSaid : Prop := Claim7.holds Tryd.pinned (.plain (OpenSpec.ofChange sessionSaysSpec)) sessionSaysCard

/-- THE SECOND FORM's CARD OF 'roadlaw2.TreeSame'. -/
def treeSameUptoCard : Claim7 := { stood := { row := treeSameUptoRow, standIns := [], harness := (true, "9af72b4ab942cde0efa070d2487bbaaea428b36cd637004729dd98747c4913d7"), looks := false }, kinds := [], alts := [], laidByText := true, laidKinds := [.data, .data, .data], laidTests := true, laidLooks := .later }
def TreeSameUptoCardSaid : Prop := Claim7.holds Tryd.pinned (.plain (OpenSpec.upto treeSameSpec)) treeSameUptoCard

/-- THE SECOND FORM's CARD OF 'roadlaw2.ExcerptSays'. -/
def excerptSaysUptoCard : Claim7 := { stood := { row := excerptSaysUptoRow, standIns := [], harness := (true, "9af72b4ab942cde0efa070d2487bbaaea428b36cd637004729dd98747c4913d7"), looks := false }, kinds := [], alts := [], laidByText := true, laidKinds := [.data, .data, .data], laidTests := true, laidLooks := .later }
def ExcerptSaysUptoCardSaid : Prop := Claim7.holds Tryd.pinned (.plain (OpenSpec.upto excerptSaysSpec)) excerptSaysUptoCard

/-- THE SECOND FORM's CARD OF 'roadlaw2.KindSays'. -/
def kindSaysUptoCard : Claim7 := { stood := { row := kindSaysUptoRow, standIns := [], harness := (true, "9af72b4ab942cde0efa070d2487bbaaea428b36cd637004729dd98747c4913d7"), looks := false }, kinds := [], alts := [], laidByText := true, laidKinds := [.data, .data, .data], laidTests := true, laidLooks := .later }
def KindSaysUptoCardSaid : Prop := Claim7.holds Tryd.pinned (.plain (OpenSpec.upto kindSaysSpec)) kindSaysUptoCard

/-- THE SECOND FORM's CARD OF 'roadlaw2.SchemeSays'. -/
def schemeSaysUptoCard : Claim7 := { stood := { row := schemeSaysUptoRow, standIns := [], harness := (true, "9af72b4ab942cde0efa070d2487bbaaea428b36cd637004729dd98747c4913d7"), looks := false }, kinds := [], alts := [], laidByText := true, laidKinds := [.data, .data, .data], laidTests := true, laidLooks := .later }
def SchemeSaysUptoCardSaid : Prop := Claim7.holds Tryd.pinned (.plain (OpenSpec.upto schemeSaysSpec)) schemeSaysUptoCard

/-- THE SECOND FORM's CARD OF 'roadlaw2.TreeTells'. -/
def treeTellsUptoCard : Claim7 := { stood := { row := treeTellsUptoRow, standIns := [], harness := (true, "9af72b4ab942cde0efa070d2487bbaaea428b36cd637004729dd98747c4913d7"), looks := false }, kinds := [], alts := [], laidByText := true, laidKinds := [.data, .data, .data], laidTests := true, laidLooks := .later }
def TreeTellsUptoCardSaid : Prop := Claim7.holds Tryd.pinned (.plain (OpenSpec.upto treeTellsSpec)) treeTellsUptoCard

/-- THE SECOND FORM's CARD OF 'roadlaw2.SessionSays'. -/
def sessionSaysUptoCard : Claim7 := { stood := { row := sessionSaysUptoRow, standIns := [], harness := (true, "9af72b4ab942cde0efa070d2487bbaaea428b36cd637004729dd98747c4913d7"), looks := false }, kinds := [], alts := [], laidByText := true, laidKinds := [.data, .data, .data], laidTests := true, laidLooks := .later }
def SessionSaysUptoCardSaid : Prop := Claim7.holds Tryd.pinned (.plain (OpenSpec.upto sessionSaysSpec)) sessionSaysUptoCard
end Rows
end Go.Proofs.YtllgibfmddihgaaDoor
