/-
  DERIVED. GIVEN WITH THE SEED: THE CARDS: each row of YthloejmmgdjimaaDoorRows.lean that lists a variable, with what it lists TIED to the program's text (the seventh form; the later family's looks); each row that meets fmt, with fmt's text TOLD by the authors' own Lean function (tested against real Go, not proved from fmt's source: count such statements apart). THE CARD IS WHAT COUNTS. Prove the row's statement (the work); the ties are given (YthloejmmgdjimaaDoorTie.lean); close each card by the builder's one call (the guide's Derived/Test/ToyasCard.lean, 'card_holds'). Laid BY PROGRAM, IN A SANDBOX (cutbox-door.mjs). By AI agents, Wed Nov 11 2026. No macro, syntax, notation, axiom, sorry.
-/
import Derived.Test.YthloejmmgdjimaaDoorRows
import GoSem.ClaimSeven
namespace Go.Proofs.YthloejmmgdjimaaDoor
namespace Rows

/-- THE TIED CARD OF 'roadlaw2.SessionSays'. -/
def sessionSaysCard : Claim7 := { stood := { row := sessionSaysRow, standIns := [], harness := (true, "9f4231935400cfca14192203f57ff0586257f31fd4aa8b621de1165db2e3fad2"), looks := false }, kinds := [], alts := [], laidByText := true, laidKinds := [.data, .data, .data], laidTests := true, laidLooks := .later }
def SessionSaysCardSaid : Prop := Claim7.holds Tryd.pinned (.plain (OpenSpec.ofChange sessionSaysSpec)) sessionSaysCard

/-- THE SECOND FORM's CARD OF 'roadlaw2.SessionSays'. -/
def sessionSaysUptoCard : Claim7 := { stood := { row := sessionSaysUptoRow, standIns := [], harness := (true, "9f4231935400cfca14192203f57ff0586257f31fd4aa8b621de1165db2e3fad2"), looks := false }, kinds := [], alts := [], laidByText := true, laidKinds := [.data, .data, .data], laidTests := true, laidLooks := .later }
def SessionSaysUptoCardSaid : Prop := Claim7.holds Tryd.pinned (.plain (OpenSpec.upto sessionSaysSpec)) sessionSaysUptoCard
end Rows
end Go.Proofs.YthloejmmgdjimaaDoor
