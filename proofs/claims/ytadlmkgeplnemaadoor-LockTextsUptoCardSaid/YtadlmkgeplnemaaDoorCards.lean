/-
  DERIVED. GIVEN WITH THE SEED: THE CARDS: each row of YtadlmkgeplnemaaDoorRows.lean that lists a variable, with what it lists TIED to the program's text (the seventh form; the later family's looks); each row that meets fmt, with fmt's text TOLD by the authors' own Lean function (tested against real Go, not proved from fmt's source: count such statements apart). THE CARD IS WHAT COUNTS. Prove the row's statement (the work); the ties are given (YtadlmkgeplnemaaDoorTie.lean); close each card by the builder's one call (the guide's Derived/Test/ToyasCard.lean, 'card_holds'). Laid BY PROGRAM, IN A SANDBOX (cutbox-door.mjs). By AI agents, Wed Nov 11 2026. No macro, syntax, notation, axiom, sorry.
-/
import Derived.Test.YtadlmkgeplnemaaDoorRows
import GoSem.ClaimSeven
namespace Go.Proofs.YtadlmkgeplnemaaDoor
namespace Rows

/-- THE TIED CARD OF 'roadlaw5.LockTexts'. -/
def lockTextsCard : Claim7 := { stood := { row := lockTextsRow, standIns := [], harness := (true, "6e82e26547b224e4f8c1afc0543d29478263aee8c0b2d3975b912858bbcb0b02"), looks := true }, kinds := [], alts := [], laidByText := true, laidKinds := [.data, .data, .data, .data, .sentinel, .sentinel, .pinned], laidTests := true, laidLooks := .later }
def LockTextsCardSaid : Prop := Claim7.holds Tryd.pinned (.plain (OpenSpec.ofChange lockTextsSpec)) lockTextsCard

/-- THE TIED CARD OF 'roadlaw5.VersionTexts'. -/
def versionTextsCard : Claim7 := { stood := { row := versionTextsRow, standIns := [], harness := (true, "6e82e26547b224e4f8c1afc0543d29478263aee8c0b2d3975b912858bbcb0b02"), looks := true }, kinds := [], alts := [], laidByText := true, laidKinds := [.data, .data, .data, .data, .sentinel, .sentinel, .pinned], laidTests := true, laidLooks := .later }
def VersionTextsCardSaid : Prop := Claim7.holds Tryd.pinned (.plain (OpenSpec.ofChange versionTextsSpec)) versionTextsCard

/-- THE TIED CARD OF 'roadlaw5.ReplayTexts'. -/
def replayTextsCard : Claim7 := { stood := { row := replayTextsRow, standIns := [], harness := (true, "6e82e26547b224e4f8c1afc0543d29478263aee8c0b2d3975b912858bbcb0b02"), looks := true }, kinds := [], alts := [], laidByText := true, laidKinds := [.data, .data, .data, .data, .sentinel, .sentinel, .pinned], laidTests := true, laidLooks := .later }
def ReplayTextsCardSaid : Prop := Claim7.holds Tryd.pinned (.plain (OpenSpec.ofChange replayTextsSpec)) replayTextsCard

/-- THE SECOND FORM's CARD OF 'roadlaw5.LockTexts'. -/
def lockTextsUptoCard : Claim7 := { stood := { row := lockTextsUptoRow, standIns := [], harness := (true, "6e82e26547b224e4f8c1afc0543d29478263aee8c0b2d3975b912858bbcb0b02"), looks := true }, kinds := [], alts := [], laidByText := true, laidKinds := [.data, .data, .data, .data, .sentinel, .sentinel, .pinned], laidTests := true, laidLooks := .later }
def LockTextsUptoCardSaid : Prop := Claim7.holds Tryd.pinned (.plain (OpenSpec.upto lockTextsSpec)) lockTextsUptoCard

/-- THE SECOND FORM's CARD OF 'roadlaw5.VersionTexts'. -/
def versionTextsUptoCard : Claim7 := { stood := { row := versionTextsUptoRow, standIns := [], harness := (true, "6e82e26547b224e4f8c1afc0543d29478263aee8c0b2d3975b912858bbcb0b02"), looks := true }, kinds := [], alts := [], laidByText := true, laidKinds := [.data, .data, .data, .data, .sentinel, .sentinel, .pinned], laidTests := true, laidLooks := .later }
def VersionTextsUptoCardSaid : Prop := Claim7.holds Tryd.pinned (.plain (OpenSpec.upto versionTextsSpec)) versionTextsUptoCard

/-- THE SECOND FORM's CARD OF 'roadlaw5.ReplayTexts'. -/
def replayTextsUptoCard : Claim7 := { stood := { row := replayTextsUptoRow, standIns := [], harness := (true, "6e82e26547b224e4f8c1afc0543d29478263aee8c0b2d3975b912858bbcb0b02"), looks := true }, kinds := [], alts := [], laidByText := true, laidKinds := [.data, .data, .data, .data, .sentinel, .sentinel, .pinned], laidTests := true, laidLooks := .later }
def ReplayTextsUptoCardSaid : Prop := Claim7.holds Tryd.pinned (.plain (OpenSpec.upto replayTextsSpec)) replayTextsUptoCard
end Rows
end Go.Proofs.YtadlmkgeplnemaaDoor
