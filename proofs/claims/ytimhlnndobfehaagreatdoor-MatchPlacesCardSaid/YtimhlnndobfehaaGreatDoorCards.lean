/-
  DERIVED. GIVEN WITH THE SEED: THE CARDS: each row of YtimhlnndobfehaaGreatDoorRows.lean that lists a variable, with what it lists TIED to the program's text (the seventh form; the later family's looks); each row that meets fmt, with fmt's text TOLD by the authors' own Lean function (tested against real Go, not proved from fmt's source: count such statements apart). THE CARD IS WHAT COUNTS. Prove the row's statement (the work); the ties are given (YtimhlnndobfehaaGreatDoorTie.lean); close each card by the builder's one call (the guide's Derived/Test/ToyasCard.lean, 'card_holds'). Laid BY PROGRAM, IN A SANDBOX (cutbox-door.mjs). By AI agents, Wed Nov 11 2026. No macro, syntax, notation, axiom, sorry.
-/
import Derived.Test.YtimhlnndobfehaaGreatDoorRows
import GoSem.ClaimSeven
namespace Go.Proofs.YtimhlnndobfehaaGreatDoor
namespace Rows

/-- THE TIED CARD OF 'cognatelaw04.PatternTexts'. -/
def patternTextsCard : Claim7 := { stood := { row := patternTextsRow, standIns := [], harness := (true, "37152fbf585559385b6c494b09ee2af6273b54883ec6adf4c7f3f0da88b73cc1"), looks := true }, kinds := [], alts := [], laidByText := true, laidKinds := [.data, .pinned], laidTests := true, laidLooks := .later }
def PatternTextsCardSaid : Prop := Claim7.holds Tryz.pinned (.plain (OpenSpec.ofChange patternTextsSpec)) patternTextsCard

/-- THE TIED CARD OF 'cognatelaw05.MatchPlaces'. -/
def matchPlacesCard : Claim7 := { stood := { row := matchPlacesRow, standIns := [], harness := (true, "37152fbf585559385b6c494b09ee2af6273b54883ec6adf4c7f3f0da88b73cc1"), looks := true }, kinds := [], alts := [], laidByText := true, laidKinds := [.data, .pinned], laidTests := true, laidLooks := .later }
def MatchPlacesCardSaid : Prop := Claim7.holds Tryz.pinned (.plain (OpenSpec.ofChange matchPlacesSpec)) matchPlacesCard

/-- THE TIED CARD OF 'cognatelaw05.MatchSpans'. -/
def matchSpansCard : Claim7 := { stood := { row := matchSpansRow, standIns := [], harness := (true, "37152fbf585559385b6c494b09ee2af6273b54883ec6adf4c7f3f0da88b73cc1"), looks := true }, kinds := [], alts := [], laidByText := true, laidKinds := [.data, .pinned], laidTests := true, laidLooks := .later }
def MatchSpansCardSaid : Prop := Claim7.holds Tryz.pinned (.plain (OpenSpec.ofChange matchSpansSpec)) matchSpansCard

/-- THE TIED CARD OF 'cognatelaw05.MatchBetween'. -/
def matchBetweenCard : Claim7 := { stood := { row := matchBetweenRow, standIns := [], harness := (true, "37152fbf585559385b6c494b09ee2af6273b54883ec6adf4c7f3f0da88b73cc1"), looks := true }, kinds := [], alts := [], laidByText := true, laidKinds := [.data, .pinned], laidTests := true, laidLooks := .later }
def MatchBetweenCardSaid : Prop := Claim7.holds Tryz.pinned (.plain (OpenSpec.ofChange matchBetweenSpec)) matchBetweenCard

/-- THE TIED CARD OF 'cognatelaw05.MatchTurned'. -/
def matchTurnedCard : Claim7 := { stood := { row := matchTurnedRow, standIns := [], harness := (true, "37152fbf585559385b6c494b09ee2af6273b54883ec6adf4c7f3f0da88b73cc1"), looks := true }, kinds := [], alts := [], laidByText := true, laidKinds := [.data, .pinned], laidTests := true, laidLooks := .later }
def MatchTurnedCardSaid : Prop := Claim7.holds Tryz.pinned (.plain (OpenSpec.ofChange matchTurnedSpec)) matchTurnedCard

/-- THE SECOND FORM's CARD OF 'cognatelaw04.PatternTexts'. -/
def patternTextsUptoCard : Claim7 := { stood := { row := patternTextsUptoRow, standIns := [], harness := (true, "37152fbf585559385b6c494b09ee2af6273b54883ec6adf4c7f3f0da88b73cc1"), looks := true }, kinds := [], alts := [], laidByText := true, laidKinds := [.data, .pinned], laidTests := true, laidLooks := .later }
def PatternTextsUptoCardSaid : Prop := Claim7.holds Tryz.pinned (.plain (OpenSpec.upto patternTextsSpec)) patternTextsUptoCard

/-- THE SECOND FORM's CARD OF 'cognatelaw05.MatchPlaces'. -/
def matchPlacesUptoCard : Claim7 := { stood := { row := matchPlacesUptoRow, standIns := [], harness := (true, "37152fbf585559385b6c494b09ee2af6273b54883ec6adf4c7f3f0da88b73cc1"), looks := true }, kinds := [], alts := [], laidByText := true, laidKinds := [.data, .pinned], laidTests := true, laidLooks := .later }
def MatchPlacesUptoCardSaid : Prop := Claim7.holds Tryz.pinned (.plain (OpenSpec.upto matchPlacesSpec)) matchPlacesUptoCard

/-- THE SECOND FORM's CARD OF 'cognatelaw05.MatchSpans'. -/
def matchSpansUptoCard : Claim7 := { stood := { row := matchSpansUptoRow, standIns := [], harness := (true, "37152fbf585559385b6c494b09ee2af6273b54883ec6adf4c7f3f0da88b73cc1"), looks := true }, kinds := [], alts := [], laidByText := true, laidKinds := [.data, .pinned], laidTests := true, laidLooks := .later }
def MatchSpansUptoCardSaid : Prop := Claim7.holds Tryz.pinned (.plain (OpenSpec.upto matchSpansSpec)) matchSpansUptoCard

/-- THE SECOND FORM's CARD OF 'cognatelaw05.MatchBetween'. -/
def matchBetweenUptoCard : Claim7 := { stood := { row := matchBetweenUptoRow, standIns := [], harness := (true, "37152fbf585559385b6c494b09ee2af6273b54883ec6adf4c7f3f0da88b73cc1"), looks := true }, kinds := [], alts := [], laidByText := true, laidKinds := [.data, .pinned], laidTests := true, laidLooks := .later }
def MatchBetweenUptoCardSaid : Prop := Claim7.holds Tryz.pinned (.plain (OpenSpec.upto matchBetweenSpec)) matchBetweenUptoCard

/-- THE SECOND FORM's CARD OF 'cognatelaw05.MatchTurned'. -/
def matchTurnedUptoCard : Claim7 := { stood := { row := matchTurnedUptoRow, standIns := [], harness := (true, "37152fbf585559385b6c494b09ee2af6273b54883ec6adf4c7f3f0da88b73cc1"), looks := true }, kinds := [], alts := [], laidByText := true, laidKinds := [.data, .pinned], laidTests := true, laidLooks := .later }
def MatchTurnedUptoCardSaid : Prop := Claim7.holds Tryz.pinned (.plain (OpenSpec.upto matchTurnedSpec)) matchTurnedUptoCard
end Rows
end Go.Proofs.YtimhlnndobfehaaGreatDoor
