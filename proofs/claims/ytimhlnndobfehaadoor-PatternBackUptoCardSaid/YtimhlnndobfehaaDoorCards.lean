/-
  DERIVED. GIVEN WITH THE SEED: THE CARDS: each row of YtimhlnndobfehaaDoorRows.lean that lists a variable, with what it lists TIED to the program's text (the seventh form; the later family's looks); each row that meets fmt, with fmt's text TOLD by the authors' own Lean function (tested against real Go, not proved from fmt's source: count such statements apart). THE CARD IS WHAT COUNTS. Prove the row's statement (the work); the ties are given (YtimhlnndobfehaaDoorTie.lean); close each card by the builder's one call (the guide's Derived/Test/ToyasCard.lean, 'card_holds'). Laid BY PROGRAM, IN A SANDBOX (cutbox-door.mjs). By AI agents, Wed Nov 11 2026. No macro, syntax, notation, axiom, sorry.
-/
import Derived.Test.YtimhlnndobfehaaDoorRows
import GoSem.ClaimSeven
namespace Go.Proofs.YtimhlnndobfehaaDoor
namespace Rows

/-- THE TIED CARD OF 'cognatelaw04.PatternBack'. -/
def patternBackCard : Claim7 := { stood := { row := patternBackRow, standIns := [], harness := (true, "33fe479383d32ee25bb03a260cdb961991a27cbc09ea83467f514891a9af7dfb"), looks := true }, kinds := [], alts := [], laidByText := true, laidKinds := [.data, .pinned], laidTests := true, laidLooks := .later }
def PatternBackCardSaid : Prop := Claim7.holds Tryd.pinned (.plain (OpenSpec.ofChange patternBackSpec)) patternBackCard

/-- THE TIED CARD OF 'cognatelaw04.PatternNames'. -/
def patternNamesCard : Claim7 := { stood := { row := patternNamesRow, standIns := [], harness := (true, "33fe479383d32ee25bb03a260cdb961991a27cbc09ea83467f514891a9af7dfb"), looks := true }, kinds := [], alts := [], laidByText := true, laidKinds := [.data, .pinned], laidTests := true, laidLooks := .later }
def PatternNamesCardSaid : Prop := Claim7.holds Tryd.pinned (.plain (OpenSpec.ofChange patternNamesSpec)) patternNamesCard

/-- THE TIED CARD OF 'cognatelaw04.PatternTurns'. -/
def patternTurnsCard : Claim7 := { stood := { row := patternTurnsRow, standIns := [], harness := (true, "33fe479383d32ee25bb03a260cdb961991a27cbc09ea83467f514891a9af7dfb"), looks := true }, kinds := [], alts := [], laidByText := true, laidKinds := [.data, .pinned], laidTests := true, laidLooks := .later }
def PatternTurnsCardSaid : Prop := Claim7.holds Tryd.pinned (.plain (OpenSpec.ofChange patternTurnsSpec)) patternTurnsCard

/-- THE TIED CARD OF 'cognatelaw05.MatchNames'. -/
def matchNamesCard : Claim7 := { stood := { row := matchNamesRow, standIns := [], harness := (true, "33fe479383d32ee25bb03a260cdb961991a27cbc09ea83467f514891a9af7dfb"), looks := true }, kinds := [], alts := [], laidByText := true, laidKinds := [.data, .pinned], laidTests := true, laidLooks := .later }
def MatchNamesCardSaid : Prop := Claim7.holds Tryd.pinned (.plain (OpenSpec.ofChange matchNamesSpec)) matchNamesCard

/-- THE TIED CARD OF 'cognatelaw05.MatchBoth'. -/
def matchBothCard : Claim7 := { stood := { row := matchBothRow, standIns := [], harness := (true, "33fe479383d32ee25bb03a260cdb961991a27cbc09ea83467f514891a9af7dfb"), looks := true }, kinds := [], alts := [], laidByText := true, laidKinds := [.data, .pinned], laidTests := true, laidLooks := .later }
def MatchBothCardSaid : Prop := Claim7.holds Tryd.pinned (.plain (OpenSpec.ofChange matchBothSpec)) matchBothCard

/-- THE TIED CARD OF 'cognatelaw05.MatchAll'. -/
def matchAllCard : Claim7 := { stood := { row := matchAllRow, standIns := [], harness := (true, "33fe479383d32ee25bb03a260cdb961991a27cbc09ea83467f514891a9af7dfb"), looks := true }, kinds := [], alts := [], laidByText := true, laidKinds := [.data, .pinned], laidTests := true, laidLooks := .later }
def MatchAllCardSaid : Prop := Claim7.holds Tryd.pinned (.plain (OpenSpec.ofChange matchAllSpec)) matchAllCard

/-- THE TIED CARD OF 'cognatelaw05.MatchAround'. -/
def matchAroundCard : Claim7 := { stood := { row := matchAroundRow, standIns := [], harness := (true, "33fe479383d32ee25bb03a260cdb961991a27cbc09ea83467f514891a9af7dfb"), looks := true }, kinds := [], alts := [], laidByText := true, laidKinds := [.data, .pinned], laidTests := true, laidLooks := .later }
def MatchAroundCardSaid : Prop := Claim7.holds Tryd.pinned (.plain (OpenSpec.ofChange matchAroundSpec)) matchAroundCard

/-- THE SECOND FORM's CARD OF 'cognatelaw04.PatternBack'. -/
def patternBackUptoCard : Claim7 := { stood := { row := patternBackUptoRow, standIns := [], harness := (true, "33fe479383d32ee25bb03a260cdb961991a27cbc09ea83467f514891a9af7dfb"), looks := true }, kinds := [], alts := [], laidByText := true, laidKinds := [.data, .pinned], laidTests := true, laidLooks := .later }
def PatternBackUptoCardSaid : Prop := Claim7.holds Tryd.pinned (.plain (OpenSpec.upto patternBackSpec)) patternBackUptoCard

/-- THE SECOND FORM's CARD OF 'cognatelaw04.PatternNames'. -/
def patternNamesUptoCard : Claim7 := { stood := { row := patternNamesUptoRow, standIns := [], harness := (true, "33fe479383d32ee25bb03a260cdb961991a27cbc09ea83467f514891a9af7dfb"), looks := true }, kinds := [], alts := [], laidByText := true, laidKinds := [.data, .pinned], laidTests := true, laidLooks := .later }
def PatternNamesUptoCardSaid : Prop := Claim7.holds Tryd.pinned (.plain (OpenSpec.upto patternNamesSpec)) patternNamesUptoCard

/-- THE SECOND FORM's CARD OF 'cognatelaw04.PatternTurns'. -/
def patternTurnsUptoCard : Claim7 := { stood := { row := patternTurnsUptoRow, standIns := [], harness := (true, "33fe479383d32ee25bb03a260cdb961991a27cbc09ea83467f514891a9af7dfb"), looks := true }, kinds := [], alts := [], laidByText := true, laidKinds := [.data, .pinned], laidTests := true, laidLooks := .later }
def PatternTurnsUptoCardSaid : Prop := Claim7.holds Tryd.pinned (.plain (OpenSpec.upto patternTurnsSpec)) patternTurnsUptoCard

/-- THE SECOND FORM's CARD OF 'cognatelaw05.MatchNames'. -/
def matchNamesUptoCard : Claim7 := { stood := { row := matchNamesUptoRow, standIns := [], harness := (true, "33fe479383d32ee25bb03a260cdb961991a27cbc09ea83467f514891a9af7dfb"), looks := true }, kinds := [], alts := [], laidByText := true, laidKinds := [.data, .pinned], laidTests := true, laidLooks := .later }
def MatchNamesUptoCardSaid : Prop := Claim7.holds Tryd.pinned (.plain (OpenSpec.upto matchNamesSpec)) matchNamesUptoCard

/-- THE SECOND FORM's CARD OF 'cognatelaw05.MatchBoth'. -/
def matchBothUptoCard : Claim7 := { stood := { row := matchBothUptoRow, standIns := [], harness := (true, "33fe479383d32ee25bb03a260cdb961991a27cbc09ea83467f514891a9af7dfb"), looks := true }, kinds := [], alts := [], laidByText := true, laidKinds := [.data, .pinned], laidTests := true, laidLooks := .later }
def MatchBothUptoCardSaid : Prop := Claim7.holds Tryd.pinned (.plain (OpenSpec.upto matchBothSpec)) matchBothUptoCard

/-- THE SECOND FORM's CARD OF 'cognatelaw05.MatchAll'. -/
def matchAllUptoCard : Claim7 := { stood := { row := matchAllUptoRow, standIns := [], harness := (true, "33fe479383d32ee25bb03a260cdb961991a27cbc09ea83467f514891a9af7dfb"), looks := true }, kinds := [], alts := [], laidByText := true, laidKinds := [.data, .pinned], laidTests := true, laidLooks := .later }
def MatchAllUptoCardSaid : Prop := Claim7.holds Tryd.pinned (.plain (OpenSpec.upto matchAllSpec)) matchAllUptoCard

/-- THE SECOND FORM's CARD OF 'cognatelaw05.MatchAround'. -/
def matchAroundUptoCard : Claim7 := { stood := { row := matchAroundUptoRow, standIns := [], harness := (true, "33fe479383d32ee25bb03a260cdb961991a27cbc09ea83467f514891a9af7dfb"), looks := true }, kinds := [], alts := [], laidByText := true, laidKinds := [.data, .pinned], laidTests := true, laidLooks := .later }
def MatchAroundUptoCardSaid : Prop := Claim7.holds Tryd.pinned (.plain (OpenSpec.upto matchAroundSpec)) matchAroundUptoCard
end Rows
end Go.Proofs.YtimhlnndobfehaaDoor
