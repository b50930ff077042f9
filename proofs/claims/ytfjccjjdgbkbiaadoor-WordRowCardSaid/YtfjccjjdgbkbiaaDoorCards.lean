/-
  DERIVED. GIVEN WITH THE SEED: THE CARDS: each row of YtfjccjjdgbkbiaaDoorRows.lean that lists a variable, with what it lists TIED to the program's text (the seventh form; the later family's looks); each row that meets fmt, with fmt's text TOLD by the authors' own Lean function (tested against real Go, not proved from fmt's source: count such statements apart). THE CARD IS WHAT COUNTS. Prove the row's statement (the work); the ties are given (YtfjccjjdgbkbiaaDoorTie.lean); close each card by the builder's one call (the guide's Derived/Test/ToyasCard.lean, 'card_holds'). Laid BY PROGRAM, IN A SANDBOX (cutbox-door.mjs). By AI agents, Wed Nov 11 2026. No macro, syntax, notation, axiom, sorry.
-/
import Derived.Test.YtfjccjjdgbkbiaaDoorRows
import GoSem.ClaimSeven
namespace Go.Proofs.YtfjccjjdgbkbiaaDoor
namespace Rows

/-- THE TIED CARD OF 'cognatelaw03.WordLetters'. -/
def wordLettersCard : Claim7 := { stood := { row := wordLettersRow, standIns := [], harness := (true, "0ebe1efb270c8a9a3cefb7818cf6623f00682f21eb21463bc36d8b3953404008"), looks := false }, kinds := [], alts := [], laidByText := true, laidKinds := [.data, .pinned], laidTests := true, laidLooks := .later }
def WordLettersCardSaid : Prop := Claim7.holds Tryd.pinned (.plain (OpenSpec.ofChange wordLettersSpec)) wordLettersCard

/-- THE TIED CARD OF 'cognatelaw03.WordPeaks'. -/
def wordPeaksCard : Claim7 := { stood := { row := wordPeaksRow, standIns := [], harness := (true, "0ebe1efb270c8a9a3cefb7818cf6623f00682f21eb21463bc36d8b3953404008"), looks := false }, kinds := [], alts := [], laidByText := true, laidKinds := [.data, .pinned], laidTests := true, laidLooks := .later }
def WordPeaksCardSaid : Prop := Claim7.holds Tryd.pinned (.plain (OpenSpec.ofChange wordPeaksSpec)) wordPeaksCard

/-- THE TIED CARD OF 'cognatelaw03.WordParts'. -/
def wordPartsCard : Claim7 := { stood := { row := wordPartsRow, standIns := [], harness := (true, "0ebe1efb270c8a9a3cefb7818cf6623f00682f21eb21463bc36d8b3953404008"), looks := false }, kinds := [], alts := [], laidByText := true, laidKinds := [.data, .pinned], laidTests := true, laidLooks := .later }
def WordPartsCardSaid : Prop := Claim7.holds Tryd.pinned (.plain (OpenSpec.ofChange wordPartsSpec)) wordPartsCard

/-- THE TIED CARD OF 'cognatelaw03.WordSyllables'. -/
def wordSyllablesCard : Claim7 := { stood := { row := wordSyllablesRow, standIns := [], harness := (true, "0ebe1efb270c8a9a3cefb7818cf6623f00682f21eb21463bc36d8b3953404008"), looks := false }, kinds := [], alts := [], laidByText := true, laidKinds := [.data, .pinned], laidTests := true, laidLooks := .later }
def WordSyllablesCardSaid : Prop := Claim7.holds Tryd.pinned (.plain (OpenSpec.ofChange wordSyllablesSpec)) wordSyllablesCard

/-- THE TIED CARD OF 'cognatelaw03.WordOrder'. -/
def wordOrderCard : Claim7 := { stood := { row := wordOrderRow, standIns := [], harness := (true, "0ebe1efb270c8a9a3cefb7818cf6623f00682f21eb21463bc36d8b3953404008"), looks := false }, kinds := [], alts := [], laidByText := true, laidKinds := [.data, .pinned], laidTests := true, laidLooks := .later }
def WordOrderCardSaid : Prop := Claim7.holds Tryd.pinned (.plain (OpenSpec.ofChange wordOrderSpec)) wordOrderCard

/-- THE TIED CARD OF 'cognatelaw03.WordRow'. -/
def wordRowCard : Claim7 := { stood := { row := wordRowRow, standIns := [], harness := (true, "0ebe1efb270c8a9a3cefb7818cf6623f00682f21eb21463bc36d8b3953404008"), looks := false }, kinds := [], alts := [], laidByText := true, laidKinds := [.data, .pinned], laidTests := true, laidLooks := .later }
def WordRowCardSaid : Prop := Claim7.holds Tryd.pinned (.plain (OpenSpec.ofChange wordRowSpec)) wordRowCard

/-- THE SECOND FORM's CARD OF 'cognatelaw03.WordLetters'. -/
def wordLettersUptoCard : Claim7 := { stood := { row := wordLettersUptoRow, standIns := [], harness := (true, "0ebe1efb270c8a9a3cefb7818cf6623f00682f21eb21463bc36d8b3953404008"), looks := false }, kinds := [], alts := [], laidByText := true, laidKinds := [.data, .pinned], laidTests := true, laidLooks := .later }
def WordLettersUptoCardSaid : Prop := Claim7.holds Tryd.pinned (.plain (OpenSpec.upto wordLettersSpec)) wordLettersUptoCard

/-- THE SECOND FORM's CARD OF 'cognatelaw03.WordPeaks'. -/
def wordPeaksUptoCard : Claim7 := { stood := { row := wordPeaksUptoRow, standIns := [], harness := (true, "0ebe1efb270c8a9a3cefb7818cf6623f00682f21eb21463bc36d8b3953404008"), looks := false }, kinds := [], alts := [], laidByText := true, laidKinds := [.data, .pinned], laidTests := true, laidLooks := .later }
def WordPeaksUptoCardSaid : Prop := Claim7.holds Tryd.pinned (.plain (OpenSpec.upto wordPeaksSpec)) wordPeaksUptoCard

/-- THE SECOND FORM's CARD OF 'cognatelaw03.WordParts'. -/
def wordPartsUptoCard : Claim7 := { stood := { row := wordPartsUptoRow, standIns := [], harness := (true, "0ebe1efb270c8a9a3cefb7818cf6623f00682f21eb21463bc36d8b3953404008"), looks := false }, kinds := [], alts := [], laidByText := true, laidKinds := [.data, .pinned], laidTests := true, laidLooks := .later }
def WordPartsUptoCardSaid : Prop := Claim7.holds Tryd.pinned (.plain (OpenSpec.upto wordPartsSpec)) wordPartsUptoCard

/-- THE SECOND FORM's CARD OF 'cognatelaw03.WordSyllables'. -/
def wordSyllablesUptoCard : Claim7 := { stood := { row := wordSyllablesUptoRow, standIns := [], harness := (true, "0ebe1efb270c8a9a3cefb7818cf6623f00682f21eb21463bc36d8b3953404008"), looks := false }, kinds := [], alts := [], laidByText := true, laidKinds := [.data, .pinned], laidTests := true, laidLooks := .later }
def WordSyllablesUptoCardSaid : Prop := Claim7.holds Tryd.pinned (.plain (OpenSpec.upto wordSyllablesSpec)) wordSyllablesUptoCard

/-- THE SECOND FORM's CARD OF 'cognatelaw03.WordOrder'. -/
def wordOrderUptoCard : Claim7 := { stood := { row := wordOrderUptoRow, standIns := [], harness := (true, "0ebe1efb270c8a9a3cefb7818cf6623f00682f21eb21463bc36d8b3953404008"), looks := false }, kinds := [], alts := [], laidByText := true, laidKinds := [.data, .pinned], laidTests := true, laidLooks := .later }
def WordOrderUptoCardSaid : Prop := Claim7.holds Tryd.pinned (.plain (OpenSpec.upto wordOrderSpec)) wordOrderUptoCard

/-- THE SECOND FORM's CARD OF 'cognatelaw03.WordRow'. -/
def wordRowUptoCard : Claim7 := { stood := { row := wordRowUptoRow, standIns := [], harness := (true, "0ebe1efb270c8a9a3cefb7818cf6623f00682f21eb21463bc36d8b3953404008"), looks := false }, kinds := [], alts := [], laidByText := true, laidKinds := [.data, .pinned], laidTests := true, laidLooks := .later }
def WordRowUptoCardSaid : Prop := Claim7.holds Tryd.pinned (.plain (OpenSpec.upto wordRowSpec)) wordRowUptoCard
end Rows
end Go.Proofs.YtfjccjjdgbkbiaaDoor
