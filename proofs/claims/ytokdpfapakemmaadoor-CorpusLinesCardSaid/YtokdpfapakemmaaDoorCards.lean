/-
  DERIVED. GIVEN WITH THE SEED: THE CARDS: each row of YtokdpfapakemmaaDoorRows.lean that lists a variable, with what it lists TIED to the program's text (the seventh form; the later family's looks); each row that meets fmt, with fmt's text TOLD by the authors' own Lean function (tested against real Go, not proved from fmt's source: count such statements apart). THE CARD IS WHAT COUNTS. Prove the row's statement (the work); the ties are given (YtokdpfapakemmaaDoorTie.lean); close each card by the builder's one call (the guide's Derived/Test/ToyasCard.lean, 'card_holds'). Laid BY PROGRAM, IN A SANDBOX (cutbox-door.mjs). By AI agents, Wed Nov 11 2026. No macro, syntax, notation, axiom, sorry.
-/
import Derived.Test.YtokdpfapakemmaaDoorRows
import GoSem.ClaimSeven
namespace Go.Proofs.YtokdpfapakemmaaDoor
namespace Rows

/-- THE TIED CARD OF 'cognatelaw24.CorpusPlaces'. -/
def corpusPlacesCard : Claim7 := { stood := { row := corpusPlacesRow, standIns := [], harness := (true, "30b26a4f21107e5f0b548560a4c7c0371e3ba0249ca8a6a1dafce3a725d943c1"), looks := false }, kinds := [], alts := [], laidByText := true, laidKinds := [.data, .pinned], laidTests := true, laidLooks := .later }
def CorpusPlacesCardSaid : Prop := Claim7.holds Tryd.pinned (.plain (OpenSpec.ofChange corpusPlacesSpec)) corpusPlacesCard

/-- THE TIED CARD OF 'cognatelaw24.CorpusLines'. -/
def corpusLinesCard : Claim7 := { stood := { row := corpusLinesRow, standIns := [], harness := (true, "30b26a4f21107e5f0b548560a4c7c0371e3ba0249ca8a6a1dafce3a725d943c1"), looks := false }, kinds := [], alts := [], laidByText := true, laidKinds := [.data, .pinned], laidTests := true, laidLooks := .later }
def CorpusLinesCardSaid : Prop := Claim7.holds Tryd.pinned (.plain (OpenSpec.ofChange corpusLinesSpec)) corpusLinesCard

/-- THE TIED CARD OF 'cognatelaw24.CorpusWhole'. -/
def corpusWholeCard : Claim7 := { stood := { row := corpusWholeRow, standIns := [], harness := (true, "30b26a4f21107e5f0b548560a4c7c0371e3ba0249ca8a6a1dafce3a725d943c1"), looks := false }, kinds := [], alts := [], laidByText := true, laidKinds := [.data, .pinned], laidTests := true, laidLooks := .later }
def CorpusWholeCardSaid : Prop := Claim7.holds Tryd.pinned (.plain (OpenSpec.ofChange corpusWholeSpec)) corpusWholeCard

/-- THE SECOND FORM's CARD OF 'cognatelaw24.CorpusPlaces'. -/
def corpusPlacesUptoCard : Claim7 := { stood := { row := corpusPlacesUptoRow, standIns := [], harness := (true, "30b26a4f21107e5f0b548560a4c7c0371e3ba0249ca8a6a1dafce3a725d943c1"), looks := false }, kinds := [], alts := [], laidByText := true, laidKinds := [.data, .pinned], laidTests := true, laidLooks := .later }
def CorpusPlacesUptoCardSaid : Prop := Claim7.holds Tryd.pinned (.plain (OpenSpec.upto corpusPlacesSpec)) corpusPlacesUptoCard

/-- THE SECOND FORM's CARD OF 'cognatelaw24.CorpusLines'. -/
def corpusLinesUptoCard : Claim7 := { stood := { row := corpusLinesUptoRow, standIns := [], harness := (true, "30b26a4f21107e5f0b548560a4c7c0371e3ba0249ca8a6a1dafce3a725d943c1"), looks := false }, kinds := [], alts := [], laidByText := true, laidKinds := [.data, .pinned], laidTests := true, laidLooks := .later }
def CorpusLinesUptoCardSaid : Prop := Claim7.holds Tryd.pinned (.plain (OpenSpec.upto corpusLinesSpec)) corpusLinesUptoCard

/-- THE SECOND FORM's CARD OF 'cognatelaw24.CorpusWhole'. -/
def corpusWholeUptoCard : Claim7 := { stood := { row := corpusWholeUptoRow, standIns := [], harness := (true, "30b26a4f21107e5f0b548560a4c7c0371e3ba0249ca8a6a1dafce3a725d943c1"), looks := false }, kinds := [], alts := [], laidByText := true, laidKinds := [.data, .pinned], laidTests := true, laidLooks := .later }
def CorpusWholeUptoCardSaid : Prop := Claim7.holds Tryd.pinned (.plain (OpenSpec.upto corpusWholeSpec)) corpusWholeUptoCard
end Rows
end Go.Proofs.YtokdpfapakemmaaDoor
