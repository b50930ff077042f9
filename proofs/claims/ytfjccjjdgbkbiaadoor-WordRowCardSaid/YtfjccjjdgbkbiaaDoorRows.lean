/-
  NARROWER THAN 'FOR EVERY INPUT', by the rows' own cells (each row's printed sentence says how): WordLetters: laid · WordPeaks: laid · WordParts: laid · WordSyllables: laid · WordOrder: laid · WordRow: laid.
  DERIVED. THE GIVEN ROWS OF THIS SEAT. 6 by the template 'for every input the law returns true; each argument reads behind the call as it read before'; 0 by the template 'total and deterministic' (their statements: YtfjccjjdgbkbiaaDoorTotals.lean).
  GIVEN WITH THE SEED: the statements are not yours to turn. If you find one false, say at which input.
  Laid BY PROGRAM, IN A SANDBOX (cutbox-rows.mjs): the forced cells as the released guide's own fill.sh prints them over the translation 277f68276f27d53a… (all of the seat's roots in one cut). By AI agents, Wed Nov 11 2026. No macro, syntax, notation, axiom, sorry.
-/
import Derived.Test.YtfjccjjdgbkbiaaDoorChecked
import GoSem.PinnedTables
import GoSem.Claim
import GoSem.ClaimJoined
import GoSem.ClaimMapViews
import Derived.JoinedTies
import Derived.KernelRfl
namespace Go.Proofs.YtfjccjjdgbkbiaaDoor
/- THE CELL 'sum', in the pinned program and in every row, IS THE sha256 OF THE DUMP (.gsa) THAT YtfjccjjdgbkbiaaDoorProg.lean LOADS. Nothing in Lean hashes anything: it is a label: what it is worth is what the hold of that sum in a sandbox is worth. -/
noncomputable def Tryd.pinned : Pinned := { name := "ytfjccjjdgbkbiaadoor", sum := "277f68276f27d53abbb59cbe7e261ac99c1b8f26ee5ed23f10f4e3c967f8ddbe", checked := Tryd.checked }
namespace Rows
def none {H : Type} : Left H := { results := [], args := [] }

/- WHAT THE LISTED PACKAGE-LEVEL VARIABLES READ AS WHEN THE CALL BEGINS. Each datum BY PROGRAM (the guide's laid-datum.mjs) off the statement by which the dump's own 'gosem.cut.vars' lays the variable. In a bare row this is a premise. The card (YtfjccjjdgbkbiaaDoorCards.lean) ties it to the program's text. -/
def laid_unicode_utf8_acceptRanges {H : Type} : DataW H := .agg [.agg [.lit (.int .u8 128), .lit (.int .u8 191)], .agg [.lit (.int .u8 160), .lit (.int .u8 191)], .agg [.lit (.int .u8 128), .lit (.int .u8 159)], .agg [.lit (.int .u8 144), .lit (.int .u8 191)], .agg [.lit (.int .u8 128), .lit (.int .u8 143)], .agg [.lit (.int .u8 0), .lit (.int .u8 0)], .agg [.lit (.int .u8 0), .lit (.int .u8 0)], .agg [.lit (.int .u8 0), .lit (.int .u8 0)], .agg [.lit (.int .u8 0), .lit (.int .u8 0)], .agg [.lit (.int .u8 0), .lit (.int .u8 0)], .agg [.lit (.int .u8 0), .lit (.int .u8 0)], .agg [.lit (.int .u8 0), .lit (.int .u8 0)], .agg [.lit (.int .u8 0), .lit (.int .u8 0)], .agg [.lit (.int .u8 0), .lit (.int .u8 0)], .agg [.lit (.int .u8 0), .lit (.int .u8 0)], .agg [.lit (.int .u8 0), .lit (.int .u8 0)]]
/-- One of Go's own tables, pinned by name: the form's constant. -/
def laid_unicode_utf8_first : DataW Unit := Go.Pinned.utf8First

/-- 'cognatelaw03.WordLetters': WHATEVER THE INPUT: true; the input reads as it did. -/
def wordLettersSpec : ChangeSpec := { name := "wordLetters", fn := fun _ => fun
  | [d1, d2, d3, d4, d5] => { results := [.lit (.bool true)], args := [d1, d2, d3, d4, d5] }
  | _ => none }
def wordLettersRow : OpenClaim := { program := "ytfjccjjdgbkbiaadoor", sum := "277f68276f27d53abbb59cbe7e261ac99c1b8f26ee5ed23f10f4e3c967f8ddbe", func := "cognate/cognatelaw03.WordLetters", spec := "wordLetters", inPlace := ["internal/bytealg.IndexByteString", "internal/bytealg.IndexString"], unfollowed := true, recurses := true, named := ["unicode/utf8.first", "unicode/utf8.acceptRanges", "internal/bytealg.MaxLen"], apart := false, laid := [("unicode/utf8.acceptRanges", laid_unicode_utf8_acceptRanges), ("unicode/utf8.first", laid_unicode_utf8_first)] }
def WordLettersSaid : Prop := wordLettersRow.holds Tryd.pinned (OpenSpec.ofChange wordLettersSpec)

/-- ITS FALSE NEIGHBOUR: 'it returns false'. Refute it at one input. -/
def wordLettersWrong : ChangeSpec := { name := "wordLetters", fn := fun _ => fun
  | [d1, d2, d3, d4, d5] => { results := [.lit (.bool false)], args := [d1, d2, d3, d4, d5] }
  | _ => none }
def WordLettersWrongFalsely : Prop := wordLettersRow.holds Tryd.pinned (OpenSpec.ofChange wordLettersWrong)

/-- 'cognatelaw03.WordPeaks': WHATEVER THE INPUT: true; the input reads as it did. -/
def wordPeaksSpec : ChangeSpec := { name := "wordPeaks", fn := fun _ => fun
  | [d1, d2, d3, d4] => { results := [.lit (.bool true)], args := [d1, d2, d3, d4] }
  | _ => none }
def wordPeaksRow : OpenClaim := { program := "ytfjccjjdgbkbiaadoor", sum := "277f68276f27d53abbb59cbe7e261ac99c1b8f26ee5ed23f10f4e3c967f8ddbe", func := "cognate/cognatelaw03.WordPeaks", spec := "wordPeaks", inPlace := ["internal/bytealg.IndexByteString", "internal/bytealg.IndexString"], unfollowed := true, recurses := true, named := ["unicode/utf8.first", "unicode/utf8.acceptRanges", "internal/bytealg.MaxLen"], apart := false, laid := [("unicode/utf8.acceptRanges", laid_unicode_utf8_acceptRanges), ("unicode/utf8.first", laid_unicode_utf8_first)] }
def WordPeaksSaid : Prop := wordPeaksRow.holds Tryd.pinned (OpenSpec.ofChange wordPeaksSpec)

/-- ITS FALSE NEIGHBOUR: 'it returns false'. Refute it at one input. -/
def wordPeaksWrong : ChangeSpec := { name := "wordPeaks", fn := fun _ => fun
  | [d1, d2, d3, d4] => { results := [.lit (.bool false)], args := [d1, d2, d3, d4] }
  | _ => none }
def WordPeaksWrongFalsely : Prop := wordPeaksRow.holds Tryd.pinned (OpenSpec.ofChange wordPeaksWrong)

/-- 'cognatelaw03.WordParts': WHATEVER THE INPUT: true; the input reads as it did. -/
def wordPartsSpec : ChangeSpec := { name := "wordParts", fn := fun _ => fun
  | [d1, d2, d3, d4] => { results := [.lit (.bool true)], args := [d1, d2, d3, d4] }
  | _ => none }
def wordPartsRow : OpenClaim := { program := "ytfjccjjdgbkbiaadoor", sum := "277f68276f27d53abbb59cbe7e261ac99c1b8f26ee5ed23f10f4e3c967f8ddbe", func := "cognate/cognatelaw03.WordParts", spec := "wordParts", inPlace := ["internal/bytealg.IndexByteString", "internal/bytealg.IndexString"], unfollowed := true, recurses := true, named := ["unicode/utf8.first", "unicode/utf8.acceptRanges", "internal/bytealg.MaxLen"], apart := false, laid := [("unicode/utf8.acceptRanges", laid_unicode_utf8_acceptRanges), ("unicode/utf8.first", laid_unicode_utf8_first)] }
def WordPartsSaid : Prop := wordPartsRow.holds Tryd.pinned (OpenSpec.ofChange wordPartsSpec)

/-- ITS FALSE NEIGHBOUR: 'it returns false'. Refute it at one input. -/
def wordPartsWrong : ChangeSpec := { name := "wordParts", fn := fun _ => fun
  | [d1, d2, d3, d4] => { results := [.lit (.bool false)], args := [d1, d2, d3, d4] }
  | _ => none }
def WordPartsWrongFalsely : Prop := wordPartsRow.holds Tryd.pinned (OpenSpec.ofChange wordPartsWrong)

/-- 'cognatelaw03.WordSyllables': WHATEVER THE INPUT: true; the input reads as it did. -/
def wordSyllablesSpec : ChangeSpec := { name := "wordSyllables", fn := fun _ => fun
  | [d1, d2, d3, d4] => { results := [.lit (.bool true)], args := [d1, d2, d3, d4] }
  | _ => none }
def wordSyllablesRow : OpenClaim := { program := "ytfjccjjdgbkbiaadoor", sum := "277f68276f27d53abbb59cbe7e261ac99c1b8f26ee5ed23f10f4e3c967f8ddbe", func := "cognate/cognatelaw03.WordSyllables", spec := "wordSyllables", inPlace := ["internal/bytealg.IndexByteString", "internal/bytealg.IndexString"], unfollowed := true, recurses := true, named := ["unicode/utf8.first", "unicode/utf8.acceptRanges", "internal/bytealg.MaxLen"], apart := false, laid := [("unicode/utf8.acceptRanges", laid_unicode_utf8_acceptRanges), ("unicode/utf8.first", laid_unicode_utf8_first)] }
def WordSyllablesSaid : Prop := wordSyllablesRow.holds Tryd.pinned (OpenSpec.ofChange wordSyllablesSpec)

/-- ITS FALSE NEIGHBOUR: 'it returns false'. Refute it at one input. -/
def wordSyllablesWrong : ChangeSpec := { name := "wordSyllables", fn := fun _ => fun
  | [d1, d2, d3, d4] => { results := [.lit (.bool false)], args := [d1, d2, d3, d4] }
  | _ => none }
def WordSyllablesWrongFalsely : Prop := wordSyllablesRow.holds Tryd.pinned (OpenSpec.ofChange wordSyllablesWrong)

/-- 'cognatelaw03.WordOrder': WHATEVER THE INPUT: true; the input reads as it did. -/
def wordOrderSpec : ChangeSpec := { name := "wordOrder", fn := fun _ => fun
  | [d1, d2, d3, d4, d5] => { results := [.lit (.bool true)], args := [d1, d2, d3, d4, d5] }
  | _ => none }
def wordOrderRow : OpenClaim := { program := "ytfjccjjdgbkbiaadoor", sum := "277f68276f27d53abbb59cbe7e261ac99c1b8f26ee5ed23f10f4e3c967f8ddbe", func := "cognate/cognatelaw03.WordOrder", spec := "wordOrder", inPlace := ["internal/bytealg.IndexByteString", "internal/bytealg.IndexString"], unfollowed := true, recurses := true, named := ["unicode/utf8.first", "unicode/utf8.acceptRanges", "internal/bytealg.MaxLen"], apart := false, laid := [("unicode/utf8.acceptRanges", laid_unicode_utf8_acceptRanges), ("unicode/utf8.first", laid_unicode_utf8_first)] }
def WordOrderSaid : Prop := wordOrderRow.holds Tryd.pinned (OpenSpec.ofChange wordOrderSpec)

/-- ITS FALSE NEIGHBOUR: 'it returns false'. Refute it at one input. -/
def wordOrderWrong : ChangeSpec := { name := "wordOrder", fn := fun _ => fun
  | [d1, d2, d3, d4, d5] => { results := [.lit (.bool false)], args := [d1, d2, d3, d4, d5] }
  | _ => none }
def WordOrderWrongFalsely : Prop := wordOrderRow.holds Tryd.pinned (OpenSpec.ofChange wordOrderWrong)

/-- 'cognatelaw03.WordRow': WHATEVER THE INPUT: true; the input reads as it did. -/
def wordRowSpec : ChangeSpec := { name := "wordRow", fn := fun _ => fun
  | [d1, d2, d3, d4] => { results := [.lit (.bool true)], args := [d1, d2, d3, d4] }
  | _ => none }
def wordRowRow : OpenClaim := { program := "ytfjccjjdgbkbiaadoor", sum := "277f68276f27d53abbb59cbe7e261ac99c1b8f26ee5ed23f10f4e3c967f8ddbe", func := "cognate/cognatelaw03.WordRow", spec := "wordRow", inPlace := ["internal/bytealg.IndexByteString", "internal/bytealg.IndexString"], unfollowed := true, recurses := true, named := ["unicode/utf8.first", "unicode/utf8.acceptRanges", "internal/bytealg.MaxLen"], apart := false, laid := [("unicode/utf8.acceptRanges", laid_unicode_utf8_acceptRanges), ("unicode/utf8.first", laid_unicode_utf8_first)] }
def WordRowSaid : Prop := wordRowRow.holds Tryd.pinned (OpenSpec.ofChange wordRowSpec)

/-- ITS FALSE NEIGHBOUR: 'it returns false'. Refute it at one input. -/
def wordRowWrong : ChangeSpec := { name := "wordRow", fn := fun _ => fun
  | [d1, d2, d3, d4] => { results := [.lit (.bool false)], args := [d1, d2, d3, d4] }
  | _ => none }
def WordRowWrongFalsely : Prop := wordRowRow.holds Tryd.pinned (OpenSpec.ofChange wordRowWrong)

/- THE SECOND FORM. 'bulk': how many values and letters a reading holds, each counted each time it is reached (what is shared counts as often as it is met; a slice's spare places count too). A statement '..UptoSaid' is the law's where the arguments, and the package variables that the reading takes, are together of bulk at most 1048576: NARROWER than '..Said'. Prove '..Said' where nothing that the law and all that it calls make is longer than what came in: it says more and counts as full. Else prove '..UptoSaid'. A law counts once. -/
mutual
def uptoBulk {H : Type} : DataW H → Nat
  | .lit (.string bytes) => bytes.length + 1
  | .lit _ => 1
  | .nil => 1
  | .ptr d => uptoBulk d + 1
  | .slice elems spare => uptoBulkAll elems + uptoBulkAll spare + 1
  | .agg parts => uptoBulkAll parts + 1
  | .iface _ d => uptoBulk d + 1
  | .map entries => uptoBulkEntries entries + 1
  | .held _ => 1
def uptoBulkAll {H : Type} : List (DataW H) → Nat
  | [] => 0
  | d :: r => uptoBulk d + uptoBulkAll r
def uptoBulkEntries {H : Type} : List (Lit × DataW H) → Nat
  | [] => 0
  | x :: r => uptoBulkEntry x + uptoBulkEntries r
def uptoBulkEntry {H : Type} : Lit × DataW H → Nat
  | (.string bytes, d) => bytes.length + uptoBulk d + 1
  | (_, d) => uptoBulk d + 1
 end
def uptoSmall : (H : Type) → List (DataW H) → Bool := fun _ ds => decide (uptoBulkAll ds ≤ 1048576)
def OpenSpec.upto (s : _root_.Go.ChangeSpec) : _root_.Go.OpenSpec := { _root_.Go.OpenSpec.ofChange s with cond := some uptoSmall }

/-- 'cognatelaw03.WordLetters', WHERE WHAT IT READS IS OF BULK AT MOST 1048576: true; the input reads as it did. -/
def wordLettersUptoRow : OpenClaim := { program := "ytfjccjjdgbkbiaadoor", sum := "277f68276f27d53abbb59cbe7e261ac99c1b8f26ee5ed23f10f4e3c967f8ddbe", func := "cognate/cognatelaw03.WordLetters", spec := "wordLetters", inPlace := ["internal/bytealg.IndexByteString", "internal/bytealg.IndexString"], unfollowed := true, recurses := true, named := ["unicode/utf8.first", "unicode/utf8.acceptRanges", "internal/bytealg.MaxLen"], apart := false, laid := [("unicode/utf8.acceptRanges", laid_unicode_utf8_acceptRanges), ("unicode/utf8.first", laid_unicode_utf8_first)], narrowed := true }
def WordLettersUptoSaid : Prop := wordLettersUptoRow.holds Tryd.pinned (OpenSpec.upto wordLettersSpec)

/-- 'cognatelaw03.WordPeaks', WHERE WHAT IT READS IS OF BULK AT MOST 1048576: true; the input reads as it did. -/
def wordPeaksUptoRow : OpenClaim := { program := "ytfjccjjdgbkbiaadoor", sum := "277f68276f27d53abbb59cbe7e261ac99c1b8f26ee5ed23f10f4e3c967f8ddbe", func := "cognate/cognatelaw03.WordPeaks", spec := "wordPeaks", inPlace := ["internal/bytealg.IndexByteString", "internal/bytealg.IndexString"], unfollowed := true, recurses := true, named := ["unicode/utf8.first", "unicode/utf8.acceptRanges", "internal/bytealg.MaxLen"], apart := false, laid := [("unicode/utf8.acceptRanges", laid_unicode_utf8_acceptRanges), ("unicode/utf8.first", laid_unicode_utf8_first)], narrowed := true }
def WordPeaksUptoSaid : Prop := wordPeaksUptoRow.holds Tryd.pinned (OpenSpec.upto wordPeaksSpec)

/-- 'cognatelaw03.WordParts', WHERE WHAT IT READS IS OF BULK AT MOST 1048576: true; the input reads as it did. -/
def wordPartsUptoRow : OpenClaim := { program := "ytfjccjjdgbkbiaadoor", sum := "277f68276f27d53abbb59cbe7e261ac99c1b8f26ee5ed23f10f4e3c967f8ddbe", func := "cognate/cognatelaw03.WordParts", spec := "wordParts", inPlace := ["internal/bytealg.IndexByteString", "internal/bytealg.IndexString"], unfollowed := true, recurses := true, named := ["unicode/utf8.first", "unicode/utf8.acceptRanges", "internal/bytealg.MaxLen"], apart := false, laid := [("unicode/utf8.acceptRanges", laid_unicode_utf8_acceptRanges), ("unicode/utf8.first", laid_unicode_utf8_first)], narrowed := true }
def WordPartsUptoSaid : Prop := wordPartsUptoRow.holds Tryd.pinned (OpenSpec.upto wordPartsSpec)

/-- 'cognatelaw03.WordSyllables', WHERE WHAT IT READS IS OF BULK AT MOST 1048576: true; the input reads as it did. -/
def wordSyllablesUptoRow : OpenClaim := { program := "ytfjccjjdgbkbiaadoor", sum := "277f68276f27d53abbb59cbe7e261ac99c1b8f26ee5ed23f10f4e3c967f8ddbe", func := "cognate/cognatelaw03.WordSyllables", spec := "wordSyllables", inPlace := ["internal/bytealg.IndexByteString", "internal/bytealg.IndexString"], unfollowed := true, recurses := true, named := ["unicode/utf8.first", "unicode/utf8.acceptRanges", "internal/bytealg.MaxLen"], apart := false, laid := [("unicode/utf8.acceptRanges", laid_unicode_utf8_acceptRanges), ("unicode/utf8.first", laid_unicode_utf8_first)], narrowed := true }
def WordSyllablesUptoSaid : Prop := wordSyllablesUptoRow.holds Tryd.pinned (OpenSpec.upto wordSyllablesSpec)

/-- 'cognatelaw03.WordOrder', WHERE WHAT IT READS IS OF BULK AT MOST 1048576: true; the input reads as it did. -/
def wordOrderUptoRow : OpenClaim := { program := "ytfjccjjdgbkbiaadoor", sum := "277f68276f27d53abbb59cbe7e261ac99c1b8f26ee5ed23f10f4e3c967f8ddbe", func := "cognate/cognatelaw03.WordOrder", spec := "wordOrder", inPlace := ["internal/bytealg.IndexByteString", "internal/bytealg.IndexString"], unfollowed := true, recurses := true, named := ["unicode/utf8.first", "unicode/utf8.acceptRanges", "internal/bytealg.MaxLen"], apart := false, laid := [("unicode/utf8.acceptRanges", laid_unicode_utf8_acceptRanges), ("unicode/utf8.first", laid_unicode_utf8_first)], narrowed := true }
def WordOrderUptoSaid : Prop := wordOrderUptoRow.holds Tryd.pinned (OpenSpec.upto wordOrderSpec)

/-- 'cognatelaw03.WordRow', WHERE WHAT IT READS IS OF BULK AT MOST 1048576: true; the input reads as it did. -/
def wordRowUptoRow : OpenClaim := { program := "ytfjccjjdgbkbiaadoor", sum := "277f68276f27d53abbb59cbe7e261ac99c1b8f26ee5ed23f10f4e3c967f8ddbe", func := "cognate/cognatelaw03.WordRow", spec := "wordRow", inPlace := ["internal/bytealg.IndexByteString", "internal/bytealg.IndexString"], unfollowed := true, recurses := true, named := ["unicode/utf8.first", "unicode/utf8.acceptRanges", "internal/bytealg.MaxLen"], apart := false, laid := [("unicode/utf8.acceptRanges", laid_unicode_utf8_acceptRanges), ("unicode/utf8.first", laid_unicode_utf8_first)], narrowed := true }
def WordRowUptoSaid : Prop := wordRowUptoRow.holds Tryd.pinned (OpenSpec.upto wordRowSpec)

end Rows
end Go.Proofs.YtfjccjjdgbkbiaaDoor
