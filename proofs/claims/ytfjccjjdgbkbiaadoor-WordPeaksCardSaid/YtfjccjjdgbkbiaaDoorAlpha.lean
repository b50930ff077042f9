/- Alphabets, as the document defines them; letters, classes, words. Plain Lean. -/
import Derived.Test.YtfjccjjdgbkbiaaDoorRunes
namespace Go.Proofs.YtfjccjjdgbkbiaaDoor
open Go.Lib
set_option linter.unusedVariables false

structure Lt where
  rune : Int
  plus : Nat
  minus : Nat
  deriving DecidableEq
structure Al where
  feats : List ByteArray
  lets : List Lt

def lower (b : UInt8) : Bool := 97 ≤ b && b ≤ 122
def nameOk (s : ByteArray) : Bool := decide (1 ≤ s.size) && decide (s.size ≤ 32) && s.data.toList.all lower
def letterOk (r : Int) : Bool := decide ((97 ≤ r ∧ r ≤ 122) ∨ (65 ≤ r ∧ r ≤ 90) ∨ (161 ≤ r ∧ r ≤ 1114111 ∧ r ≠ 65533 ∧ (r < 55296 ∨ 57343 < r)))
/-- May a class of n features be? -/
def classOk (n p m : Nat) : Bool := decide ((p ||| m) < 2 ^ n) && decide (p &&& m = 0)
def namesOk : List (List UInt8) → List ByteArray → Bool
  | _, [] => true
  | seen, f :: r => nameOk f && !decide (f.data.toList ∈ seen) && namesOk (f.data.toList :: seen) r
def letsOk (n : Nat) : List Int → List Lt → Bool
  | _, [] => true
  | seen, l :: r => letterOk l.rune && !decide (l.rune ∈ seen) && classOk n l.plus l.minus && letsOk n (l.rune :: seen) r
/-- May an alphabet be? -/
def alOk (a : Al) : Bool := decide (a.feats.length ≤ 24) && decide (1 ≤ a.lets.length) && decide (a.lets.length ≤ 128) && namesOk [] a.feats && letsOk a.feats.length [] a.lets
def alE (a : Al) : Int := if alOk a then 0 else 7

/-- A rune's number; none: it is no letter. -/
def numF : List Lt → Nat → Int → Option Nat
  | [], _, _ => none
  | l :: r, i, x => if l.rune = x then some i else numF r (i + 1) x
def num (a : Al) (x : Int) : Option Nat := numF a.lets 0 x
def isLet (a : Al) (x : Int) : Bool := (num a x).isSome

/-- A text's letters, of at most so many, and the error. -/
def readP (isL : Int → Bool) (most : Nat) : List Pc → List Int → List Int × Int
  | [], acc => (acc, 0)
  | p :: r, acc => if p.broken then ([], 6) else if !isL p.rune then ([], 5) else if acc.length = most then ([], 4) else readP isL most r (acc ++ [p.rune])
def readS (a : Al) (w : ByteArray) : List Int × Int := readP (isLet a) 64 (pcs w) []
def lettersS (a : Al) (w : ByteArray) : List Int × Int := if alOk a then readS a w else ([], 7)
end Go.Proofs.YtfjccjjdgbkbiaaDoor
