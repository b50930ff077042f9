/- The program's each: a function value is called with each piece of a text, until it says no. -/
import Derived.Test.YtfjccjjdgbkbiaaDoorRuneLen
import Derived.Test.YtfjccjjdgbkbiaaDoorPcMem
import Derived.Test.YtfjccjjdgbkbiaaDoorShelf
import Derived.Lib.OthersKept
namespace Go.Proofs.YtfjccjjdgbkbiaaDoor
open Go.RowKit Go.Lib
set_option linter.unusedVariables false

/-- All blocks stand but the iterator's, the block it; and all rows of cells. -/
structure CellsKept (it : Nat) (w w' : World) : Prop where
  os : w'.os = w.os
  tape : w'.tape = w.tape
  output : w'.output = w.output
  size : w.heap.size ≤ w'.heap.size
  block : ∀ k, k < w.heap.size → k ≠ it → w'.heap[k]? = w.heap[k]?
  row : ∀ (k : Nat) (c : Array Value) (t : TypeId) (fr : Nat × Nat), w.heap[k]? = some (Obj.cells c t fr) → w'.heap[k]? = some (Obj.cells c t fr)
section
variable {it : Nat}
theorem CellsKept.refl (it : Nat) (w : World) : CellsKept it w w := ⟨rfl, rfl, rfl, Nat.le_refl _, fun _ _ _ => rfl, fun _ _ _ _ h => h⟩
theorem CellsKept.trans {a b c : World} (h : CellsKept it a b) (k : CellsKept it b c) : CellsKept it a c :=
  ⟨k.os.trans h.os, k.tape.trans h.tape, k.output.trans h.output, Nat.le_trans h.size k.size, fun i hi hn => (k.block i (Nat.lt_of_lt_of_le hi h.size) hn).trans (h.block i hi hn), fun i x t fr hh => k.row i x t fr (h.row i x t fr hh)⟩
theorem CellsKept.of_below {w w' : World} (h : Below w.heap.size w w') : CellsKept it w w' := ⟨h.os, h.tape, h.output, h.size, fun k hk _ => h.block k hk, fun k c t fr hk => (h.block k (Array.getElem?_eq_some_iff.1 hk).1).trans hk⟩
theorem CellsKept.alloc {w w' : World} (h : CellsKept it w w') (o : Obj) : CellsKept it w (w'.alloc o) := h.trans (.of_below ((Below.refl _ _).alloc (Nat.le_refl _) _))
theorem CellsKept.iterAt {w w' : World} {pos : Nat} {s : ByteArray} (h : CellsKept it w w') (hk : w'.heap[it]? = some (.stringIter s pos)) (pos' : Nat) : CellsKept it w (w'.iterAt it s pos') :=
  h.trans ⟨rfl, rfl, rfl, by rw [iterAt_size]; exact Nat.le_refl _, fun i _ e => iterAt_other w' it i s pos' e, fun i c t fr hi => by
    by_cases e : i = it
    · subst e
      rw [hk] at hi
      cases hi
    · rw [iterAt_other w' it i s pos' e]
      exact hi⟩
theorem CellsKept.below {B : Nat} {w wa wb : World} (h : Below B w wa) (hk : CellsKept it wa wb) (hB : B ≤ it) (hw : B ≤ wa.heap.size) : Below B w wb :=
  ⟨hk.os.trans h.os, hk.tape.trans h.tape, hk.output.trans h.output, Nat.le_trans h.size hk.size, fun k hk' => (hk.block k (by omega) (by omega)).trans (h.block k hk')⟩
theorem CellsKept.setCell {w w' : World} (h : CellsKept it w w') {p : Addr} (hp : w.heap.size ≤ p.block) (u : Value) : CellsKept it w (w'.setCell p u) :=
  ⟨h.os, h.tape, h.output, by simpa using h.size, fun k hk hn => (Below.heap_setCell w' p u k (by omega)).trans (h.block k hk hn), fun k c t fr hk => (Below.heap_setCell w' p u k (by have := (Array.getElem?_eq_some_iff.1 hk).1; omega)).trans (h.row k c t fr hk)⟩
theorem CellsKept.hrow {w w' : World} (h : CellsKept it w w') {g : Nat} {t : TypeId} {l : List Value} (hr : Row w g t l) : Row w' g t l := h.row _ _ _ _ hr
theorem CellsKept.own {w w' : World} {base sz n : Nat} {e : TypeId} {v : Value} {xs : List Value} (hk : CellsKept it w w') (h : w.ownsRow base e sz v n xs) : w'.ownsRow base e sz v n xs := by
  refine ⟨h.1, ?_⟩
  rcases h.2 with hn | ⟨g, cap, cur, rfl, hbg, hgg, rest⟩
  · exact .inl hn
  · exact .inr ⟨g, cap, cur, rfl, hbg, hk.row _ _ _ _ hgg, rest⟩
theorem CellsKept.cell {w w' : World} (h : CellsKept it w w') {a : Addr} {v : Value} (hc : w.cell? a = some v) : w'.cell? a = some v := by
  cases hb : w.heap[a.block]? with
  | none => simp [World.cell?, hb] at hc
  | some o =>
    cases o with
    | cells c t fr =>
      unfold World.cell? at hc ⊢
      rw [hb] at hc
      rw [h.row _ _ _ _ hb]
      exact hc
    | _ => simp [World.cell?, hb] at hc
theorem CellsKept.tabs {w w' : World} (hb : CellsKept it w w') (h : Utf8Tabs 0 1 w) : Utf8Tabs 0 1 w' :=
  ⟨fun c hc => hb.cell (h.1 c hc), fun i hi => ⟨hb.cell (h.2 i hi).1, hb.cell (h.2 i hi).2⟩⟩

end

/-- What the called function value (f, with one captured place b) holds to: I of what it was given so far, J where it has said no. -/
structure EachOk (s : ByteArray) (it : Nat) (f : FuncId) (b : Nat) (I J : List Pc → World → Prop) : Prop where
  tabs : ∀ l wa, I l wa → Utf8Tabs 0 1 wa ∧ it ≤ wa.heap.size
  keep : ∀ l wa wb, I l wa → CellsKept it wa wb → I l wb
  call : ∀ l p r wa, pcs s = l ++ p :: r → I l wa → it < wa.heap.size → Calls Tryd.prog f #[vPc p, .pointer (some ⟨b, 0, none⟩)] wa fun e w' =>
    ((e = .returned (.bool true) ∧ I (l ++ [p]) w') ∨ (e = .returned (.bool false) ∧ J (l ++ [p]) w')) ∧ ∀ pos, wa.heap[it]? = some (.stringIter s pos) → w'.heap[it]? = some (.stringIter s pos)

def EachOut (s : ByteArray) (I J : List Pc → World → Prop) (e : Ending) (w' : World) : Prop :=
  e = .returned (.tuple #[]) ∧ (I (pcs s) w' ∨ ∃ l p r, pcs s = l ++ p :: r ∧ J (l ++ [p]) w')
def EachSt (s : ByteArray) (it : Nat) (I : List Pc → World → Prop) (wr : World) : Prop :=
  ∃ pos l, pos ≤ s.size ∧ pcs s = l ++ pcsFrom s pos ∧ I l wr ∧ wr.heap[it]? = some (.stringIter s pos)

end Go.Proofs.YtfjccjjdgbkbiaaDoor
