/- Pieces of texts in memory. The program's each: a function value is called with each piece of a text, until it says no. -/
import Derived.Test.YtimhlnndobfehaaDoorMc05
import Derived.Test.YtimhlnndobfehaaDoorMc06
import Derived.Test.YtimhlnndobfehaaDoorChecked
import Derived.Lib.RuneBytes
import Derived.Laws.IdiomStrings
import Derived.Laws.BytesArg
import Derived.Test.YtimhlnndobfehaaDoorMc17
import Derived.Test.YtimhlnndobfehaaDoorShelf
import Derived.Lib.OthersKept
namespace Go.Proofs.YtimhlnndobfehaaDoor
open Go.RowKit Go.Lib
set_option linter.unusedVariables false

def vPc (p : Pc) : Value := .agg #[.int .i32 p.rune, .int .i64 p.at_, .int .i64 p.len, .bool p.broken]
theorem boxes2 (w : World) (t : TypeId) (l m : List Value) : Row ((w.alloc (.cells l.toArray t)).alloc (.cells m.toArray t)) w.heap.size t l ∧ Row ((w.alloc (.cells l.toArray t)).alloc (.cells m.toArray t)) (w.heap.size + 1) t m ∧ Below w.heap.size w ((w.alloc (.cells l.toArray t)).alloc (.cells m.toArray t)) := by
  refine ⟨(Row.new w t l).alloc _, ?_, ((Below.refl _ _).alloc (Nat.le_refl _) _).alloc (by simp) _⟩
  have h := Row.new (w.alloc (.cells l.toArray t)) t m
  simpa using h
def pcCells (p : Pc) : List Value := [.int .i32 p.rune, .int .i64 p.at_, .int .i64 p.len, .bool p.broken]
def pcFlat (l : List Pc) : List Value := l.flatMap pcCells
theorem piece_info : (Tryd.prog.info? 151).map (fun i => (i.zero, i.size, i.bytes)) = some (some (.agg #[.int .i32 0, .int .i64 0, .int .i64 0, .bool false]), 4, 32) := by kernel_rfl

theorem pcFlat_snoc (l : List Pc) (p : Pc) : pcFlat (l ++ [p]) = pcFlat l ++ pcCells p := by unfold pcFlat; simp

theorem decodeN_rune (n b0 b1 b2 b3 : Nat) (h0 : b0 < 256) (h1 : b1 < 256) (h2 : b2 < 256) (h3 : b3 < 256) : (decodeN n b0 b1 b2 b3).1 ≤ 1114111 ∧ ¬ (55296 ≤ (decodeN n b0 b1 b2 b3).1 ∧ (decodeN n b0 b1 b2 b3).1 ≤ 57343) := by
  unfold decodeN
  repeat' split
  all_goals (simp only; omega)
theorem decode_rune (s : ByteArray) (i : Nat) : (Utf8.decode s i).1 ≤ 1114111 ∧ ¬ (55296 ≤ (Utf8.decode s i).1 ∧ (Utf8.decode s i).1 ≤ 57343) := by
  rw [decode_bt]
  exact decodeN_rune _ _ _ _ _ (bt_lt _ _) (bt_lt _ _) (bt_lt _ _) (bt_lt _ _)

/-- What a piece of a text is like. -/
def PcOk (p : Pc) : Prop := 0 ≤ p.rune ∧ p.rune ≤ 1114111 ∧ p.at_ ≤ 4611686018427387904 ∧ 1 ≤ p.len ∧ p.len ≤ 4
def vPiece : Rep Pc := fun _ _ _ cs p => cs = pcCells p ∧ PcOk p
theorem vPiece_good : vPiece.Good := ⟨fun _ h => h, fun _ _ h => h⟩
theorem pcs_ok (s : ByteArray) (h : s.size ≤ 4611686018427387904) {p : Pc} (hp : p ∈ pcs s) : PcOk p := by
  obtain ⟨k, hk, rfl⟩ := List.getElem_of_mem hp
  obtain ⟨e, hlt⟩ := pcs_at s 0 k hk
  have e' : (pcs s)[k] = pcAt s (placeOf s 0 k) := e
  rw [e']
  have h1 := decode_rune s (placeOf s 0 k)
  have h2 := decode_width s _ hlt
  unfold PcOk pcAt
  simp only
  omega

theorem pcFlat_length (l : List Pc) : (pcFlat l).length = l.length * 4 := by
  unfold pcFlat
  induction l with
  | nil => rfl
  | cons p l ih =>
    rw [List.flatMap_cons, List.length_append, ih, List.length_cons]
    show 4 + _ = _
    omega
theorem pcFlat_fits {w : World} {lo hi : Nat} : ∀ (l : List Pc), (∀ p ∈ l, PcOk p) → Fits 4 vPiece w lo hi (pcFlat l) l := by
  intro l
  induction l with
  | nil => exact fun _ => Fits.nil
  | cons p l ih =>
    intro h
    have := (Fits.one (V := vPiece) (w := w) (lo := lo) (hi := hi) (cs := pcCells p) (x := p) (sz := 4) rfl ⟨rfl, h p (List.mem_cons_self ..)⟩).append (ih fun q hq => h q (List.mem_cons_of_mem _ hq))
    exact this

/-- A slice of the pieces of a text. -/
def PcsOut (l : List Pc) (w : World) (e : Ending) (w' : World) : Prop :=
  ∃ A c, e = .returned (.slice A l.length c) ∧ l.length ≤ c ∧ c ≤ maxLen ∧ Sl 4 vPiece w' w.heap.size w'.heap.size A l ∧ Below w.heap.size w w'
def PcsOut2 (l : List Pc) (w : World) (e : Ending) (w' : World) : Prop :=
  ∃ A c, e = .returned (.tuple #[.slice A l.length c, .int .i64 0]) ∧ l.length ≤ c ∧ c ≤ maxLen ∧ Sl 4 vPiece w' w.heap.size w'.heap.size A l ∧ Below w.heap.size w w'
theorem pc_at {w : World} {lo hi k : Nat} {A : Option Addr} {l : List Pc} (h : Sl 4 vPiece w lo hi A l) (hk : k < l.length) :
    ∃ b off, A = some ⟨b, off, none⟩ ∧ lo ≤ b ∧ b < hi ∧ Cel w b (off + k * 4) (.int .i32 l[k].rune) ∧ Cel w b (off + k * 4 + 1) (.int .i64 l[k].at_) ∧ Cel w b (off + k * 4 + 2) (.int .i64 l[k].len) ∧ Cel w b (off + k * 4 + 3) (.bool l[k].broken) ∧ PcOk l[k] := by
  obtain ⟨b, off, cs, e, h1, h2, _, h4, h5, h6⟩ := h.at_ hk
  subst h5
  exact ⟨b, off, e, h1, h2, h4 0 _ rfl, h4 1 _ rfl, h4 2 _ rfl, h4 3 _ rfl, h6⟩
theorem Sl.drop {α : Type} {sz : Nat} {V : Rep α} {w : World} {lo hi b off : Nat} {xs : List α} (h : Sl sz V w lo hi (some ⟨b, off, none⟩) xs) (k : Nat) : Sl sz V w lo hi (some ⟨b, off + k * sz, none⟩) (xs.drop k) := fun hn => by
  rw [List.length_drop] at hn
  obtain ⟨b', off', e, h1, h2, h3⟩ := h (by omega)
  simp only [Option.some.injEq, Addr.mk.injEq, and_true] at e
  obtain ⟨rfl, rfl⟩ := e
  refine ⟨b, off + k * sz, rfl, h1, h2, fun i x hx => ?_⟩
  rw [List.getElem?_drop] at hx
  obtain ⟨cs, h4, h5, h6⟩ := h3 _ x hx
  refine ⟨cs, h4, ?_, h6⟩
  rw [Nat.add_assoc, ← Nat.add_mul]
  exact h5
theorem Sl.take {α : Type} {sz : Nat} {V : Rep α} {w : World} {lo hi : Nat} {A : Option Addr} {xs : List α} (h : Sl sz V w lo hi A xs) (k : Nat) : Sl sz V w lo hi A (xs.take k) := fun hn => by
  rw [List.length_take] at hn
  obtain ⟨b', off', e, h1, h2, h3⟩ := h (by omega)
  refine ⟨b', off', e, h1, h2, fun i x hx => ?_⟩
  rw [List.getElem?_take] at hx
  split at hx
  · exact h3 i x hx
  · cases hx
/-- string(b), where b is a row of bytes of the call's own. -/
theorem own_string {P : Program} {w : World} {base : Nat} {v : Value} {B : List UInt8} {src dst e : TypeId} (hs : P.underlying src = some (.slice e)) (he : P.underlying e = some (.int .u8)) (hd : P.underlying dst = some .string)
    (h : w.ownsRow base e 1 v B.length (byteCells B)) : (convert src dst v).run P w = .ok (.string ⟨B.toArray⟩) w := by
  rcases h.2 with ⟨rfl, h0⟩ | ⟨g, cap, cur, rfl, _⟩
  · have : B = [] := List.eq_nil_of_length_eq_zero h0
    subst this
    exact run_convert_bytes_nil _ src e hs he 0 0 dst hd
  · refine run_convert_bytes_back w src dst e ⟨g, 0, none⟩ cap B hs he hd fun j hj => ?_
    have := own_cel h (j := j) (u := .int .u8 (B[j].toNat : Int)) (by unfold byteCells; rw [List.getElem?_map, List.getElem?_eq_getElem hj]; rfl)
    rw [Addr.add_lit, Nat.zero_add]
    exact this.1
theorem utf8_info : (Tryd.prog.info? 5).map (fun i => (i.zero, i.size, i.bytes)) = some (some (.int .u8 0), 1, 1) := by kernel_rfl
end Go.Proofs.YtimhlnndobfehaaDoor
namespace Go.Proofs.YtimhlnndobfehaaDoor
open Go.RowKit Go.Lib
set_option linter.unusedVariables false

/-- All blocks stand but the iterator's, the block it; and all rows of cells. -/
structure CellsKept (it : Nat) (w w' : World) : Prop where
  os : w'.os = w.os
  tape : w'.tape = w.tape
  output : w'.output = w.output
  size : w.heap.size ≤ w'.heap.size
  block : ∀ k, k < w.heap.size → k ≠ it → w'.heap[k]? = w.heap[k]?
  row : ∀ (k : Nat) (c : Array Value) (t : TypeId) (fr : Nat × Nat), w.heap[k]? = some (Obj.cells c t fr) → w'.heap[k]? = some (Obj.cells c t fr)
section
variable {it : Nat}
theorem CellsKept.refl (it : Nat) (w : World) : CellsKept it w w := ⟨rfl, rfl, rfl, Nat.le_refl _, fun _ _ _ => rfl, fun _ _ _ _ h => h⟩
theorem CellsKept.trans {a b c : World} (h : CellsKept it a b) (k : CellsKept it b c) : CellsKept it a c :=
  ⟨k.os.trans h.os, k.tape.trans h.tape, k.output.trans h.output, Nat.le_trans h.size k.size, fun i hi hn => (k.block i (Nat.lt_of_lt_of_le hi h.size) hn).trans (h.block i hi hn), fun i x t fr hh => k.row i x t fr (h.row i x t fr hh)⟩
theorem CellsKept.of_below {w w' : World} (h : Below w.heap.size w w') : CellsKept it w w' := ⟨h.os, h.tape, h.output, h.size, fun k hk _ => h.block k hk, fun k c t fr hk => (h.block k (Array.getElem?_eq_some_iff.1 hk).1).trans hk⟩
theorem CellsKept.alloc {w w' : World} (h : CellsKept it w w') (o : Obj) : CellsKept it w (w'.alloc o) := h.trans (.of_below ((Below.refl _ _).alloc (Nat.le_refl _) _))
theorem CellsKept.iterAt {w w' : World} {pos : Nat} {s : ByteArray} (h : CellsKept it w w') (hk : w'.heap[it]? = some (.stringIter s pos)) (pos' : Nat) : CellsKept it w (w'.iterAt it s pos') :=
  h.trans ⟨rfl, rfl, rfl, by rw [iterAt_size]; exact Nat.le_refl _, fun i _ e => iterAt_other w' it i s pos' e, fun i c t fr hi => by
    by_cases e : i = it
    · subst e
      rw [hk] at hi
      cases hi
    · rw [iterAt_other w' it i s pos' e]
      exact hi⟩
theorem CellsKept.below {B : Nat} {w wa wb : World} (h : Below B w wa) (hk : CellsKept it wa wb) (hB : B ≤ it) (hw : B ≤ wa.heap.size) : Below B w wb :=
  ⟨hk.os.trans h.os, hk.tape.trans h.tape, hk.output.trans h.output, Nat.le_trans h.size hk.size, fun k hk' => (hk.block k (by omega) (by omega)).trans (h.block k hk')⟩
theorem CellsKept.setCell {w w' : World} (h : CellsKept it w w') {p : Addr} (hp : w.heap.size ≤ p.block) (u : Value) : CellsKept it w (w'.setCell p u) :=
  ⟨h.os, h.tape, h.output, by simpa using h.size, fun k hk hn => (Below.heap_setCell w' p u k (by omega)).trans (h.block k hk hn), fun k c t fr hk => (Below.heap_setCell w' p u k (by have := (Array.getElem?_eq_some_iff.1 hk).1; omega)).trans (h.row k c t fr hk)⟩
theorem CellsKept.hrow {w w' : World} (h : CellsKept it w w') {g : Nat} {t : TypeId} {l : List Value} (hr : Row w g t l) : Row w' g t l := h.row _ _ _ _ hr
theorem CellsKept.own {w w' : World} {base sz n : Nat} {e : TypeId} {v : Value} {xs : List Value} (hk : CellsKept it w w') (h : w.ownsRow base e sz v n xs) : w'.ownsRow base e sz v n xs := by
  refine ⟨h.1, ?_⟩
  rcases h.2 with hn | ⟨g, cap, cur, rfl, hbg, hgg, rest⟩
  · exact .inl hn
  · exact .inr ⟨g, cap, cur, rfl, hbg, hk.row _ _ _ _ hgg, rest⟩
theorem CellsKept.cell {w w' : World} (h : CellsKept it w w') {a : Addr} {v : Value} (hc : w.cell? a = some v) : w'.cell? a = some v := by
  cases hb : w.heap[a.block]? with
  | none => simp [World.cell?, hb] at hc
  | some o =>
    cases o with
    | cells c t fr =>
      unfold World.cell? at hc ⊢
      rw [hb] at hc
      rw [h.row _ _ _ _ hb]
      exact hc
    | _ => simp [World.cell?, hb] at hc
theorem CellsKept.tabs {w w' : World} (hb : CellsKept it w w') (h : Utf8Tabs 0 1 w) : Utf8Tabs 0 1 w' :=
  ⟨fun c hc => hb.cell (h.1 c hc), fun i hi => ⟨hb.cell (h.2 i hi).1, hb.cell (h.2 i hi).2⟩⟩

end

/-- What the called function value (f, with one captured place b) holds to: I of what it was given so far, J where it has said no. -/
structure EachOk (s : ByteArray) (it : Nat) (f : FuncId) (b : Nat) (I J : List Pc → World → Prop) : Prop where
  tabs : ∀ l wa, I l wa → Utf8Tabs 0 1 wa ∧ it ≤ wa.heap.size
  keep : ∀ l wa wb, I l wa → CellsKept it wa wb → I l wb
  call : ∀ l p r wa, pcs s = l ++ p :: r → I l wa → it < wa.heap.size → Calls Tryd.prog f #[vPc p, .pointer (some ⟨b, 0, none⟩)] wa fun e w' =>
    ((e = .returned (.bool true) ∧ I (l ++ [p]) w') ∨ (e = .returned (.bool false) ∧ J (l ++ [p]) w')) ∧ ∀ pos, wa.heap[it]? = some (.stringIter s pos) → w'.heap[it]? = some (.stringIter s pos)

def EachOut (s : ByteArray) (I J : List Pc → World → Prop) (e : Ending) (w' : World) : Prop :=
  e = .returned (.tuple #[]) ∧ (I (pcs s) w' ∨ ∃ l p r, pcs s = l ++ p :: r ∧ J (l ++ [p]) w')
def EachSt (s : ByteArray) (it : Nat) (I : List Pc → World → Prop) (wr : World) : Prop :=
  ∃ pos l, pos ≤ s.size ∧ pcs s = l ++ pcsFrom s pos ∧ I l wr ∧ wr.heap[it]? = some (.stringIter s pos)

end Go.Proofs.YtimhlnndobfehaaDoor
