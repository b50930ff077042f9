/- Words for memory: what lies in cells, by blocks between lo and hi; it stays while these blocks stay. -/
import Derived.WalkKit
import Derived.ProofKit
import Derived.OpenShut
import Derived.JoinedCond
import Derived.Handy
import Derived.Lib.Hide
import Derived.Deep.QuietTactic
import Derived.BigQuiet
import Derived.WalkLawsBesides
import Derived.WalkSpells
namespace Go.Proofs.YtfjccjjdgbkbiaaDoor
open Go.RowKit
set_option linter.unusedVariables false

/-- Blocks from lo on and below hi are as they were. -/
def Kp (lo hi : Nat) (w w' : World) : Prop := ∀ k, lo ≤ k → k < hi → w'.heap[k]? = w.heap[k]?

theorem Kp.of_below {lo hi : Nat} {w w' : World} (h : Below hi w w') : Kp lo hi w w' := fun k _ hk => h.block k hk
theorem Kp.refl (lo hi : Nat) (w : World) : Kp lo hi w w := fun _ _ _ => rfl
theorem Kp.trans {lo hi : Nat} {a b c : World} (h : Kp lo hi a b) (k : Kp lo hi b c) : Kp lo hi a c := fun i h1 h2 => (k i h1 h2).trans (h i h1 h2)
theorem Kp.mono {lo hi lo' hi' : Nat} {w w' : World} (h : Kp lo hi w w') (h1 : lo ≤ lo') (h2 : hi' ≤ hi) : Kp lo' hi' w w' := fun k a b => h k (by omega) (by omega)

theorem Kp.cell {lo hi : Nat} {w w' : World} (h : Kp lo hi w w') {b o : Nat} (h1 : lo ≤ b) (h2 : b < hi) : w'.cell? ⟨b, o, none⟩ = w.cell? ⟨b, o, none⟩ :=
  World.cell?_of_block (a := ⟨b, o, none⟩) (h b h1 h2)
theorem Kp.frozen {lo hi : Nat} {w w' : World} (h : Kp lo hi w w') {b o : Nat} (h1 : lo ≤ b) (h2 : b < hi) : w'.frozen? ⟨b, o, none⟩ = w.frozen? ⟨b, o, none⟩ :=
  World.frozen?_of_block (a := ⟨b, o, none⟩) (h b h1 h2)

/-- A cell that may be written holds v. -/
def Cel (w : World) (b o : Nat) (v : Value) : Prop := w.cell? ⟨b, o, none⟩ = some v ∧ w.frozen? ⟨b, o, none⟩ = false
theorem Cel.keep {lo hi : Nat} {w w' : World} (k : Kp lo hi w w') {b o : Nat} {v : Value} (h1 : lo ≤ b) (h2 : b < hi) (h : Cel w b o v) : Cel w' b o v :=
  ⟨(k.cell h1 h2).trans h.1, (k.frozen h1 h2).trans h.2⟩

/-- How a datum lies in a list of cells: the world, the bounds of the blocks that it reaches, the cells. -/
abbrev Rep (α : Type) := World → Nat → Nat → List Value → α → Prop

structure Rep.Good {α : Type} (V : Rep α) : Prop where
  keep : ∀ {w w' : World} {lo hi : Nat} {cs : List Value} {x : α}, Kp lo hi w w' → V w lo hi cs x → V w' lo hi cs x
  wide : ∀ {w : World} {lo hi lo' hi' : Nat} {cs : List Value} {x : α}, lo' ≤ lo → hi ≤ hi' → V w lo hi cs x → V w lo' hi' cs x

def kin (k : IntKind) (n : Int) : Prop := (Lit.int k n).wf = true
def vInt (k : IntKind) : Rep Int := fun _ _ _ cs n => cs = [.int k n] ∧ kin k n
def vBool : Rep Bool := fun _ _ _ cs x => cs = [.bool x]
def vStr : Rep ByteArray := fun _ _ _ cs s => cs = [.string s] ∧ s.size ≤ maxLen
theorem vInt_good (k : IntKind) : (vInt k).Good := ⟨fun _ h => h, fun _ _ h => h⟩
theorem vBool_good : vBool.Good := ⟨fun _ h => h, fun _ _ h => h⟩
theorem vStr_good : vStr.Good := ⟨fun _ h => h, fun _ _ h => h⟩

/-- The cells cs lie in block b from o on, and may be written. -/
def Cels (w : World) (b o : Nat) (cs : List Value) : Prop := ∀ j v, cs[j]? = some v → Cel w b (o + j) v
theorem Cels.keep {lo hi : Nat} {w w' : World} (k : Kp lo hi w w') {b o : Nat} {cs : List Value} (h1 : lo ≤ b) (h2 : b < hi) (h : Cels w b o cs) : Cels w' b o cs :=
  fun j v hj => (h j v hj).keep k h1 h2

/-- A slice's address A and elements xs (each of sz cells, by V): blocks from lo on and below hi. -/
def Sl {α : Type} (sz : Nat) (V : Rep α) (w : World) (lo hi : Nat) (A : Option Addr) (xs : List α) : Prop :=
  0 < xs.length → ∃ b off, A = some ⟨b, off, none⟩ ∧ lo ≤ b ∧ b < hi ∧ ∀ i x, xs[i]? = some x → ∃ cs, cs.length = sz ∧ Cels w b (off + i * sz) cs ∧ V w lo hi cs x

section
variable {α : Type} {sz : Nat} {V : Rep α} {w w' : World} {lo hi : Nat} {A : Option Addr} {xs : List α}
theorem Sl.nil (A : Option Addr) : Sl sz V w lo hi A [] := fun h => absurd h (by simp)
theorem Sl.keep (g : V.Good) (k : Kp lo hi w w') (h : Sl sz V w lo hi A xs) : Sl sz V w' lo hi A xs := fun hn => by
  obtain ⟨b, off, e, h1, h2, hc⟩ := h hn
  refine ⟨b, off, e, h1, h2, fun i x hx => ?_⟩
  obtain ⟨cs, h3, h4, h5⟩ := hc i x hx
  exact ⟨cs, h3, h4.keep k h1 h2, g.keep k h5⟩
theorem Sl.wide {lo' hi' : Nat} (g : V.Good) (h1 : lo' ≤ lo) (h2 : hi ≤ hi') (h : Sl sz V w lo hi A xs) : Sl sz V w lo' hi' A xs := fun hn => by
  obtain ⟨b, off, e, h3, h4, hc⟩ := h hn
  refine ⟨b, off, e, by omega, by omega, fun i x hx => ?_⟩
  obtain ⟨cs, h3, h4, h5⟩ := hc i x hx
  exact ⟨cs, h3, h4, g.wide h1 h2 h5⟩
theorem Sl.below {hi' : Nat} (g : V.Good) (hb : Below hi' w w') (h2 : hi ≤ hi') (h : Sl sz V w lo hi A xs) : Sl sz V w' lo hi A xs :=
  h.keep g ((Kp.of_below hb).mono (Nat.le_refl _) h2)
theorem Sl.drewN (h : Sl sz V w lo hi A xs) (g : V.Good) (n : Nat) : Sl sz V (w.drewN n) lo hi A xs := Sl.keep (w := w) g (fun _ _ _ => rfl) h
/-- The element with the number i. -/
theorem Sl.at_ {i : Nat} (h : Sl sz V w lo hi A xs) (hi' : i < xs.length) : ∃ b off cs, A = some ⟨b, off, none⟩ ∧ lo ≤ b ∧ b < hi ∧ cs.length = sz ∧ Cels w b (off + i * sz) cs ∧ V w lo hi cs xs[i] := by
  obtain ⟨b, off, e, h1, h2, hc⟩ := h (by omega)
  obtain ⟨cs, h3, h4, h5⟩ := hc i _ (List.getElem?_eq_getElem hi')
  exact ⟨b, off, cs, e, h1, h2, h3, h4, h5⟩
end

/-- A cell that is a slice with elements by V. -/
def vSl {α : Type} (sz : Nat) (V : Rep α) : Rep (List α) := fun w lo hi cs xs => ∃ A c, cs = [.slice A xs.length c] ∧ xs.length ≤ c ∧ c ≤ maxLen ∧ Sl sz V w lo hi A xs
theorem vSl_good {α : Type} {sz : Nat} {V : Rep α} (g : V.Good) : (vSl sz V).Good :=
  ⟨fun k ⟨A, c, hc, hn, hm, hs⟩ => ⟨A, c, hc, hn, hm, hs.keep g k⟩, fun h1 h2 ⟨A, c, hc, hn, hm, hs⟩ => ⟨A, c, hc, hn, hm, hs.wide g h1 h2⟩⟩

theorem below_drewN {B : Nat} {a w : World} (h : Below B a w) (n : Nat) : Below B a (w.drewN n) := ⟨h.os, h.tape, h.output, h.size, h.block⟩
theorem below_iter {B : Nat} {a w : World} (h : Below B a w) (hB : B ≤ w.heap.size) (s : ByteArray) (p : Nat) : Below B a (w.iter s p) := h.alloc hB _
theorem calls_flip {P : Program} {f : FuncId} {args : Array Value} {w : World} {v : Value} (h : Calls P f args w fun e w' => e = .returned v ∧ w' = w) : Calls P f args w fun e w' => e = .returned v ∧ w = w' :=
  h.mono fun _ _ ⟨a, b⟩ => ⟨a, b.symm⟩
theorem ret_of {k : IntKind} {a b : Int} (h : a = b) : Ending.returned (.int k a) = .returned (.int k b) := by rw [h]
theorem retb_of {a b : Bool} (h : a = b) : Ending.returned (.bool a) = .returned (.bool b) := by rw [h]
theorem bcell {B : Nat} {W w1 : World} (hb : Below B W w1) : (∀ b o, b < B → w1.cell? ⟨b, o, none⟩ = W.cell? ⟨b, o, none⟩) ∧ (∀ b o, b < B → w1.frozen? ⟨b, o, none⟩ = W.frozen? ⟨b, o, none⟩) :=
  ⟨fun b o h => hb.cell (p := ⟨b, o, none⟩) h, fun b o h => hb.frozen (p := ⟨b, o, none⟩) h⟩
end Go.Proofs.YtfjccjjdgbkbiaaDoor
