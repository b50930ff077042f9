/- A block that is known whole, as a list of cells. -/
import Derived.Test.YtfjccjjdgbkbiaaDoorMem
namespace Go.Proofs.YtfjccjjdgbkbiaaDoor
open Go.RowKit
set_option linter.unusedVariables false

def Row (w : World) (g : Nat) (t : TypeId) (l : List Value) : Prop := w.heap[g]? = some (.cells l.toArray t (0, 0))

section
variable {w w' : World} {g : Nat} {t : TypeId} {l : List Value}
theorem Row.lt (h : Row w g t l) : g < w.heap.size := (Array.getElem?_eq_some_iff.1 h).1
theorem Row.cel (h : Row w g t l) {i : Nat} {v : Value} (hi : l[i]? = some v) : Cel w g i v := by
  unfold Row at h
  constructor
  · simp [World.cell?, h, hi]
  · simp [World.frozen?, h]
theorem Row.new (w : World) (t : TypeId) (l : List Value) : Row (w.alloc (.cells l.toArray t)) w.heap.size t l := heap_alloc_new w _
theorem Row.set_ (h : Row w g t l) (i : Nat) (u : Value) : Row (w.setCell ⟨g, i, none⟩ u) g t (l.set i u) := by
  unfold Row at h ⊢
  simp [World.setCell, Array.getElem?_modify, h]
theorem Row.far (h : Row w g t l) {p : Addr} (hp : g ≠ p.block) (u : Value) : Row (w.setCell p u) g t l := (Below.heap_setCell w p u g hp).trans h
theorem Row.alloc (h : Row w g t l) (o : Obj) : Row (w.alloc o) g t l := (Below.heap_alloc w o g h.lt).trans h
theorem Row.drewN (h : Row w g t l) (n : Nat) : Row (w.drewN n) g t l := h
theorem Row.drew (h : Row w g t l) : Row w.drew g t l := h
theorem Row.below {B : Nat} (h : Row w g t l) (hb : Below B w w') (hg : g < B) : Row w' g t l := (hb.block g hg).trans h
theorem Row.grown {row : Option Nat} (h : Row w g t l) (hb : w.grownBy w' row) (hg : some g ≠ row) : Row w' g t l := (hb.block g h.lt hg).trans h
theorem Row.of_own {base n c : Nat} {xs : List Value} (h : w.ownsRow base t 1 (.slice (some ⟨g, 0, none⟩) n n) n xs) : Row w g t xs := by
  rcases h.2 with ⟨hv, _⟩ | ⟨g', cap, cur, hv, _, hh, _, _, hs, ht⟩
  · cases hv
  · injection hv with h1 h2 h3
    injection h1 with h1
    injection h1 with h1
    subst h1 h3
    have : cur = xs.toArray := by
      rw [← ht, List.take_of_length_le (by rw [Array.length_toList]; omega)]
    unfold Row
    rw [hh, this]
theorem Row.slo {α : Type} {V : Rep α} {xs : List α} {lo hi : Nat} (h : Row w g t l) (o : Nat) (hl : l.length = o + xs.length) (h1 : lo ≤ g) (h2 : g < hi) (hv : ∀ (i : Nat) (x : α) (v : Value), xs[i]? = some x → l[o + i]? = some v → V w lo hi [v] x) :
    Sl 1 V w lo hi (some ⟨g, o, none⟩) xs := fun _ => by
  refine ⟨g, o, rfl, h1, h2, fun i x hx => ?_⟩
  have hi' : o + i < l.length := by rw [hl]; have := (List.getElem?_eq_some_iff.1 hx).1; omega
  refine ⟨[l[o + i]], rfl, fun j v hj => ?_, hv i x _ hx (List.getElem?_eq_getElem hi')⟩
  match j, hj with
  | 0, hj =>
    simp only [List.getElem?_cons_zero, Option.some.injEq] at hj
    subst hj
    have := h.cel (List.getElem?_eq_getElem hi')
    simpa using this
theorem Row.bools_tail {xs : List Bool} (h : Row w g t (xs.map Value.bool)) (hn : 1 ≤ xs.length) : Sl 1 vBool w g (g + 1) (some ⟨g, 1, none⟩) xs.tail := by
  refine h.slo 1 (by rw [List.length_map, List.length_tail]; omega) (Nat.le_refl _) (by omega) (fun i x v hx hv => ?_)
  rw [List.getElem?_tail, Nat.add_comm] at hx
  rw [List.getElem?_map, hx] at hv
  simp only [Option.map_some, Option.some.injEq] at hv
  subst hv
  rfl
/-- A row's cells as a slice's data. -/
theorem Row.sl {α : Type} {V : Rep α} {xs : List α} {lo hi : Nat} (h : Row w g t l) (hl : l.length = xs.length) (h1 : lo ≤ g) (h2 : g < hi) (hv : ∀ (i : Nat) (x : α) (v : Value), xs[i]? = some x → l[i]? = some v → V w lo hi [v] x) :
    Sl 1 V w lo hi (some ⟨g, 0, none⟩) xs := fun _ => by
  refine ⟨g, 0, rfl, h1, h2, fun i x hx => ?_⟩
  have hi' : i < l.length := by rw [hl]; exact (List.getElem?_eq_some_iff.1 hx).1
  refine ⟨[l[i]], rfl, fun j v hj => ?_, hv i x _ hx (List.getElem?_eq_getElem hi')⟩
  match j, hj with
  | 0, hj =>
    simp only [List.getElem?_cons_zero, Option.some.injEq] at hj
    subst hj
    have := h.cel (List.getElem?_eq_getElem hi')
    simpa using this
end

/-- The n-th integer of a slice of integers. -/
theorem ints_at {k : IntKind} {w : World} {lo hi i : Nat} {A : Option Addr} {l : List Int} (h : Sl 1 (vInt k) w lo hi A l) (hi' : i < l.length) :
    ∃ b off, A = some ⟨b, off, none⟩ ∧ lo ≤ b ∧ b < hi ∧ Cel w b (off + i) (.int k l[i]) ∧ kin k l[i] := by
  obtain ⟨b, off, cs, e, h1, h2, _, h4, h5, h6⟩ := h.at_ hi'
  subst h5
  have := h4 0 _ rfl
  simp only [Nat.mul_one, Nat.add_zero] at this
  exact ⟨b, off, e, h1, h2, this, h6⟩
theorem bools_at {w : World} {lo hi i : Nat} {A : Option Addr} {l : List Bool} (h : Sl 1 vBool w lo hi A l) (hi' : i < l.length) :
    ∃ b off, A = some ⟨b, off, none⟩ ∧ lo ≤ b ∧ b < hi ∧ Cel w b (off + i) (.bool l[i]) := by
  obtain ⟨b, off, cs, e, h1, h2, _, h4, h5⟩ := h.at_ hi'
  unfold vBool at h5
  subst h5
  have := h4 0 _ rfl
  simp only [Nat.mul_one, Nat.add_zero] at this
  exact ⟨b, off, e, h1, h2, this⟩
theorem strs_at {w : World} {lo hi i : Nat} {A : Option Addr} {l : List ByteArray} (h : Sl 1 vStr w lo hi A l) (hi' : i < l.length) :
    ∃ b off, A = some ⟨b, off, none⟩ ∧ lo ≤ b ∧ b < hi ∧ Cel w b (off + i) (.string l[i]) ∧ l[i].size ≤ maxLen := by
  obtain ⟨b, off, cs, e, h1, h2, _, h4, h5, h6⟩ := h.at_ hi'
  subst h5
  have := h4 0 _ rfl
  simp only [Nat.mul_one, Nat.add_zero] at this
  exact ⟨b, off, e, h1, h2, this, h6⟩
theorem kin_i64 {n : Int} (h : kin .i64 n) : -9223372036854775808 ≤ n ∧ n ≤ 9223372036854775807 := by simpa [kin, Lit.wf, IntKind.min, IntKind.max, IntKind.signed, IntKind.bits] using h
theorem kin_i32 {n : Int} (h : kin .i32 n) : -2147483648 ≤ n ∧ n ≤ 2147483647 := by simpa [kin, Lit.wf, IntKind.min, IntKind.max, IntKind.signed, IntKind.bits] using h
theorem kin_u32 {n : Int} (h : kin .u32 n) : 0 ≤ n ∧ n ≤ 4294967295 := by simpa [kin, Lit.wf, IntKind.min, IntKind.max, IntKind.signed, IntKind.bits] using h
theorem kin_u8 {n : Int} (h : kin .u8 n) : 0 ≤ n ∧ n ≤ 255 := by simpa [kin, Lit.wf, IntKind.min, IntKind.max, IntKind.signed, IntKind.bits] using h
theorem kin_mk64 {n : Int} (h : -9223372036854775808 ≤ n ∧ n ≤ 9223372036854775807) : kin .i64 n := by simpa [kin, Lit.wf, IntKind.min, IntKind.max, IntKind.signed, IntKind.bits] using h
end Go.Proofs.YtfjccjjdgbkbiaaDoor
