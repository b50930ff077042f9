/- Syllables: plain law, and spans in memory. -/
import Derived.Test.YtfjccjjdgbkbiaaDoorWr21
namespace Go.Proofs.YtfjccjjdgbkbiaaDoor
open Go.RowKit
set_option linter.unusedVariables false

/-- Where the i-th syllable begins. -/
def bnd (p : List Nat) (i : Nat) : Nat := if i = 0 then 0 else max (p.getD i 0 - 1) (p.getD (i - 1) 0 + 1)
def cutL (p : List Nat) (i : Nat) : List (Nat × Nat) := (List.range i).map fun j => (bnd p j, bnd p (j + 1))
def spansL (p : List Nat) (n : Nat) : List (Nat × Nat) := if p.length = 0 then [] else cutL p (p.length - 1) ++ [(bnd p (p.length - 1), n)]
/-- A word's syllables, and the error. -/
def sylS (a : Al) (s : ByteArray) (p m : Nat) : List (Nat × Nat) × Int := if (peaksS a s p m).2 ≠ 0 then ([], (peaksS a s p m).2) else (spansL (peaksS a s p m).1 (lettersS a s).1.length, 0)
theorem cutL_succ (p : List Nat) (k : Nat) : cutL p (k + 1) = cutL p k ++ [(bnd p k, bnd p (k + 1))] := by
  unfold cutL
  rw [List.range_succ, List.map_append]
  rfl
theorem cutL_len (p : List Nat) (k : Nat) : (cutL p k).length = k := by unfold cutL; simp
theorem bnd_zero (p : List Nat) : bnd p 0 = 0 := rfl
theorem bnd_succ (p : List Nat) (k : Nat) (h : k + 1 < p.length) : bnd p (k + 1) = max (p[k + 1] - 1) (p[k] + 1) := by
  unfold bnd
  rw [if_neg (by omega), List.getD_eq_getElem?_getD, List.getD_eq_getElem?_getD, List.getElem?_eq_getElem h, Nat.add_sub_cancel, List.getElem?_eq_getElem (by omega)]
  rfl
theorem placesOf_up (f : Int → Bool) (l : List Int) : (placesOf f l).Pairwise (· < ·) ∧ ∀ x ∈ placesOf f l, x < l.length := by
  unfold placesOf
  exact ⟨List.Pairwise.filter _ (List.pairwise_lt_range), fun x hx => List.mem_range.1 (List.mem_filter.1 hx).1⟩
theorem peaks_up (a : Al) (s : ByteArray) (p m : Nat) : (peaksS a s p m).1.Pairwise (· < ·) ∧ (∀ x ∈ (peaksS a s p m).1, x < 64) ∧ (peaksS a s p m).1.length ≤ 64 := by
  unfold peaksS
  have h := letters_len a s
  split
  · exact ⟨List.Pairwise.nil, fun x hx => by simp at hx, by simp⟩
  · split
    · exact ⟨List.Pairwise.nil, fun x hx => by simp at hx, by simp⟩
    · have h1 := placesOf_up (fun x => (classS a p m).1.contains x) (lettersS a s).1
      have h2 := placesOf_len (fun x => (classS a p m).1.contains x) (lettersS a s).1
      exact ⟨h1.1, fun x hx => by have := h1.2 x hx; omega, by simp only; omega⟩
theorem peaks_err (a : Al) (s : ByteArray) (p m : Nat) : ((peaksS a s p m).2 = 0 ∧ (lettersS a s).2 = 0) ∨ ((peaksS a s p m).2 ≠ 0 ∧ (peaksS a s p m).1 = [] ∧ 1 ≤ (peaksS a s p m).2 ∧ (peaksS a s p m).2 ≤ 20) := by
  unfold peaksS
  have h := letters_err a s
  have h2 := class_err a p m
  by_cases e1 : (lettersS a s).2 ≠ 0
  · rw [if_pos e1]
    exact .inr ⟨e1, rfl, by simp only; omega, by simp only; omega⟩
  · rw [if_neg e1]
    by_cases e2 : (classS a p m).2 ≠ 0
    · rw [if_pos e2]
      exact .inr ⟨e2, rfl, by simp only; omega, by simp only; omega⟩
    · rw [if_neg e2]
      exact .inl ⟨rfl, by omega⟩
theorem readP_len (isL : Int → Bool) (most : Nat) : ∀ (l : List Pc) (acc : List Int), (readP isL most l acc).2 = 0 → (readP isL most l acc).1.length = acc.length + l.length
  | [], acc, h => by simp [readP]
  | y :: r, acc, h => by
    unfold readP at h ⊢
    split at h
    · simp at h
    · rename_i h1
      rw [if_neg h1]
      split at h
      · simp at h
      · rename_i h2
        rw [if_neg h2]
        split at h
        · simp at h
        · rename_i h3
          rw [if_neg h3, readP_len isL most r _ h]
          simp only [List.length_append, List.length_cons, List.length_nil]
          omega
theorem letters_count {a : Al} {s : ByteArray} (h : (lettersS a s).2 = 0) : (pcs s).length = (lettersS a s).1.length := by
  unfold lettersS at h ⊢
  by_cases h1 : alOk a = true
  · rw [if_pos h1] at h ⊢
    have := readP_len (isLet a) 64 (pcs s) [] h
    unfold readS
    rw [this]
    simp
  · rw [if_neg h1] at h
    simp at h
theorem placeOf_four (s : ByteArray) : ∀ (k i : Nat), placeOf s i k ≤ i + 4 * k
  | 0, i => by rw [placeOf_zero]; omega
  | k + 1, i => by
    by_cases h : i < s.size
    · rw [placeOf_succ s i k h]
      have := placeOf_four s k (i + (Utf8.decode s i).2)
      have := decode_width s i h
      omega
    · rw [placeOf_end s i _ (by omega)]
      omega
theorem letters_size {a : Al} {s : ByteArray} (h : (lettersS a s).2 = 0) : s.size ≤ 256 := by
  have h1 := placeOf_all s 0 (by omega)
  have h2 := placeOf_four s (pcsFrom s 0).length 0
  have h3 := letters_count h
  have h4 := letters_len a s
  have h5 : (pcsFrom s 0).length = (pcs s).length := rfl
  omega

/-! ### spans in memory -/
def spCells (x : Nat × Nat) : List Value := [.int .i64 (x.1 : Int), .int .i64 (x.2 : Int)]
def spVs (l : List (Nat × Nat)) : List Value := l.flatMap spCells
theorem spVs_append (l r : List (Nat × Nat)) : spVs (l ++ r) = spVs l ++ spVs r := by unfold spVs; rw [List.flatMap_append]
theorem spVs_one (x : Nat × Nat) : spVs [x] = spCells x := by unfold spVs; simp
theorem spVs_len (l : List (Nat × Nat)) : (spVs l).length = l.length * 2 := by
  unfold spVs
  induction l with
  | nil => rfl
  | cons x l ih =>
    rw [List.flatMap_cons, List.length_append, ih, List.length_cons]
    show 2 + _ = _
    omega
theorem span_info : (Tryd.prog.info? 48).map (fun i => (i.zero, i.size, i.bytes)) = some (some (.agg #[.int .i64 0, .int .i64 0]), 2, 16) := by kernel_rfl
def SpansOut (r : List (Nat × Nat) × Int) (W : World) (e : Ending) (w' : World) : Prop :=
  ∃ A c, e = .returned (.tuple #[.slice A r.1.length c, .int .i64 r.2]) ∧ w'.ownsRow W.heap.size 48 2 (.slice A r.1.length c) r.1.length (spVs r.1) ∧ Below W.heap.size W w'
theorem SpansOut.no {r : List (Nat × Nat) × Int} {E : Int} {W w' : World} (h : r = ([], E)) (hb : Below W.heap.size W w') : SpansOut r W (.returned (.tuple #[.slice none 0 0, .int .i64 E])) w' := by
  subst h
  exact ⟨none, 0, rfl, World.ownsRow_nil _ _ _ _, hb⟩
/-- A number of a row of the call's own. -/
theorem own_int {w : World} {base c k : Nat} {A : Option Addr} {l : List Nat} (h : w.ownsRow base 3 1 (.slice A l.length c) l.length (intVs l)) (hk : k < l.length) :
    ∃ g, A = some ⟨g, 0, none⟩ ∧ base ≤ g ∧ g < w.heap.size ∧ Cel w g k (.int .i64 (l[k] : Int)) := by
  obtain ⟨g, c', e, _, _, h1, h2⟩ := own_pos h (by omega)
  injection e with e1 _ e2
  subst e1 e2
  exact ⟨g, rfl, h1, h2, own_cel h (by unfold intVs; rw [List.getElem?_map, List.getElem?_eq_getElem hk]; rfl)⟩
end Go.Proofs.YtfjccjjdgbkbiaaDoor
