/- slices.Clone and slices.Reverse of integers. -/
import Derived.Test.YtlanjpickjndlaaOwn
import Derived.Test.YtlanjpickjndlaaShelf
namespace Go.Proofs.Ytlanjpickjndlaa
open Go.RowKit
set_option linter.unusedVariables false

theorem own_setCells {base sz n g : Nat} {e : TypeId} {v : Value} (hg : v.ownBlock = some g) : ∀ (rest pre old : List Value) (w : World), old.length = rest.length → w.ownsRow base e sz v n (pre ++ old) → (w.setCells g pre.length rest).ownsRow base e sz v n (pre ++ rest)
  | [], pre, [], w, _, h => by simpa [World.setCells] using h
  | r :: rest, pre, o :: old, w, hl, h => by
    have h1 := own_set h hg (j := pre.length) (by simp) r
    rw [List.set_append_right _ _ (Nat.le_refl _), Nat.sub_self, List.set_cons_zero] at h1
    have h2 := own_setCells hg rest (pre ++ [r]) old _ (by simpa using hl) (by simpa using h1)
    simpa [World.setCells, List.length_append] using h2

theorem clone_int {A : Option Addr} {c lo hi : Nat} {xs : List Int} {w : World} (hsl : Sl 1 (vInt .i64) w lo hi A xs) (hn : xs.length * 8 ≤ 140737488355328) :
    Calls Try.prog 39 #[.slice A xs.length c] w fun e w' => ∃ v', e = .returned v' ∧ w'.ownsRow w.heap.size 3 1 v' xs.length (xs.map (Value.int .i64)) ∧ Below w.heap.size w w' := by
  rcases Nat.eq_zero_or_pos xs.length with h0 | h0
  · have hx : xs = [] := List.eq_nil_of_length_eq_zero h0
    subst hx
    cases A with
    | none =>
      refine (Try.slices_Clone_int_nil 0 c w).mono ?_
      rintro e w' ⟨rfl, rfl⟩
      exact ⟨_, rfl, World.ownsRow_nil _ _ _ _, Below.refl _ _⟩
    | some a =>
      refine (Try.slices_Clone_int_zero a c w).mono ?_
      rintro e w' ⟨v', rfl, h1, _, h2⟩
      exact ⟨_, rfl, h1, h2⟩
  · obtain ⟨b, off, rfl, _⟩ := hsl h0
    refine (Try.slices_Clone_int b off xs.length c xs w (Nat.le_refl _) hn (fun j hj => ?_)).mono ?_
    · obtain ⟨b', off', e, _, _, hc, _⟩ := ints_at hsl hj
      injection e with e
      injection e with e1 e2
      subst e1 e2
      rw [hc.1, List.getD_eq_getElem?_getD, List.getElem?_eq_getElem hj]
      rfl
    · rintro e w' ⟨v', rfl, h1, _, h2⟩
      rw [List.take_of_length_le (Nat.le_refl _)] at h1
      exact ⟨_, rfl, h1, h2⟩

theorem reverse_int {base : Nat} {v : Value} {xs : List Int} {w : World} (h : w.ownsRow base 3 1 v xs.length (xs.map (Value.int .i64))) (hn : xs.length ≤ maxLen) :
    Calls Try.prog 40 #[v] w fun e w' => e = .returned (.tuple #[]) ∧ w'.ownsRow base 3 1 v xs.length (xs.reverse.map (Value.int .i64)) ∧ Fr (fun k => v.ownBlock = some k) w w' := by
  rcases Nat.eq_zero_or_pos xs.length with h0 | h0
  · have hx : xs = [] := List.eq_nil_of_length_eq_zero h0
    subst hx
    obtain ⟨A, c, rfl, _, _⟩ := own_form h
    refine (Try.slices_Reverse_int_empty A c w).mono ?_
    rintro e w' ⟨rfl, rfl⟩
    exact ⟨rfl, h, Fr.refl _ _⟩
  · obtain ⟨g, c, rfl, h1, h2, h3, h4⟩ := own_pos h h0
    refine (Try.slices_Reverse_int_cells g 0 xs.length c xs w (Nat.le_refl _) (by unfold maxLen at hn; omega) (fun j hj => ?_) (fun j hj => ?_)).mono ?_
    · rw [Nat.zero_add]
      refine (own_cel h ?_).1
      rw [List.getElem?_map, List.getD_eq_getElem?_getD, List.getElem?_eq_getElem hj]
      rfl
    · rw [Nat.zero_add]
      refine (own_cel h (u := .int .i64 xs[j]) ?_).2
      rw [List.getElem?_map, List.getElem?_eq_getElem hj]
      rfl
    · rintro e w' ⟨rfl, q, rfl⟩
      rw [List.take_of_length_le (Nat.le_refl _)]
      have hq : (w.drewN q).ownsRow base 3 1 (.slice (some ⟨g, 0, none⟩) xs.length c) xs.length (xs.map (Value.int .i64)) := h
      refine ⟨rfl, ?_, ?_⟩
      · exact own_setCells (g := g) rfl (xs.reverse.map (Value.int .i64)) [] (xs.map (Value.int .i64)) _ (by simp) hq
      · have hb : ∀ (vs : List Value) (o : Nat) (w0 : World), Fr (fun k => k = g) w0 (w0.setCells g o vs) := by
          intro vs
          induction vs with
          | nil => exact fun o w0 => Fr.refl _ _
          | cons x r ih => exact fun o w0 => (Fr.set_ (S := fun k => k = g) w0 ⟨g, o, none⟩ x rfl).trans (ih _ _) (fun k _ h => h)
        exact (((Fr.refl (fun k => k = g) w).drewN q).trans (hb _ _ _) (fun k _ h => h)).weak (fun k _ e => by subst e; rfl)
end Go.Proofs.Ytlanjpickjndlaa
