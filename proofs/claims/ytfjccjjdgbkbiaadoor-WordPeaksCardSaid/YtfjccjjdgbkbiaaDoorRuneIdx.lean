/- slices.Contains of letters, walked. -/
import Derived.Test.YtfjccjjdgbkbiaaDoorRead
namespace Go.Proofs.YtfjccjjdgbkbiaaDoor
open Go.RowKit
set_option linter.unusedVariables false

def idxR (v : Int) (l : List Int) : Int := if l.contains v then (l.findIdx (· == v) : Int) else -1
theorem idxR_hit {v : Int} {l : List Int} {k : Nat} (hk : k < l.length) (h1 : ∀ j, j < k → l[j]? ≠ some v) (h2 : l[k] = v) : idxR v l = k := by
  have hm : l.contains v = true := by
    rw [List.contains_iff_mem, ← h2]; exact List.getElem_mem hk
  unfold idxR
  rw [if_pos hm]
  have : l.findIdx (· == v) = k := by
    rw [List.findIdx_eq hk]
    refine ⟨by simp [h2], fun j hj => ?_⟩
    have := h1 j hj
    rw [List.getElem?_eq_getElem (by omega)] at this
    simpa using this
  rw [this]
theorem idxR_miss {v : Int} {l : List Int} (h1 : ∀ j, j < l.length → l[j]? ≠ some v) : idxR v l = -1 := by
  unfold idxR
  rw [if_neg]
  intro h
  rw [List.contains_iff_mem] at h
  obtain ⟨j, hj⟩ := List.mem_iff_getElem?.1 h
  exact h1 j (List.getElem?_eq_some_iff.1 hj).1 hj
theorem idxR_pos (v : Int) (l : List Int) : decide (0 ≤ idxR v l) = l.contains v := by
  unfold idxR
  by_cases h : l.contains v = true
  · rw [if_pos h, h]; simp
  · rw [if_neg h]
    have : l.contains v = false := by simpa using h
    rw [this]; rfl
/-- A letter of a row of the call's own. -/
theorem own_rune {w : World} {base c k : Nat} {A : Option Addr} {l : List Int} (h : w.ownsRow base 21 1 (.slice A l.length c) l.length (runeVs l)) (hk : k < l.length) :
    ∃ g, A = some ⟨g, 0, none⟩ ∧ base ≤ g ∧ g < w.heap.size ∧ Cel w g k (.int .i32 l[k]) := by
  obtain ⟨g, c', e, _, _, h1, h2⟩ := own_pos h (by omega)
  injection e with e1 _ e2
  subst e1 e2
  exact ⟨g, rfl, h1, h2, own_cel h (by unfold runeVs; rw [List.getElem?_map, List.getElem?_eq_getElem hk]; rfl)⟩

theorem index_rune (v : Int) (base : Nat) (A : Option Addr) (c : Nat) (l : List Int) (w : World) (h : w.ownsRow base 21 1 (.slice A l.length c) l.length (runeVs l)) (hm : l.length ≤ 4611686018427387904) :
    Calls Tryd.prog 73 #[.slice A l.length c, .int .i32 v] w fun e w' => e = .returned (.int .i64 (idxR v l)) ∧ w = w' := by
  go_enter Tryd.func73, Tryd.ntmps73
  go_wp2_with fail
  go_loop [8] (fun i => ∃ k : Nat, k ≤ l.length ∧ i = .int .i64 k ∧ Hid (∀ j, j < k → l[j]? ≠ some v)) (fun i => l.length - (intOf i).toNat)
  case atStart => exact ⟨0, by omega, rfl, fun j hj => absurd hj (by omega)⟩
  case round =>
    obtain ⟨k, hk, rfl, hno⟩ := hrel
    by_cases hlt : k < l.length
    · obtain ⟨g, rfl, _, hg, ⟨ck, fk⟩⟩ := own_rune h hlt
      cases hv : (v == l[k]) with
      | true =>
        have hF := Lib.hid (idxR_hit hlt hno.out (by simpa using (beq_iff_eq.1 hv).symm))
        go_wp2_with fail
        go_ret
        exact ⟨by rw [hF.out]; rfl, rfl⟩
      | false =>
        have hno2 : Hid (∀ j, j < k + 1 → l[j]? ≠ some v) := fun j hj => by
          by_cases e : j = k
          · subst e
            rw [List.getElem?_eq_getElem hlt]
            simp only [beq_eq_false_iff_ne] at hv
            exact fun h => hv (by simpa using h.symm)
          · exact hno.out j (by omega)
        go_wp2_with fail
        go_round
        case rel => exact ⟨k + 1, by omega, by go_num, hno2⟩
        case measure => simp [intOf]; omega
    · obtain rfl : k = l.length := by omega
      have hF := Lib.hid (idxR_miss hno.out)
      go_wp2_with fail
      go_ret
      exact ⟨by rw [hF.out]; rfl, rfl⟩

theorem contains_rune (v : Int) (base : Nat) (A : Option Addr) (c : Nat) (l : List Int) (w : World) (h : w.ownsRow base 21 1 (.slice A l.length c) l.length (runeVs l)) (hm : l.length ≤ 4611686018427387904) :
    Calls Tryd.prog 48 #[.slice A l.length c, .int .i32 v] w fun e w' => e = .returned (.bool (l.contains v)) ∧ w = w' := by
  have hp := Lib.hid (idxR_pos v l)
  go_enter Tryd.func48, Tryd.ntmps48
  go_wp2_with (go_at_call 73; refine (index_rune v base A c l _ h hm).mono ?_; rintro e w' ⟨rfl, rfl⟩)
  go_ret
  exact ⟨by rw [← hp.out]; rfl, rfl⟩
end Go.Proofs.YtfjccjjdgbkbiaaDoor
