/- slices.Contains of bools, walked. -/
import Derived.Test.YtimhlnndobfehaaDoorMc03
import Derived.Test.YtimhlnndobfehaaDoorChecked
namespace Go.Proofs.YtimhlnndobfehaaDoor
open Go.RowKit
set_option linter.unusedVariables false

def idxB (v : Bool) (l : List Bool) : Int := if l.contains v then (l.findIdx (· == v) : Int) else -1
theorem idxB_hit {v : Bool} {l : List Bool} {k : Nat} (hk : k < l.length) (h1 : ∀ j, j < k → l[j]? ≠ some v) (h2 : l[k] = v) : idxB v l = k := by
  have hm : l.contains v = true := by
    rw [List.contains_iff_mem, ← h2]; exact List.getElem_mem hk
  unfold idxB
  rw [if_pos hm]
  have : l.findIdx (· == v) = k := by
    rw [List.findIdx_eq hk]
    refine ⟨by simp [h2], fun j hj => ?_⟩
    have := h1 j hj
    rw [List.getElem?_eq_getElem (by omega)] at this
    simpa using this
  rw [this]
theorem idxB_miss {v : Bool} {l : List Bool} (h1 : ∀ j, j < l.length → l[j]? ≠ some v) : idxB v l = -1 := by
  unfold idxB
  rw [if_neg]
  intro h
  rw [List.contains_iff_mem] at h
  obtain ⟨j, hj⟩ := List.mem_iff_getElem?.1 h
  exact h1 j (List.getElem?_eq_some_iff.1 hj).1 hj
theorem idxB_pos (v : Bool) (l : List Bool) : decide (0 ≤ idxB v l) = l.contains v := by
  unfold idxB
  by_cases h : l.contains v = true
  · rw [if_pos h, h]; simp
  · rw [if_neg h]
    have : l.contains v = false := by simpa using h
    rw [this]; rfl

theorem index_bool (v : Bool) (A : Option Addr) (c lo hi : Nat) (l : List Bool) (w : World) (hsl : Sl 1 vBool w lo hi A l) (hm : l.length ≤ 9223372036854775807) :
    Calls Tryd.prog 87 #[.slice A l.length c, .bool v] w fun e w' => e = .returned (.int .i64 (idxB v l)) ∧ w = w' := by
  go_enter Tryd.func87, Tryd.ntmps87
  go_wp2_with fail
  go_loop [8] (fun i => ∃ k : Nat, k ≤ l.length ∧ i = .int .i64 k ∧ Hid (∀ j, j < k → l[j]? ≠ some v)) (fun i => l.length - (intOf i).toNat)
  case atStart => exact ⟨0, by omega, rfl, fun j hj => absurd hj (by omega)⟩
  case round =>
    obtain ⟨k, hk, rfl, hno⟩ := hrel
    by_cases hlt : k < l.length
    · obtain ⟨b, off, rfl, _, hb, ⟨ck, fk⟩⟩ := bools_at hsl hlt
      cases hv : (v == l[k]) with
      | true =>
        have hF := Lib.hid (idxB_hit hlt hno.out (by simpa using (beq_iff_eq.1 hv).symm))
        go_wp2_with fail
        go_ret
        exact ⟨by rw [hF.out]; rfl, rfl⟩
      | false =>
        have hno2 : Hid (∀ j, j < k + 1 → l[j]? ≠ some v) := fun j hj => by
          by_cases e : j = k
          · subst e
            rw [List.getElem?_eq_getElem hlt]
            simp only [beq_eq_false_iff_ne] at hv
            exact fun h => hv (by simpa using h.symm)
          · exact hno.out j (by omega)
        go_wp2_with fail
        go_round
        case rel => exact ⟨k + 1, by omega, by go_num, hno2⟩
        case measure => simp [intOf]; omega
    · obtain rfl : k = l.length := by omega
      have hF := Lib.hid (idxB_miss hno.out)
      go_wp2_with fail
      go_ret
      exact ⟨by rw [hF.out]; rfl, rfl⟩

theorem contains_bool (v : Bool) (A : Option Addr) (c lo hi : Nat) (l : List Bool) (w : World) (hsl : Sl 1 vBool w lo hi A l) (hm : l.length ≤ 9223372036854775807) :
    Calls Tryd.prog 72 #[.slice A l.length c, .bool v] w fun e w' => e = .returned (.bool (l.contains v)) ∧ w = w' := by
  have hp := Lib.hid (idxB_pos v l)
  go_enter Tryd.func72, Tryd.ntmps72
  go_wp2_with (go_at_call 87; refine (index_bool v A c lo hi l _ hsl hm).mono ?_; rintro e w' ⟨rfl, rfl⟩)
  go_ret
  exact ⟨by rw [← hp.out]; rfl, rfl⟩
end Go.Proofs.YtimhlnndobfehaaDoor
