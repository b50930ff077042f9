/- SameInts and SameSpans of the same lists. -/
import Derived.Test.YtfjccjjdgbkbiaaDoorWs25
namespace Go.Proofs.YtfjccjjdgbkbiaaDoor
open Go.RowKit
set_option linter.unusedVariables false

set_option maxHeartbeats 2000000 in
theorem sameInts_yes (A B : Option Addr) (c d ba bb : Nat) (l : List Nat) (w : World) (h1 : w.ownsRow ba 3 1 (.slice A l.length c) l.length (intVs l)) (h2 : w.ownsRow bb 3 1 (.slice B l.length d) l.length (intVs l)) (hm : l.length ≤ 64) :
    Calls Tryd.prog 25 #[.slice A l.length c, .slice B l.length d] w fun e w' => e = .returned (.bool true) ∧ Below w.heap.size w w' := by
  go_enter Tryd.func25, Tryd.ntmps25
  go_wp2_with fail
  go_loopw [5] (fun i wr => ∃ k : Nat, k ≤ l.length ∧ i = .int .i64 (k : Int) ∧ Below w.heap.size w wr) (fun i _ => l.length - (intOf i).toNat)
  case atStart => exact ⟨0, by omega, rfl, Below.refl _ _⟩
  case round =>
    obtain ⟨k, hk, rfl, hb⟩ := hrel
    by_cases hlt : k < l.length
    · obtain ⟨g, rfl, _, hg, ⟨x0, y0⟩⟩ := own_int (own_below h1 hb) hlt
      obtain ⟨g', rfl, _, hg', ⟨x1, y1⟩⟩ := own_int (own_below h2 hb) hlt
      generalize l[k] = x at *
      have j0 : 0 ≤ (k : Int) := by omega
      have j1 : (k : Int) < (l.length : Int) := by omega
      have t1 : ((x : Int) != (x : Int)) = false := by simp
      have hd : Below w.heap.size w wr.drew := below_drewN hb 1
      have HD := Lib.hid hd
      clear hd h1 h2
      go_wp2_with fail
      go_region
      all_goals go_wp2_with fail
      exact ⟨⟨k + 1, by omega, by go_num, HD.out⟩, by simp [intOf]; omega⟩
    · obtain rfl : k = l.length := by omega
      clear h1 h2
      go_wp2_with fail
      go_ret
      exact ⟨rfl, hb⟩
theorem own_span {w : World} {base c k : Nat} {A : Option Addr} {l : List (Nat × Nat)} (h : w.ownsRow base 48 2 (.slice A l.length c) l.length (spVs l)) (hk : k < l.length) :
    ∃ g, A = some ⟨g, 0, none⟩ ∧ base ≤ g ∧ g < w.heap.size ∧ Cel w g (k * 2) (.int .i64 (l[k].1 : Int)) ∧ Cel w g (k * 2 + 1) (.int .i64 (l[k].2 : Int)) := by
  obtain ⟨g, c', e, _, _, h1, h2⟩ := own_pos h (by omega)
  injection e with e1 _ e2
  subst e1 e2
  have key : ∀ (l : List (Nat × Nat)) (k : Nat) (hk : k < l.length), (spVs l)[k * 2]? = some (.int .i64 (l[k].1 : Int)) ∧ (spVs l)[k * 2 + 1]? = some (.int .i64 (l[k].2 : Int)) := by
    intro l
    induction l with
    | nil => intro k hk; simp at hk
    | cons x r ih =>
      intro k hk
      have e : spVs (x :: r) = .int .i64 (x.1 : Int) :: .int .i64 (x.2 : Int) :: spVs r := by unfold spVs; rfl
      rw [e]
      cases k with
      | zero => exact ⟨rfl, rfl⟩
      | succ k =>
        have := ih k (by simpa using hk)
        rw [show (k + 1) * 2 = k * 2 + 1 + 1 by omega, List.getElem?_cons_succ, List.getElem?_cons_succ, List.getElem?_cons_succ, List.getElem?_cons_succ]
        exact this
  exact ⟨g, rfl, h1, h2, own_cel h (key l k hk).1, own_cel h (key l k hk).2⟩
set_option maxHeartbeats 2000000 in
theorem sameSpans_yes (A B : Option Addr) (c d ba bb : Nat) (l : List (Nat × Nat)) (w : World) (h1 : w.ownsRow ba 48 2 (.slice A l.length c) l.length (spVs l)) (h2 : w.ownsRow bb 48 2 (.slice B l.length d) l.length (spVs l)) (hm : l.length ≤ 64) :
    Calls Tryd.prog 26 #[.slice A l.length c, .slice B l.length d] w fun e w' => e = .returned (.bool true) ∧ Below w.heap.size w w' := by
  go_enter Tryd.func26, Tryd.ntmps26
  go_wp2_with fail
  go_loopw [5] (fun i wr => ∃ k : Nat, k ≤ l.length ∧ i = .int .i64 (k : Int) ∧ Below w.heap.size w wr) (fun i _ => l.length - (intOf i).toNat)
  case atStart => exact ⟨0, by omega, rfl, Below.refl _ _⟩
  case round =>
    obtain ⟨k, hk, rfl, hb⟩ := hrel
    by_cases hlt : k < l.length
    · obtain ⟨g, rfl, _, hg, ⟨x0, y0⟩, ⟨x1, y1⟩⟩ := own_span (own_below h1 hb) hlt
      obtain ⟨g', rfl, _, hg', ⟨x2, y2⟩, ⟨x3, y3⟩⟩ := own_span (own_below h2 hb) hlt
      generalize l[k].1 = x at *
      generalize l[k].2 = y at *
      have j0 : 0 ≤ (k : Int) := by omega
      have j1 : (k : Int) < (l.length : Int) := by omega
      have t1 : ((x : Int) != (x : Int)) = false := by simp
      have hd : Below w.heap.size w wr.drew := below_drewN hb 1
      have HD := Lib.hid hd
      clear hd h1 h2
      go_wp2_with fail
      go_region
      all_goals go_wp2_with fail
      exact ⟨⟨k + 1, by omega, by go_num, HD.out⟩, by simp [intOf]; omega⟩
    · obtain rfl : k = l.length := by omega
      clear h1 h2
      go_wp2_with fail
      go_ret
      exact ⟨rfl, hb⟩
end Go.Proofs.YtfjccjjdgbkbiaaDoor
