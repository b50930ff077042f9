/- The document's node, walked. -/
import Derived.Test.YtimhlnndobfehaaGreatDoorMd05
import Derived.Test.YtimhlnndobfehaaGreatDoorMd04
import Derived.Test.YtimhlnndobfehaaGreatDoorChecked
import Derived.Deep.DeepCutAuto
import Derived.Deep.CutBlock
namespace Go.Proofs.YtimhlnndobfehaaGreatDoor
open Go.RowKit
set_option linter.unusedVariables false

theorem nodeOk_iff (kd rn pl mi : Int) (ks : List Int) : nodeOk ⟨kd, rn, pl, mi, ks⟩ = true ↔ ((kd = 6 ∨ kd = 7) ∨ ((kd = 8 ∨ kd = 9) ∧ ks.length = 1) ∨ ((1 ≤ kd ∧ kd ≤ 5) ∧ ks.length = 0)) ∧ (rn = 0 ∨ kd = 2) ∧ ((pl = 0 ∧ mi = 0) ∨ kd = 3) := by
  unfold nodeOk
  dsimp only
  by_cases h1 : kd = 6 ∨ kd = 7
  · rw [if_pos h1]
    simp only [Bool.and_eq_true, Bool.or_eq_true, decide_eq_true_eq, and_assoc, true_and]
    omega
  · rw [if_neg h1]
    by_cases h2 : kd = 8 ∨ kd = 9
    · rw [if_pos h2]
      simp only [Bool.and_eq_true, Bool.or_eq_true, decide_eq_true_eq, and_assoc]
      omega
    · rw [if_neg h2]
      by_cases h3 : 1 ≤ kd ∧ kd ≤ 5
      · rw [if_pos h3]
        simp only [Bool.and_eq_true, Bool.or_eq_true, decide_eq_true_eq, and_assoc]
        omega
      · rw [if_neg h3]
        simp only [Bool.and_eq_true, Bool.false_eq_true, false_and, false_iff]
        omega

set_option maxHeartbeats 8000000 in
set_option maxRecDepth 100000 in
theorem node_any (x : Nd) (B : Option Addr) (c : Nat) (w : World) (hm : x.kids.length ≤ 9223372036854775807) :
    Calls Tryz.prog 120 #[.agg #[.int .u8 x.kind, .int .i32 x.rune, .int .u32 x.plus, .int .u32 x.minus, .slice B x.kids.length c]] w fun e w' => e = .returned (.bool (nodeOk x)) ∧ Below w.heap.size w w' := by
  obtain ⟨kd, rn, pl, mi, ks⟩ := x
  simp only at *
  go_enter Tryz.func120, Tryz.ntmps120
  go_wp2_with fail
  all_goals
    go_ret
    refine ⟨retb_of ?_, by go_grown⟩
  all_goals
    simp only [beq_iff_eq, beq_eq_false_iff_ne, bne_iff_ne, ne_eq, bne_eq_false_iff_eq] at *
    rw [Bool.eq_iff_iff, nodeOk_iff]
    simp only [Bool.or_eq_true, beq_iff_eq, true_iff, Bool.false_eq_true, false_iff]
    omega
end Go.Proofs.YtimhlnndobfehaaGreatDoor
