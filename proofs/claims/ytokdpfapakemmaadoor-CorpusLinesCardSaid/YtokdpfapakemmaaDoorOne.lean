/- The document's one: a rune's bytes, in a row of the call's own. -/
import Derived.Test.YtokdpfapakemmaaDoorAt
import Derived.Test.YtokdpfapakemmaaDoorEnc
namespace Go.Proofs.YtokdpfapakemmaaDoor
open Go.RowKit Go.Lib
set_option linter.unusedVariables false

def OneOut (r : Int) (w : World) (e : Ending) (w' : World) : Prop :=
  ∃ g, e = .returned (.slice (some ⟨g, 0, none⟩) (encodeRuneZ r).length (encodeRuneZ r).length) ∧ w.heap.size ≤ g ∧ Row w' g 5 (runeCells r) ∧ Below w.heap.size w w'

set_option maxHeartbeats 4000000 in
theorem one_any (r : Int) (w : World) (h0 : -2147483648 ≤ r) (h1 : r ≤ 2147483647) :
    Calls Tryd.prog 73 #[.int .i32 r] w (OneOut r w) := by
  by_cases hb : r < 0 ∨ (55296 ≤ r ∧ r ≤ 57343) ∨ 1114111 < r
  · have HR := Lib.hid (rune_ok r)
    have hd : decide ((0 ≤ r ∧ r < 55296) ∨ (57344 ≤ r ∧ r ≤ 1114111)) = false := by rw [decide_eq_false_iff_not]; omega
    rw [hd] at HR
    have HE := Lib.hid (encodeRuneZ_bad hb)
    clear hd hb
    go_enter Tryd.func73, Tryd.ntmps73
    go_wp2_with (refine (HR.out _).mono ?_; rintro e w' ⟨rfl, rfl⟩)
    go_ret
    refine ⟨w.heap.size, by rw [HE.out]; rfl, Nat.le_refl _, ?_, (Below.refl _ _).alloc (Nat.le_refl _) _⟩
    unfold runeCells
    rw [HE.out]
    exact Row.new w _ _
  · have HR := Lib.hid (rune_ok r)
    have hd : decide ((0 ≤ r ∧ r < 55296) ∨ (57344 ≤ r ∧ r ≤ 1114111)) = true := by rw [decide_eq_true_eq]; omega
    rw [hd] at HR
    clear hd
    have h0 : 0 ≤ r := by omega
    have h1 : r ≤ 1114111 := by omega
    have hc : r ≤ 127 ∨ (128 ≤ r ∧ r ≤ 2047) ∨ (2048 ≤ r ∧ r ≤ 65535) ∨ (65536 ≤ r ∧ r ≤ 1114111) := by omega
    rcases hc with h | ⟨g0, g1⟩ | ⟨g0, g1⟩ | ⟨g0, g1⟩
    · have HE := Lib.hid (encodeRuneZ_one h0 h)
      clear hb
      go_enter Tryd.func73, Tryd.ntmps73
      go_wp2_with (refine (HR.out _).mono ?_; rintro e w' ⟨rfl, rfl⟩)
      go_ret
      refine ⟨w.heap.size, by rw [HE.out]; rfl, Nat.le_refl _, ?_, (Below.refl _ _).alloc (Nat.le_refl _) _⟩
      unfold runeCells
      rw [HE.out]
      exact Row.new w _ _
    · have HE := Lib.hid (encodeRuneZ_two g0 g1)
      clear hb
      go_enter Tryd.func73, Tryd.ntmps73
      go_wp2_with (refine (HR.out _).mono ?_; rintro e w' ⟨rfl, rfl⟩)
      go_ret
      refine ⟨w.heap.size, by rw [HE.out]; rfl, Nat.le_refl _, ?_, (Below.refl _ _).alloc (Nat.le_refl _) _⟩
      unfold runeCells
      rw [HE.out]
      exact Row.new w _ _
    · have HE := Lib.hid (encodeRuneZ_three (r := r) (by omega))
      clear hb
      go_enter Tryd.func73, Tryd.ntmps73
      go_wp2_with (refine (HR.out _).mono ?_; rintro e w' ⟨rfl, rfl⟩)
      go_ret
      refine ⟨w.heap.size, by rw [HE.out]; rfl, Nat.le_refl _, ?_, (Below.refl _ _).alloc (Nat.le_refl _) _⟩
      unfold runeCells
      rw [HE.out]
      exact Row.new w _ _
    · have HE := Lib.hid (encodeRuneZ_four g0 g1)
      clear hb
      go_enter Tryd.func73, Tryd.ntmps73
      go_wp2_with (refine (HR.out _).mono ?_; rintro e w' ⟨rfl, rfl⟩)
      go_ret
      refine ⟨w.heap.size, by rw [HE.out]; rfl, Nat.le_refl _, ?_, (Below.refl _ _).alloc (Nat.le_refl _) _⟩
      unfold runeCells
      rw [HE.out]
      exact Row.new w _ _
end Go.Proofs.YtokdpfapakemmaaDoor
