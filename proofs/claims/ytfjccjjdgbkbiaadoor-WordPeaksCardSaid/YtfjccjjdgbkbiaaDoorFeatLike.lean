/- Has a letter a class: the program's like, the document's Like. -/
import Derived.Test.YtfjccjjdgbkbiaaDoorAlMem
namespace Go.Proofs.YtfjccjjdgbkbiaaDoor
open Go.RowKit
set_option linter.unusedVariables false

/-- Has a letter a class? -/
def likeL (x : Lt) (p m : Nat) : Bool := decide (x.plus &&& p = p) && decide (x.minus &&& m = m)
theorem bits_andNot {x y : Nat} (hx : x < 4294967296) (hy : y < 4294967296) : ∃ q : Nat, bits .andNot .u32 (x : Int) (y : Int) = (q : Int) ∧ (((q : Int) == 0) = decide (y &&& x = x)) ∧ q < 4294967296 := by
  have hlt := (BitVec.ofNat 32 x &&& ~~~ BitVec.ofNat 32 y).isLt
  refine ⟨(BitVec.ofNat 32 x &&& ~~~ BitVec.ofNat 32 y).toNat, ?_, ?_, hlt⟩
  · show IntKind.u32.wrap ((BitVec.ofInt 32 (x : Int) &&& ~~~ BitVec.ofInt 32 (y : Int)).toNat : Int) = _
    rw [BitVec.ofInt_natCast, BitVec.ofInt_natCast]
    exact IntWalk.u32_in _ (by omega)
  · rw [Bool.eq_iff_iff, beq_iff_eq, decide_eq_true_eq]
    have key : (BitVec.ofNat 32 x &&& ~~~ BitVec.ofNat 32 y) = 0#32 ↔ BitVec.ofNat 32 y &&& BitVec.ofNat 32 x = BitVec.ofNat 32 x := by
      generalize BitVec.ofNat 32 x = a
      generalize BitVec.ofNat 32 y = b
      constructor
      · intro h
        apply BitVec.eq_of_getLsbD_eq
        intro i hi
        have := congrArg (fun v => v.getLsbD i) h
        simp [hi] at this ⊢
        cases h1 : a.getLsbD i <;> cases h2 : b.getLsbD i <;> simp_all
      · intro h
        apply BitVec.eq_of_getLsbD_eq
        intro i hi
        have := congrArg (fun v => v.getLsbD i) h
        simp [hi] at this ⊢
        cases h1 : a.getLsbD i <;> cases h2 : b.getLsbD i <;> simp_all
    have e1 : (BitVec.ofNat 32 x &&& ~~~ BitVec.ofNat 32 y) = 0#32 ↔ (((BitVec.ofNat 32 x &&& ~~~ BitVec.ofNat 32 y).toNat : Nat) : Int) = 0 := by
      rw [← BitVec.toNat_inj]
      simp only [BitVec.toNat_ofNat, Nat.zero_mod]
      omega
    have e2 : BitVec.ofNat 32 y &&& BitVec.ofNat 32 x = BitVec.ofNat 32 x ↔ y &&& x = x := by
      rw [← BitVec.toNat_inj, BitVec.toNat_and, BitVec.toNat_ofNat, BitVec.toNat_ofNat, Nat.mod_eq_of_lt hx, Nat.mod_eq_of_lt hy]
    rw [← e1, key, e2]
theorem bits_has {x y : Nat} (hx : x < 4294967296) (hy : y < 4294967296) : ∃ q : Nat, bits .and .u32 (y : Int) (x : Int) = (q : Int) ∧ (((q : Int) == (x : Int)) = decide (y &&& x = x)) ∧ q < 4294967296 := by
  refine ⟨y &&& x, bits_and hy hx, ?_, Nat.and_lt_two_pow (n := 32) y hx⟩
  rw [Bool.eq_iff_iff, beq_iff_eq, decide_eq_true_eq]
  omega
def LtOk (x : Lt) : Prop := (-2147483648 ≤ x.rune ∧ x.rune ≤ 2147483647) ∧ x.plus < 4294967296 ∧ x.minus < 4294967296
def ltV (x : Lt) : Value := .agg #[.int .i32 x.rune, .int .u32 (x.plus : Int), .int .u32 (x.minus : Int)]

set_option maxHeartbeats 2000000 in
theorem like_any (x : Lt) (p m : Nat) (w : World) (hx : LtOk x) (hp : p < 4294967296) (hm : m < 4294967296) :
    Calls Tryd.prog 56 #[.agg #[.int .i32 x.rune, .int .u32 (x.plus : Int), .int .u32 (x.minus : Int)], .int .u32 (p : Int), .int .u32 (m : Int)] w fun e w' => e = .returned (.bool (likeL x p m)) ∧ Below w.heap.size w w' := by
  obtain ⟨h0, h1, h2⟩ := hx
  obtain ⟨q, b1, b2, b3⟩ := bits_andNot hp h1
  obtain ⟨r, d1, d2, d3⟩ := bits_andNot hm h2
  have HL : Hid (likeL x p m = (decide (x.plus &&& p = p) && decide (x.minus &&& m = m))) := rfl
  obtain ⟨xr, xp, xm⟩ := x
  simp only at *
  cases hq : decide (xp &&& p = p) with
  | true =>
    rw [hq] at b2
    have HL2 : Hid (likeL ⟨xr, xp, xm⟩ p m = decide (xm &&& m = m)) := by show _ = _; rw [HL.out, hq, Bool.true_and]
    cases hr : decide (xm &&& m = m) with
    | true =>
      rw [hr] at d2
      have HF : Hid (likeL ⟨xr, xp, xm⟩ p m = true) := by show _ = _; rw [HL2.out]; assumption
      clear hq hr HL
      go_enter Tryd.func56, Tryd.ntmps56
      go_wp2_with fail
      go_ret
      exact ⟨retb_of (by rw [HF.out]), (Below.refl _ _).alloc (Nat.le_refl _) _⟩
    | false =>
      rw [hr] at d2
      have HF : Hid (likeL ⟨xr, xp, xm⟩ p m = false) := by show _ = _; rw [HL2.out]; assumption
      clear hq hr HL
      go_enter Tryd.func56, Tryd.ntmps56
      go_wp2_with fail
      go_ret
      exact ⟨retb_of (by rw [HF.out]), (Below.refl _ _).alloc (Nat.le_refl _) _⟩
  | false =>
    rw [hq] at b2
    have HF : Hid (likeL ⟨xr, xp, xm⟩ p m = false) := by show _ = _; rw [HL.out, hq]; rfl
    clear hq HL
    go_enter Tryd.func56, Tryd.ntmps56
    go_wp2_with fail
    go_ret
    exact ⟨retb_of (by rw [HF.out]), (Below.refl _ _).alloc (Nat.le_refl _) _⟩
set_option maxHeartbeats 2000000 in
theorem rlike_any (x : Lt) (p m : Nat) (w : World) (hx : LtOk x) (hp : p < 4294967296) (hm : m < 4294967296) :
    Calls Tryd.prog 75 #[.agg #[.int .i32 x.rune, .int .u32 (x.plus : Int), .int .u32 (x.minus : Int)], .int .u32 (p : Int), .int .u32 (m : Int)] w fun e w' => e = .returned (.bool (likeL x p m)) ∧ Below w.heap.size w w' := by
  obtain ⟨h0, h1, h2⟩ := hx
  obtain ⟨q, b1, b2, b3⟩ := bits_has hp h1
  obtain ⟨r, d1, d2, d3⟩ := bits_has hm h2
  have HL : Hid (likeL x p m = (decide (x.plus &&& p = p) && decide (x.minus &&& m = m))) := rfl
  obtain ⟨xr, xp, xm⟩ := x
  simp only at *
  cases hq : decide (xp &&& p = p) with
  | true =>
    rw [hq] at b2
    have HL2 : Hid (likeL ⟨xr, xp, xm⟩ p m = decide (xm &&& m = m)) := by show _ = _; rw [HL.out, hq, Bool.true_and]
    cases hr : decide (xm &&& m = m) with
    | true =>
      rw [hr] at d2
      have HF : Hid (likeL ⟨xr, xp, xm⟩ p m = true) := by show _ = _; rw [HL2.out]; assumption
      clear hq hr HL
      go_enter Tryd.func75, Tryd.ntmps75
      go_wp2_with fail
      go_ret
      exact ⟨retb_of (by rw [HF.out]), (Below.refl _ _).alloc (Nat.le_refl _) _⟩
    | false =>
      rw [hr] at d2
      have HF : Hid (likeL ⟨xr, xp, xm⟩ p m = false) := by show _ = _; rw [HL2.out]; assumption
      clear hq hr HL
      go_enter Tryd.func75, Tryd.ntmps75
      go_wp2_with fail
      go_ret
      exact ⟨retb_of (by rw [HF.out]), (Below.refl _ _).alloc (Nat.le_refl _) _⟩
  | false =>
    rw [hq] at b2
    have HF : Hid (likeL ⟨xr, xp, xm⟩ p m = false) := by show _ = _; rw [HL.out, hq]; rfl
    clear hq HL
    go_enter Tryd.func75, Tryd.ntmps75
    go_wp2_with fail
    go_ret
    exact ⟨retb_of (by rw [HF.out]), (Below.refl _ _).alloc (Nat.le_refl _) _⟩
end Go.Proofs.YtfjccjjdgbkbiaaDoor
