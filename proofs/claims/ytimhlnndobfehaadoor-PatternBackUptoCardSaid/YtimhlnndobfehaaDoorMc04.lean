/- Runes that may be letters', names, classes: the program's and the document's. -/
import Derived.Test.YtimhlnndobfehaaDoorMc03
import Derived.Test.YtimhlnndobfehaaDoorMc01
import Derived.Test.YtimhlnndobfehaaDoorChecked
namespace Go.Proofs.YtimhlnndobfehaaDoor
open Go.RowKit
set_option linter.unusedVariables false

theorem letterOk_true {r : Int} (h : (97 ≤ r ∧ r ≤ 122) ∨ (65 ≤ r ∧ r ≤ 90) ∨ (161 ≤ r ∧ r ≤ 1114111 ∧ r ≠ 65533 ∧ (r < 55296 ∨ 57343 < r))) : true = letterOk r := by unfold letterOk; rw [eq_comm, decide_eq_true_eq]; exact h
theorem letterOk_false {r : Int} (h : ¬ ((97 ≤ r ∧ r ≤ 122) ∨ (65 ≤ r ∧ r ≤ 90) ∨ (161 ≤ r ∧ r ≤ 1114111 ∧ r ≠ 65533 ∧ (r < 55296 ∨ 57343 < r)))) : false = letterOk r := by unfold letterOk; rw [eq_comm, decide_eq_false_iff_not]; exact h

set_option maxHeartbeats 2000000 in
theorem lettered_any (r : Int) (w : World) (h0 : -2147483648 ≤ r) (h1 : r ≤ 2147483647) : Calls Tryd.prog 67 #[.int .i32 r] w fun e w' => e = .returned (.bool (letterOk r)) ∧ w = w' := by
  go_enter Tryd.func67, Tryd.ntmps67
  go_wp2_with fail
  all_goals
    go_ret
    refine ⟨retb_of ?_, rfl⟩
    try simp only [beq_iff_eq, beq_eq_false_iff_ne, ne_eq] at *
    first
      | exact letterOk_true (by omega)
      | exact letterOk_false (by omega)
      | (unfold letterOk; rw [Bool.eq_iff_iff, decide_eq_true_eq, decide_eq_true_eq]; omega)
      | (unfold letterOk; rw [Bool.eq_iff_iff]; simp only [Bool.and_eq_true, Bool.or_eq_true, bne_iff_ne, decide_eq_true_eq]; omega)
/-! ### bits -/
theorem ofInt32 (x : Nat) : BitVec.ofInt 32 (x : Int) = BitVec.ofNat 32 x := by rw [BitVec.ofInt_natCast]
theorem bits_or {x y : Nat} (hx : x < 4294967296) (hy : y < 4294967296) : bits .or .u32 (x : Int) (y : Int) = ((x ||| y : Nat) : Int) := by
  have hor : x ||| y < 2 ^ 32 := Nat.or_lt_two_pow hx hy
  show IntKind.u32.wrap ((BitVec.ofInt 32 (x : Int) ||| BitVec.ofInt 32 (y : Int)).toNat : Int) = _
  rw [BitVec.toNat_or, BitVec.ofInt_natCast, BitVec.ofInt_natCast, BitVec.toNat_ofNat, BitVec.toNat_ofNat, Nat.mod_eq_of_lt hx, Nat.mod_eq_of_lt hy]
  exact IntWalk.u32_in _ (by omega)
theorem bits_and {x y : Nat} (hx : x < 4294967296) (hy : y < 4294967296) : bits .and .u32 (x : Int) (y : Int) = ((x &&& y : Nat) : Int) := by
  have hor : x &&& y < 2 ^ 32 := Nat.and_lt_two_pow x hy
  show IntKind.u32.wrap ((BitVec.ofInt 32 (x : Int) &&& BitVec.ofInt 32 (y : Int)).toNat : Int) = _
  rw [BitVec.toNat_and, BitVec.ofInt_natCast, BitVec.ofInt_natCast, BitVec.toNat_ofNat, BitVec.toNat_ofNat, Nat.mod_eq_of_lt hx, Nat.mod_eq_of_lt hy]
  exact IntWalk.u32_in _ (by omega)

theorem shr_zero (x n : Nat) : (x : Int) / 2 ^ n = 0 ↔ x < 2 ^ n := by
  have e : (x : Int) / 2 ^ n = ((x / 2 ^ n : Nat) : Int) := by push_cast; rfl
  rw [e]
  have : 0 < 2 ^ n := Nat.two_pow_pos n
  constructor
  · intro h
    have h' : x / 2 ^ n = 0 := by omega
    rcases (Nat.div_eq_zero_iff).1 h' with h | h
    · omega
    · exact h
  · intro h
    rw [Nat.div_eq_of_lt h]
    rfl

theorem pow24 (n : Nat) (h : n ≤ 24) : 1 ≤ 2 ^ n ∧ 2 ^ n ≤ 16777216 := by
  refine ⟨Nat.two_pow_pos n, ?_⟩
  have := Nat.pow_le_pow_right (show 0 < 2 by omega) h
  simpa using this
theorem all_val (n : Nat) (h : n ≤ 24) : (((2 : Int) ^ n % 4294967296 - 1) % 4294967296) = ((2 ^ n - 1 : Nat) : Int) := by
  have h1 := pow24 n h
  have e : (2 : Int) ^ n = ((2 ^ n : Nat) : Int) := by push_cast; rfl
  rw [e]
  generalize 2 ^ n = x at *
  omega

/-! ### classes -/
/-- An alphabet handed over by value: two slices. -/
def alV (A1 : Option Addr) (n1 c1 : Nat) (A2 : Option Addr) (n2 c2 : Nat) : Value := .agg #[.slice A1 n1 c1, .slice A2 n2 c2]
set_option maxHeartbeats 2000000 in
theorem within_any (A1 A2 : Option Addr) (n1 c1 n2 c2 p m : Nat) (w : World) (h1 : n1 ≤ 24) (hp : p < 4294967296) (hm : m < 4294967296) :
    Calls Tryd.prog 65 #[.agg #[.slice A1 n1 c1, .slice A2 n2 c2], .int .u32 (p : Int), .int .u32 (m : Int)] w fun e w' => e = .returned (.bool (classOk n1 p m)) ∧ Below w.heap.size w w' := by
  have b1 := bits_or hp hm
  have b2 := bits_and hp hm
  have hor : p ||| m < 4294967296 := Nat.or_lt_two_pow (n := 32) hp hm
  have hand : p &&& m < 4294967296 := Nat.and_lt_two_pow (n := 32) p hm
  go_enter Tryd.func65, Tryd.ntmps65
  go_wp2_with fail
  · have h : ((p ||| m : Nat) : Int) / 2 ^ n1 = 0 := by assumption
    go_ret
    refine ⟨retb_of ?_, (Below.refl _ _).alloc (Nat.le_refl _) _⟩
    unfold classOk
    rw [decide_eq_true ((shr_zero _ _).1 h), Bool.true_and, Bool.eq_iff_iff, beq_iff_eq, decide_eq_true_eq]
    omega
  · have h : ¬ ((p ||| m : Nat) : Int) / 2 ^ n1 = 0 := by assumption
    go_ret
    refine ⟨retb_of ?_, (Below.refl _ _).alloc (Nat.le_refl _) _⟩
    unfold classOk
    rw [decide_eq_false (fun hh => h ((shr_zero _ _).2 hh))]
    rfl
end Go.Proofs.YtimhlnndobfehaaDoor
