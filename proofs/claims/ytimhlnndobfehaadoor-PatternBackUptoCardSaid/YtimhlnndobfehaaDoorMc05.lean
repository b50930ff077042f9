/- What the document's At asks of a lead byte and of those behind it, against the model's decoding. Plain Lean. -/
import Derived.Test.YtimhlnndobfehaaDoorMc03
namespace Go.Proofs.YtimhlnndobfehaaDoor
open Go.Lib
set_option linter.unusedVariables false

def bt (s : ByteArray) (k : Nat) : Nat := (s.get! k).toNat
theorem bt_lt (s : ByteArray) (k : Nat) : bt s k < 256 := (s.get! k).toNat_lt
theorem bt_get (s : ByteArray) (k : Nat) (h : k < s.size) : (s[k]'h).toNat = bt s k := by
  unfold bt
  rw [show s.get! k = s[k]'h from get_at s k h]
theorem decode_bt (s : ByteArray) (i : Nat) : Utf8.decode s i = decodeN (s.size - i) (bt s i) (bt s (i + 1)) (bt s (i + 2)) (bt s (i + 3)) := decode_at s i

/-- A lead byte: how many bytes it asks for, and its own bits. -/
def LeadOk (b L r : Nat) : Prop := (192 ≤ b ∧ b < 224 ∧ L = 2 ∧ r = b - 192) ∨ (224 ≤ b ∧ b < 240 ∧ L = 3 ∧ r = b - 224) ∨ (240 ≤ b ∧ b < 248 ∧ L = 4 ∧ r = b - 240) ∨ ((b < 192 ∨ 248 ≤ b) ∧ L = 0 ∧ r = 0)
/-- The bits of a lead and of k bytes behind it. -/
def accR (s : ByteArray) (i r : Nat) : Nat → Nat
  | 0 => r
  | k + 1 => 64 * accR s i r k + (bt s (i + (k + 1)) - 128)
theorem accR_lt (s : ByteArray) (i r : Nat) (hr : r < 32) (k : Nat) (hk : k ≤ 3) (h : ∀ j, 1 ≤ j → j ≤ k → 128 ≤ bt s (i + j) ∧ bt s (i + j) < 192) : accR s i r k ≤ 8388607 := by
  have e0 : accR s i r 0 = r := rfl
  have e1 : accR s i r 1 = 64 * accR s i r 0 + (bt s (i + 1) - 128) := rfl
  have e2 : accR s i r 2 = 64 * accR s i r 1 + (bt s (i + 2) - 128) := rfl
  have e3 : accR s i r 3 = 64 * accR s i r 2 + (bt s (i + 3) - 128) := rfl
  have t1 : 1 ≤ k → bt s (i + 1) < 192 := fun hh => (h 1 (by omega) hh).2
  have t2 : 2 ≤ k → bt s (i + 2) < 192 := fun hh => (h 2 (by omega) hh).2
  have t3 : 3 ≤ k → bt s (i + 3) < 192 := fun hh => (h 3 (by omega) hh).2
  have hk' : k = 0 ∨ k = 1 ∨ k = 2 ∨ k = 3 := by omega
  rcases hk' with rfl | rfl | rfl | rfl <;> omega
def badPc (i : Nat) : Pc := ⟨65533, i, 1, true⟩
theorem pc_bad {s : ByteArray} {i : Nat} (h : Utf8.decode s i = (65533, 1)) : pcAt s i = badPc i := by
  unfold pcAt badPc
  rw [h]
  rfl
theorem pc_good {s : ByteArray} {i r n : Nat} (h : Utf8.decode s i = (r, n)) (hn : 2 ≤ n) : pcAt s i = ⟨(r : Int), i, n, false⟩ := by
  unfold pcAt
  rw [h]
  simp only [Pc.mk.injEq, true_and, decide_eq_false_iff_not]
  omega
theorem pc_ascii {s : ByteArray} {i : Nat} (h : bt s i < 128) : pcAt s i = ⟨(bt s i : Int), i, 1, false⟩ := by
  have e : Utf8.decode s i = (bt s i, 1) := by
    rw [decode_bt]
    unfold decodeN
    rw [if_pos h]
  unfold pcAt
  rw [e]
  simp only [Pc.mk.injEq, true_and, decide_eq_false_iff_not]
  omega

theorem lead_zero {s : ByteArray} {i r : Nat} (h : LeadOk (bt s i) 0 r) (h1 : 128 ≤ bt s i) : Utf8.decode s i = (65533, 1) := by
  rw [decode_bt]
  unfold LeadOk at h
  have := bt_lt s i
  unfold decodeN
  repeat' split
  all_goals first | (exfalso; omega) | (refine Prod.ext ?_ ?_ <;> simp only <;> omega)
theorem lead_short {s : ByteArray} {i L r : Nat} (h : LeadOk (bt s i) L r) (h1 : 128 ≤ bt s i) (hs : s.size < i + L) (hi : i < s.size) : Utf8.decode s i = (65533, 1) := by
  rw [decode_bt]
  unfold LeadOk at h
  have := bt_lt s i
  unfold decodeN
  repeat' split
  all_goals first | (exfalso; omega) | (refine Prod.ext ?_ ?_ <;> simp only <;> omega)
theorem lead_tail {s : ByteArray} {i L r j : Nat} (h : LeadOk (bt s i) L r) (h1 : 128 ≤ bt s i) (hj : 1 ≤ j) (hjL : j < L) (hb : ¬ (128 ≤ bt s (i + j) ∧ bt s (i + j) < 192)) : Utf8.decode s i = (65533, 1) := by
  rw [decode_bt]
  unfold LeadOk at h
  have := bt_lt s i
  have := bt_lt s (i + j)
  have hj' : j = 1 ∨ j = 2 ∨ j = 3 := by omega
  rcases hj' with rfl | rfl | rfl
  all_goals
    unfold decodeN
    repeat' split
    all_goals first | (exfalso; omega) | (refine Prod.ext ?_ ?_ <;> simp only <;> omega)
def leastOf (L : Nat) : Nat := if L = 2 then 128 else if L = 3 then 2048 else 65536
set_option maxHeartbeats 2000000 in
theorem lead_full {s : ByteArray} {i L r : Nat} (h : LeadOk (bt s i) L r) (h1 : 128 ≤ bt s i) (hL : 2 ≤ L) (hs : i + L ≤ s.size) (ht : ∀ j, 1 ≤ j → j ≤ L - 1 → 128 ≤ bt s (i + j) ∧ bt s (i + j) < 192) :
    Utf8.decode s i = if accR s i r (L - 1) < leastOf L ∨ ¬ (accR s i r (L - 1) < 55296 ∨ (57344 ≤ accR s i r (L - 1) ∧ accR s i r (L - 1) ≤ 1114111)) then (65533, 1) else (accR s i r (L - 1), L) := by
  rw [decode_bt]
  unfold LeadOk at h
  have hb := bt_lt s i
  have hL' : L = 2 ∨ L = 3 ∨ L = 4 := by omega
  rcases hL' with rfl | rfl | rfl
  · have t1 := ht 1 (by omega) (by omega)
    have e : accR s i r 1 = 64 * r + (bt s (i + 1) - 128) := rfl
    rw [show 2 - 1 = 1 from rfl, e]
    unfold decodeN leastOf
    repeat' split
    all_goals first | (exfalso; omega) | (refine Prod.ext ?_ ?_ <;> simp only <;> omega)
  · have t1 := ht 1 (by omega) (by omega)
    have t2 := ht 2 (by omega) (by omega)
    have e : accR s i r 2 = 64 * (64 * r + (bt s (i + 1) - 128)) + (bt s (i + 2) - 128) := rfl
    rw [show 3 - 1 = 2 from rfl, e]
    unfold decodeN leastOf
    repeat' split
    all_goals first | (exfalso; omega) | (refine Prod.ext ?_ ?_ <;> simp only <;> omega)
  · have t1 := ht 1 (by omega) (by omega)
    have t2 := ht 2 (by omega) (by omega)
    have t3 := ht 3 (by omega) (by omega)
    have e : accR s i r 3 = 64 * (64 * (64 * r + (bt s (i + 1) - 128)) + (bt s (i + 2) - 128)) + (bt s (i + 3) - 128) := rfl
    rw [show 4 - 1 = 3 from rfl, e]
    unfold decodeN leastOf
    repeat' split
    all_goals first | (exfalso; omega) | (refine Prod.ext ?_ ?_ <;> simp only <;> omega)
end Go.Proofs.YtimhlnndobfehaaDoor
