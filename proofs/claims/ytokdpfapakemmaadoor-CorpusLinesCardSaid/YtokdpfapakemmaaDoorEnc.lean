/- The bytes of runes: the model's encoding as the library's words have it. Plain Lean. -/
import Derived.Test.YtokdpfapakemmaaDoorRunes
import Derived.Lib.RuneBytes
namespace Go.Proofs.YtokdpfapakemmaaDoor
open Go.Lib
set_option linter.unusedVariables false

theorem u8_eq {a b : Nat} (h : a % 256 = b % 256) : UInt8.ofNat a = UInt8.ofNat b := by
  apply UInt8.toNat_inj.1
  simpa using h
theorem u8_of {a : Nat} {x : Int} (h : (a : Int) = x) : UInt8.ofNat a = x.toNat.toUInt8 := by
  subst h
  rfl
theorem ba1 {a c : UInt8} (h : a = c) : (⟨#[a]⟩ : ByteArray) = ⟨[c].toArray⟩ := by subst h; rfl
theorem ba2 {a b c d : UInt8} (h : a = c) (k : b = d) : (⟨#[a, b]⟩ : ByteArray) = ⟨[c, d].toArray⟩ := by subst h k; rfl
theorem ba3 {a b c d x y : UInt8} (h : a = c) (k : b = d) (m : x = y) : (⟨#[a, b, x]⟩ : ByteArray) = ⟨[c, d, y].toArray⟩ := by subst h k m; rfl
theorem ba4 {a b c d x y u v : UInt8} (h : a = c) (k : b = d) (m : x = y) (n : u = v) : (⟨#[a, b, x, u]⟩ : ByteArray) = ⟨[c, d, y, v].toArray⟩ := by subst h k m n; rfl
theorem encode_eq (r : Int) : Utf8.encode r = ⟨(encodeRune r).toArray⟩ := by
  unfold encodeRune
  by_cases hv : (0 ≤ r ∧ r < 55296) ∨ (57344 ≤ r ∧ r ≤ 1114111)
  · have e : Utf8.valid r = true := by unfold Utf8.valid; simp; omega
    unfold Utf8.encode
    simp only [e, if_true]
    obtain ⟨n, rfl⟩ : ∃ n : Nat, r = n := ⟨r.toNat, by omega⟩
    simp only [Int.toNat_natCast]
    by_cases h1 : n < 128
    · rw [if_pos h1, encodeRuneZ_one (by omega) (by omega)]
      exact ba1 (u8_of (by omega))
    · by_cases h2 : n < 2048
      · rw [if_neg h1, if_pos h2, encodeRuneZ_two (by omega) (by omega)]
        exact ba2 (u8_of (by omega)) (u8_of (by omega))
      · by_cases h3 : n < 65536
        · rw [if_neg h1, if_neg h2, if_pos h3, encodeRuneZ_three (by omega)]
          exact ba3 (u8_of (by omega)) (u8_of (by omega)) (u8_of (by omega))
        · rw [if_neg h1, if_neg h2, if_neg h3, encodeRuneZ_four (by omega) (by omega)]
          exact ba4 (u8_of (by omega)) (u8_of (by omega)) (u8_of (by omega)) (u8_of (by omega))
  · have e : Utf8.valid r = false := by unfold Utf8.valid; simp; omega
    unfold Utf8.encode
    simp only [e, Bool.false_eq_true, if_false]
    rw [encodeRuneZ_bad (by omega)]
    rfl
theorem encode_list (r : Int) : (Utf8.encode r).data.toList = encodeRune r := by rw [encode_eq]
/-- What runs of runes are as bytes. -/
def encB (l : List Int) : List UInt8 := l.flatMap encodeRune
theorem enc_list (l : List Pc) : (enc l).data.toList = encB (l.map (·.rune)) := by
  induction l with
  | nil => rfl
  | cons p l ih =>
    rw [enc_cons, ByteArray.data_append, Array.toList_append, ih, encode_list]
    rfl
theorem enc_size (l : List Pc) : (enc l).size ≤ 4 * l.length := by
  induction l with
  | nil => simp [enc]
  | cons p l ih =>
    have h := (encodeRuneZ_length p.rune).2
    rw [enc_cons, ByteArray.size_append, List.length_cons, encode_eq]
    have : (⟨(encodeRune p.rune).toArray⟩ : ByteArray).size = (encodeRuneZ p.rune).length := by
      show (encodeRune p.rune).toArray.size = _
      simp [encodeRune]
    omega
end Go.Proofs.YtokdpfapakemmaaDoor
