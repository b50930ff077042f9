/- The library's words against the document's: line begins, counts, cuts, widths of runes. Plain Lean. -/
import Derived.Test.YtokdpfapakemmaaDoorAroundR
import Derived.Lib.LastIndexByte
import Derived.Lib.Bytealg
import Derived.Lib.IndexMore
import Derived.Lib.Small
namespace Go.Proofs.YtokdpfapakemmaaDoor
open Go.Lib
set_option linter.unusedVariables false

theorem data_bt (s : ByteArray) (k : Nat) (h : k < s.size) : (s.data[k]!).toNat = bt s k := by
  rw [← bt_get s k h, getElem!_pos s.data k h]
  rfl
theorem data_bt_ext (s : ByteArray) (a b k : Nat) (hb : b ≤ s.size) (h : a + k < b) : (((s.extract a b).data[k]!).toNat) = bt s (a + k) := by
  rw [data_bt _ k (by rw [ByteArray.size_extract]; omega)]
  unfold bt
  rw [get_extract s a b k hb h]
theorem lastIdx_lineB (s : ByteArray) (n : Nat) (hn : n ≤ s.size) : ∀ k, k ≤ n → lastIdx (s.extract 0 n) 10 k + 1 = (lineB s k : Int)
  | 0, _ => rfl
  | k + 1, h => by
    have ih := lastIdx_lineB s n hn k (by omega)
    have e := data_bt_ext s 0 n k hn (by omega)
    rw [Nat.zero_add] at e
    unfold lastIdx lineB
    rw [e]
    by_cases h10 : bt s k = 10
    · rw [if_pos h10, if_pos (by omega)]
      omega
    · rw [if_neg h10, if_neg (by omega)]
      exact ih
theorem last_lineB (s : ByteArray) (n : Nat) (hn : n ≤ s.size) : lastIndexByte (s.extract 0 n) 10 + 1 = (lineB s n : Int) := by
  unfold lastIndexByte
  rw [ByteArray.size_extract, Nat.min_eq_left hn, Nat.sub_zero]
  exact lastIdx_lineB s n hn n (Nat.le_refl _)
theorem ext_list (s : ByteArray) (a b : Nat) : (s.extract a b).data.toList = (s.data.toList.take b).drop a := by
  simp [ByteArray.data_extract, Array.toList_extract, List.extract_eq_take_drop, List.drop_take]
theorem count_lineN (s : ByteArray) : ∀ n, n ≤ s.size → countByte (s.extract 0 n).data.toList 10 = lineN s n
  | 0, _ => by rw [ext_list]; rfl
  | n + 1, h => by
    have ih := count_lineN s n (by omega)
    have hl : n < s.data.toList.length := by simp; omega
    have hstep : lineN s (n + 1) = if bt s n = 10 then lineN s n + 1 else lineN s n := rfl
    rw [ext_list, List.drop_zero] at ih ⊢
    unfold countByte at ih ⊢
    rw [List.take_succ_eq_append_getElem hl, List.count_append, ih]
    have e : s.data.toList[n] = s[n]'(by omega) := by simp; rfl
    have e2 := bt_get s n (by omega)
    rw [hstep]
    by_cases h10 : bt s n = 10
    · rw [if_pos h10, e]
      have : s[n]'(by omega) = 10 := by
        apply UInt8.toNat_inj.1
        rw [e2, h10]
        rfl
      rw [this]
      rfl
    · rw [if_neg h10, e]
      have : ¬ s[n]'(by omega) = 10 := fun hh => h10 (by rw [← e2, hh]; rfl)
      simp [this]
/-- Up to the next line end. -/
theorem index_lineE (s : ByteArray) : ∀ (f k : Nat), s.size - k ≤ f → k ≤ s.size → (indexByte (s.data.toList.drop k) 10 = -1 ∧ lineE s k = s.size) ∨ (∃ j : Nat, indexByte (s.data.toList.drop k) 10 = j ∧ lineE s k = k + j ∧ k + j < s.size)
  | 0, k, h, hk => by
    have : k = s.size := by omega
    subst this
    left
    rw [lineE_end s _ (Nat.le_refl _), List.drop_eq_nil_of_le (by simp)]
    exact ⟨rfl, rfl⟩
  | f + 1, k, h, hk => by
    by_cases hlt : k < s.size
    · have hl : k < s.data.toList.length := by simpa using hlt
      have e : s.data.toList[k] = s[k]'hlt := by simp; rfl
      have e2 := bt_get s k hlt
      rw [List.drop_eq_getElem_cons hl, e, lineE_step s k hlt]
      unfold indexByte
      by_cases h10 : bt s k = 10
      · have : s[k]'hlt = 10 := by
          apply UInt8.toNat_inj.1
          rw [e2, h10]
          rfl
        right
        refine ⟨0, ?_, ?_, by omega⟩
        · rw [this]; rfl
        · rw [if_pos h10]; rfl
      · have hne : (s[k]'hlt == 10) = false := by
          rw [beq_eq_false_iff_ne]
          intro hh
          exact h10 (by rw [← e2, hh]; rfl)
        rw [hne, if_neg h10]
        simp only [Bool.false_eq_true, if_false]
        rcases index_lineE s f (k + 1) (by omega) (by omega) with ⟨a, b⟩ | ⟨j, a, b, c⟩
        · left
          rw [a]
          exact ⟨rfl, b⟩
        · right
          refine ⟨j + 1, ?_, by rw [b]; omega, by omega⟩
          rw [a]
          have : ((j : Int) == -1) = false := by rw [beq_eq_false_iff_ne]; omega
          rw [this]
          simp
    · have : k = s.size := by omega
      subst this
      left
      rw [lineE_end s _ (Nat.le_refl _), List.drop_eq_nil_of_le (by simp)]
      exact ⟨rfl, rfl⟩
theorem decodeN_len (n b0 b1 b2 b3 : Nat) (h0 : b0 < 256) (h1 : b1 < 256) (h2 : b2 < 256) (h3 : b3 < 256) : ((decodeN n b0 b1 b2 b3).2 : Int) = runeLen ((decodeN n b0 b1 b2 b3).1 : Int) ∨ decodeN n b0 b1 b2 b3 = (65533, 1) := by
  unfold decodeN
  repeat' split
  all_goals first
    | (right; rfl)
    | (left; simp only; unfold runeLen; repeat' split; all_goals omega)
theorem decode_len (s : ByteArray) (i : Nat) : ((Utf8.decode s i).2 : Int) = runeLen ((Utf8.decode s i).1 : Int) ∨ Utf8.decode s i = (65533, 1) := by
  rw [decode_bt]
  exact decodeN_len _ _ _ _ _ (bt_lt _ _) (bt_lt _ _) (bt_lt _ _) (bt_lt _ _)
theorem decode_tail (s : ByteArray) (i : Nat) (h : i < s.size) : Utf8.decode (s.extract i s.size) 0 = Utf8.decode s i := by
  have hw := decode_width s i h
  have := decode_extract s i s.size 0 (Nat.le_refl _) (by omega) (by simpa using hw.2.1)
  simpa using this
end Go.Proofs.YtokdpfapakemmaaDoor
