/- Widths of runes. Plain Lean. -/
import Derived.Test.YtfjccjjdgbkbiaaDoorRuneAt
import Derived.Lib.Small
namespace Go.Proofs.YtfjccjjdgbkbiaaDoor
open Go.Lib
set_option linter.unusedVariables false

theorem decodeN_len (n b0 b1 b2 b3 : Nat) (h0 : b0 < 256) (h1 : b1 < 256) (h2 : b2 < 256) (h3 : b3 < 256) : ((decodeN n b0 b1 b2 b3).2 : Int) = runeLen ((decodeN n b0 b1 b2 b3).1 : Int) ∨ decodeN n b0 b1 b2 b3 = (65533, 1) := by
  unfold decodeN
  repeat' split
  all_goals first
    | (right; rfl)
    | (left; simp only; unfold runeLen; repeat' split; all_goals omega)
theorem decode_len (s : ByteArray) (i : Nat) : ((Utf8.decode s i).2 : Int) = runeLen ((Utf8.decode s i).1 : Int) ∨ Utf8.decode s i = (65533, 1) := by
  rw [decode_bt]
  exact decodeN_len _ _ _ _ _ (bt_lt _ _) (bt_lt _ _) (bt_lt _ _) (bt_lt _ _)
theorem decode_tail (s : ByteArray) (i : Nat) (h : i < s.size) : Utf8.decode (s.extract i s.size) 0 = Utf8.decode s i := by
  have hw := decode_width s i h
  have := decode_extract s i s.size 0 (Nat.le_refl _) (by omega) (by simpa using hw.2.1)
  simpa using this
end Go.Proofs.YtfjccjjdgbkbiaaDoor
