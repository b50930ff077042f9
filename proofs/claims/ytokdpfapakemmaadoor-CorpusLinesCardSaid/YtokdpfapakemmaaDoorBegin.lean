/- The document's begin: where a place's line begins, and how many line ends stand ahead. -/
import Derived.Test.YtokdpfapakemmaaDoorRuneAt
import Derived.Test.YtokdpfapakemmaaDoorChecked
import Derived.Test.YtokdpfapakemmaaDoorBase
namespace Go.Proofs.YtokdpfapakemmaaDoor
open Go.RowKit
set_option linter.unusedVariables false

/-- Where the line of the place k begins. -/
def lineB (s : ByteArray) : Nat → Nat
  | 0 => 0
  | k + 1 => if bt s k = 10 then k + 1 else lineB s k
/-- How many line ends stand ahead of k. -/
def lineN (s : ByteArray) : Nat → Nat
  | 0 => 0
  | k + 1 => if bt s k = 10 then lineN s k + 1 else lineN s k
theorem lineB_le (s : ByteArray) : ∀ k, lineB s k ≤ k
  | 0 => Nat.le_refl _
  | k + 1 => by have := lineB_le s k; unfold lineB; split <;> omega
theorem lineN_le (s : ByteArray) : ∀ k, lineN s k ≤ k
  | 0 => Nat.le_refl _
  | k + 1 => by have := lineN_le s k; unfold lineN; split <;> omega

set_option maxHeartbeats 2000000 in
theorem begin_any (s : ByteArray) (n : Nat) (w : World) (hn : n ≤ s.size) (hs : s.size ≤ 65536) :
    Calls Tryd.prog 23 #[.string s, .int .i64 (n : Int)] w fun e w' => e = .returned (.tuple #[.int .i64 (lineB s n : Int), .int .i64 (lineN s n : Int)]) ∧ w = w' := by
  go_enter Tryd.func23, Tryd.ntmps23
  go_wp2_with fail
  go_loop [6, 7, 8] (fun f m i => ∃ k : Nat, k ≤ n ∧ i = .int .i64 k ∧ f = .int .i64 (lineB s k : Int) ∧ m = .int .i64 (lineN s k : Int)) (fun _ _ i => n - (intOf i).toNat)
  case atStart => exact ⟨0, Nat.zero_le _, rfl, rfl, rfl⟩
  case round =>
    obtain ⟨k, hk, rfl, rfl, rfl⟩ := hrel
    have h1 := lineB_le s k
    have h2 := lineN_le s k
    have H1 : Hid (lineB s (k + 1) = if bt s k = 10 then k + 1 else lineB s k) := rfl
    have H2 : Hid (lineN s (k + 1) = if bt s k = 10 then lineN s k + 1 else lineN s k) := rfl
    generalize ha : lineB s k = a at *
    generalize hb : lineN s k = b at *
    have HA := Lib.hid ha
    have HB' := Lib.hid hb
    clear ha hb
    by_cases hlt : k < n
    · have hi : k < s.size := by omega
      have HB := Lib.hid (bt_get s k hi)
      by_cases h10 : bt s k = 10
      · have hd : (((s[k]'hi).toNat : Int) == 10) = true := by rw [HB.out, beq_iff_eq]; omega
        have HX := Lib.hid h10
        clear h10
        go_wp2_with fail
        exact ⟨⟨k + 1, by omega, by go_num, by rw [H1.out, if_pos HX.out]; go_num, by rw [H2.out, if_pos HX.out]; go_num⟩, by simp [intOf]; omega⟩
      · have hd : (((s[k]'hi).toNat : Int) == 10) = false := by rw [HB.out, beq_eq_false_iff_ne]; omega
        go_wp2_with fail
        exact ⟨⟨k + 1, by omega, by go_num, by rw [H1.out, if_neg h10], by rw [H2.out, if_neg h10]⟩, by simp [intOf]; omega⟩
    · obtain rfl : k = n := by omega
      clear H1 H2
      go_wp2_with fail
      go_ret2
      exact ⟨by rw [HA.out, HB'.out]; rfl, rfl⟩
end Go.Proofs.YtokdpfapakemmaaDoor
