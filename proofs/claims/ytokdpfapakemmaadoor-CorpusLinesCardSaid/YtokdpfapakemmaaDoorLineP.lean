/- corpus.Line, walked; the two calls that every statement on corpora opens with. -/
import Derived.Test.YtokdpfapakemmaaDoorLineSpec
import Derived.Test.YtokdpfapakemmaaDoorBase
import Derived.Test.YtokdpfapakemmaaDoorChecked
import Derived.Test.YtokdpfapakemmaaDoorLineR
import Derived.Test.YtokdpfapakemmaaDoorShelf
import Derived.Deep.RegionWith
namespace Go.Proofs.YtokdpfapakemmaaDoor
open Go.RowKit
set_option linter.unusedVariables false

theorem text_ok (s : ByteArray) (w : World) (h : s.size ≤ 65536) :
    Calls Tryd.prog 19 #[.string s] w fun e w' => e = .returned (.int .i64 0) ∧ w = w' := by
  go_enter Tryd.func19, Tryd.ntmps19
  go_wp2
  go_ret
  exact ⟨rfl, rfl⟩
theorem text_no (s : ByteArray) (w : World) (hs : s.size ≤ maxLen) (h : 65536 < s.size) :
    Calls Tryd.prog 19 #[.string s] w fun e w' => e = .returned (.int .i64 3) ∧ w = w' := by
  unfold maxLen at hs
  go_enter Tryd.func19, Tryd.ntmps19
  go_wp2
  go_ret
  exact ⟨rfl, rfl⟩
def lineFrom (s : ByteArray) (p : Nat) : Int := Lib.lastIndexByte (s.extract 0 p) 10 + 1
theorem lastIdx_bd (s : ByteArray) (c : Int) (k : Nat) : -1 ≤ Lib.lastIdx s c k ∧ Lib.lastIdx s c k < k := by
  rcases Lib.lastIdx_spec s c k with ⟨h, _⟩ | ⟨i, hi, h, _⟩ <;> omega
theorem lineFrom_bd (s : ByteArray) (p : Nat) (h : p ≤ s.size) : 0 ≤ lineFrom s p ∧ lineFrom s p ≤ p := by
  have := lastIdx_bd (s.extract 0 p) 10 (s.extract 0 p).size
  unfold lineFrom Lib.lastIndexByte
  simp only [ByteArray.size_extract] at this ⊢
  omega

set_option maxHeartbeats 1000000 in
theorem line_ok (s : ByteArray) (p : Nat) (w : World) (hs : s.size ≤ 65536) (h1 : p ≤ s.size) :
    Calls Tryd.prog 8 #[.string s, .int .i64 (p : Int)] w fun e w' => e = .returned (.tuple #[.int .i64 ((Lib.countByte (s.extract 0 p).data.toList 10 : Int) + 1), .int .i64 ((Lib.runeCount (s.extract (lineFrom s p).toNat p) : Int) + 1), .int .i64 0]) ∧ Below w.heap.size w w' := by
  have hb := lineFrom_bd s p h1
  have hc : (Lib.countByte (s.extract 0 p).data.toList 10 : Int) ≤ 65536 := by
    unfold Lib.countByte
    have := List.count_le_length (a := (10 : UInt8)) (l := (s.extract 0 p).data.toList)
    simp only [Array.length_toList, ByteArray.size_data, ByteArray.size_extract] at this
    omega
  have hr : (Lib.runeCount (s.extract (lineFrom s p).toNat p) : Int) ≤ 65536 := by
    have := Lib.runeCount_le (s.extract (lineFrom s p).toNat p)
    simp only [ByteArray.size_extract] at this
    omega
  generalize hf : lineFrom s p = f at *
  obtain ⟨q, rfl⟩ := Int.eq_ofNat_of_zero_le hb.1
  have hq : q ≤ p := by omega
  have HF := Lib.hid hf
  clear hf hb
  generalize hcd : Lib.countByte (s.extract 0 p).data.toList 10 = C at *
  generalize hrd : Lib.runeCount (s.extract ((q : Int).toNat) p) = R at *
  have HC := Lib.hid hcd
  have HR := Lib.hid hrd
  clear hcd hrd
  go_enter Tryd.func8, Tryd.ntmps8
  go_wp2_with (go_at_call 19; refine (text_ok s _ (by omega)).mono ?_; rintro e w' ⟨rfl, rfl⟩)
  refine (calls_flip (Tryd.strings_LastIndexByte (s.extract 0 p) 10 (by simp only [ByteArray.size_extract]; omega) _)).mono ?_
  rintro e w' ⟨rfl, rfl⟩
  rw [show Lib.lastIndexByte (s.extract 0 p) 10 = (q : Int) - 1 by have := HF.out; unfold lineFrom at this; omega]
  go_wp2_with fail
  have w1 : IntKind.i64.wrap ((C : Int) + 1) = (C : Int) + 1 := IntWalk.i64_in _ (by omega)
  have w2 : IntKind.i64.wrap ((R : Int) + 1) = (R : Int) + 1 := IntWalk.i64_in _ (by omega)
  go_region_with (first
    | (go_at_call 21; refine (calls_flip (Tryd.strings_Count_one (s.extract 0 p) 10 _)).mono ?_; rintro e w' ⟨rfl, rfl⟩; rw [HC.out])
    | (go_at_call 22; refine (Tryd.utf8_RuneCountInString (s.extract q p) _ (by simp only [ByteArray.size_extract]; omega)).mono ?_; rintro e w' ⟨rfl, pos, rfl⟩; rw [show Lib.runeCount (s.extract q p) = R from HR.out]))
  all_goals go_wp2_with fail
  all_goals go_ret3
  all_goals exact ⟨rfl, below_iter (Below.refl _ _).drew (Nat.le_refl _) _ _⟩

theorem line_bad (s : ByteArray) (p : Int) (w : World) (hs : s.size ≤ 65536) (hp : -9223372036854775808 ≤ p ∧ p ≤ 9223372036854775807) (h1 : p < 0 ∨ s.size < p) :
    Calls Tryd.prog 8 #[.string s, .int .i64 p] w fun e w' => e = .returned (.tuple #[.int .i64 0, .int .i64 0, .int .i64 2]) ∧ w = w' := by
  by_cases h : p < 0
  · go_enter Tryd.func8, Tryd.ntmps8
    go_wp2_with (go_at_call 19; refine (text_ok s _ (by omega)).mono ?_; rintro e w' ⟨rfl, rfl⟩)
    go_ret3
    exact ⟨rfl, rfl⟩
  · have h2 : (s.size : Int) < p := by omega
    go_enter Tryd.func8, Tryd.ntmps8
    go_wp2_with (go_at_call 19; refine (text_ok s _ (by omega)).mono ?_; rintro e w' ⟨rfl, rfl⟩)
    all_goals go_ret3
    all_goals exact ⟨rfl, rfl⟩

theorem line_long (s : ByteArray) (p : Int) (w : World) (hm : s.size ≤ maxLen) (hs : 65536 < s.size) :
    Calls Tryd.prog 8 #[.string s, .int .i64 p] w fun e w' => e = .returned (.tuple #[.int .i64 0, .int .i64 0, .int .i64 3]) ∧ w = w' := by
  go_enter Tryd.func8, Tryd.ntmps8
  go_wp2_with (go_at_call 19; refine (text_no s _ hm hs).mono ?_; rintro e w' ⟨rfl, rfl⟩)
  go_ret3
  exact ⟨rfl, rfl⟩

theorem awake_any (w : World) : Calls Tryd.prog 6 #[] w fun e w' => e = .returned (.bool true) ∧ Below w.heap.size w w' := by
  have e1 : (Lib.countByte ((⟨#[120, 10, 121, 10]⟩ : ByteArray).extract 0 2).data.toList 10 : Int) + 1 = 2 := by decide +kernel
  have e2 : (Lib.runeCount ((⟨#[120, 10, 121, 10]⟩ : ByteArray).extract (lineFrom ⟨#[120, 10, 121, 10]⟩ 2).toNat 2) : Int) + 1 = 1 := by decide +kernel
  have hl := line_ok ⟨#[120, 10, 121, 10]⟩ 2 w (by decide) (by decide)
  rw [e1, e2] at hl
  have HL := Lib.hid hl
  clear hl e1 e2
  go_enter Tryd.func6, Tryd.ntmps6
  go_wp2_with fail
  refine HL.out.mono ?_
  rintro e w1 ⟨rfl, hb⟩
  go_wp2_with fail
  go_ret
  exact ⟨rfl, hb⟩

theorem long_no (s : ByteArray) (w : World) (hm : s.size ≤ maxLen) (h : s.size ≤ 4000 ∨ 65536 < s.size) : Calls Tryd.prog 7 #[.string s] w fun e w' => e = .returned (.bool false) ∧ w = w' := by
  unfold maxLen at hm
  by_cases h1 : 65536 < s.size
  all_goals
    go_enter Tryd.func7, Tryd.ntmps7
    go_wp2
    go_ret
    exact ⟨by first | (simp; done) | (simp; omega), rfl⟩
theorem long_yes (s : ByteArray) (w : World) (h1 : 4000 < s.size) (h2 : s.size ≤ 65536) : Calls Tryd.prog 7 #[.string s] w fun e w' => e = .returned (.bool true) ∧ w = w' := by
  go_enter Tryd.func7, Tryd.ntmps7
  go_wp2
  go_ret
  exact ⟨by first | (simp; done) | (simp; omega), rfl⟩

/-- corpus.Line answers as the document says. -/
theorem line_any (s : ByteArray) (a : Int) (w : World) (hm : s.size ≤ maxLen) (h0 : -9223372036854775808 ≤ a) (h1 : a ≤ 9223372036854775807) :
    Calls Tryd.prog 8 #[.string s, .int .i64 a] w fun e w' => LineOut s a e ∧ Below w.heap.size w w' := by
  by_cases hs : 65536 < s.size
  · refine (line_long s a w hm hs).mono ?_
    rintro e w' ⟨rfl, rfl⟩
    exact ⟨by unfold LineOut lineS; rw [if_pos hs], Below.refl _ _⟩
  · by_cases ha : a < 0 ∨ (s.size : Int) < a
    · refine (line_bad s a w (by omega) ⟨h0, h1⟩ ha).mono ?_
      rintro e w' ⟨rfl, rfl⟩
      exact ⟨by unfold LineOut lineS; rw [if_neg hs, if_pos ha], Below.refl _ _⟩
    · obtain ⟨n, rfl⟩ := Int.eq_ofNat_of_zero_le (show 0 ≤ a by omega)
      refine (line_ok s n w (by omega) (by omega)).mono ?_
      rintro e w' ⟨rfl, hb⟩
      refine ⟨?_, hb⟩
      unfold LineOut lineS
      rw [if_neg hs, if_neg ha]
      have e1 := count_lineN s n (by omega)
      have e2 : (lineFrom s n).toNat = lineB s n := by
        unfold lineFrom
        rw [last_lineB s n (by omega)]
        omega
      rw [e1, e2, runeCount_eq]
      rfl
end Go.Proofs.YtokdpfapakemmaaDoor
