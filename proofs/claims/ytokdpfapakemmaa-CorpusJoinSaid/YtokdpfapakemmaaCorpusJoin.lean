/- CorpusJoin: for every text and every list of tokens the program joins as the document says, and the tokens stay. -/
import Derived.Test.YtokdpfapakemmaaJoinRef
import Derived.Test.YtokdpfapakemmaaLine
import Derived.Test.YtokdpfapakemmaaTokOpen
import Derived.Test.YtokdpfapakemmaaLaw
namespace Go.Proofs.Ytokdpfapakemmaa
open Go.RowKit
set_option linter.unusedVariables false

theorem join_long (s : ByteArray) (v : Value) (w : World) (hm : s.size ≤ maxLen) (hs : 65536 < s.size) :
    Calls Try.prog 6 #[.string s, v] w fun e w' => e = .returned (.tuple #[.string ⟨#[]⟩, .int .i64 3]) ∧ w = w' := by
  go_enter Try.func6, Try.ntmps6
  go_wp2_with (go_at_call 10; refine (text_no s _ hm hs).mono ?_; rintro e w' ⟨rfl, rfl⟩)
  go_ret2
  exact ⟨rfl, rfl⟩
theorem join_many (s : ByteArray) (A : Option Addr) (n c : Nat) (w : World) (hs : s.size ≤ 65536) (hn : 4096 < n) (hn' : n ≤ 9223372036854775807) :
    Calls Try.prog 6 #[.string s, .slice A n c] w fun e w' => e = .returned (.tuple #[.string ⟨#[]⟩, .int .i64 4]) ∧ w = w' := by
  go_enter Try.func6, Try.ntmps6
  go_wp2_with (go_at_call 10; refine (text_ok s _ hs).mono ?_; rintro e w' ⟨rfl, rfl⟩)
  go_ret2
  exact ⟨rfl, rfl⟩
theorem rjoin_long (s : ByteArray) (v : Value) (w : World) (hm : s.size ≤ maxLen) (hs : 65536 < s.size) :
    Calls Try.prog 7 #[.string s, v] w fun e w' => e = .returned (.tuple #[.string ⟨#[]⟩, .int .i64 3]) ∧ w = w' := by
  unfold maxLen at hm
  go_enter Try.func7, Try.ntmps7
  go_wp2
  go_ret2
  exact ⟨rfl, rfl⟩
theorem rjoin_many (s : ByteArray) (A : Option Addr) (n c : Nat) (w : World) (hs : s.size ≤ 65536) (hn : 4096 < n) (hn' : n ≤ 9223372036854775807) :
    Calls Try.prog 7 #[.string s, .slice A n c] w fun e w' => e = .returned (.tuple #[.string ⟨#[]⟩, .int .i64 4]) ∧ w = w' := by
  go_enter Try.func7, Try.ntmps7
  go_wp2
  go_ret2
  exact ⟨rfl, rfl⟩

theorem join_any (s : ByteArray) (A : Option Addr) (c : Nat) (l : List Tk) (w : World) (hm : s.size ≤ maxLen) (hn : l.length ≤ 9223372036854775807) (hsl : Sl 4 vTok w 0 w.heap.size A l) (hw : ∀ t ∈ l, t.word.size ≤ 140737488355328) :
    Calls Try.prog 6 #[.string s, .slice A l.length c] w fun e w' => e = .returned (.tuple #[.string (joinS s l).1, .int .i64 (joinS s l).2]) ∧ Below w.heap.size w w' := by
  by_cases h1 : 65536 < s.size
  · refine (join_long s _ w hm h1).mono ?_
    rintro e w' ⟨rfl, rfl⟩
    exact ⟨by rw [joinS, if_pos h1], Below.refl _ _⟩
  · by_cases h2 : 4096 < l.length
    · refine (join_many s A _ c w (by omega) h2 hn).mono ?_
      rintro e w' ⟨rfl, rfl⟩
      exact ⟨by rw [joinS, if_neg h1, if_pos h2], Below.refl _ _⟩
    · exact join_one s A c l w (by omega) (by omega) hsl hw
theorem rjoin_any (s : ByteArray) (A : Option Addr) (c : Nat) (l : List Tk) (w : World) (hm : s.size ≤ maxLen) (hn : l.length ≤ 9223372036854775807) (hsl : Sl 4 vTok w 0 w.heap.size A l) (hw : ∀ t ∈ l, t.word.size ≤ 140737488355328) :
    Calls Try.prog 7 #[.string s, .slice A l.length c] w fun e w' => e = .returned (.tuple #[.string (joinS s l).1, .int .i64 (joinS s l).2]) ∧ Below w.heap.size w w' := by
  by_cases h1 : 65536 < s.size
  · refine (rjoin_long s _ w hm h1).mono ?_
    rintro e w' ⟨rfl, rfl⟩
    exact ⟨by rw [joinS, if_pos h1], Below.refl _ _⟩
  · by_cases h2 : 4096 < l.length
    · refine (rjoin_many s A _ c w (by omega) h2 hn).mono ?_
      rintro e w' ⟨rfl, rfl⟩
      exact ⟨by rw [joinS, if_neg h1, if_pos h2], Below.refl _ _⟩
    · exact rjoin_one s A c l w (by omega) (by omega) hsl hw

theorem tok_one : ∀ {w : World} {lo hi : Nat} (cs : List Value) (x : Tk), vTok w lo hi cs x → ∀ u ∈ cs, u.oneCell' = true := by
  intro w lo hi cs x h u hu
  obtain ⟨rfl, _⟩ := h
  simp only [List.mem_cons, List.not_mem_nil, or_false] at hu
  rcases hu with rfl | rfl | rfl | rfl <;> rfl
theorem tok_info : (Try.prog.info? 34).map (fun i => (i.zero, i.size, i.bytes)) = some (some (.agg #[.int .i64 0, .int .i64 0, .string ⟨#[]⟩, .bool false]), 4, 40) := by kernel_rfl

set_option maxHeartbeats 2000000 in
set_option maxRecDepth 100000 in
theorem law_walk (s : ByteArray) (A : Option Addr) (c : Nat) (l : List Tk) (w : World) (hm : s.size ≤ maxLen) (hn : l.length * 40 ≤ 140737488355328) (hsl : Sl 4 vTok w 0 w.heap.size A l) (hw : ∀ t ∈ l, t.word.size ≤ 140737488355328) :
    Calls Try.prog 3 #[.string s, .slice A l.length c] w fun e w' => e = .returned (.bool true) ∧ Below w.heap.size w w' := by
  obtain ⟨i0, hi0, hz0, hz1, hz2⟩ := info_parts tok_info
  have hm0 := hm
  unfold maxLen at hm0
  have hn63 : l.length ≤ maxLen := by unfold maxLen; omega
  by_cases h1 : 4000 < s.size ∧ s.size ≤ 65536
  · go_enter Try.func3, Try.ntmps3
    go_wp2_with fail
    refine (awake_any _).mono ?_
    rintro e w1 ⟨rfl, hb1⟩
    go_wp2_with (go_at_call 5; refine (long_yes s _ h1.1 h1.2).mono ?_; rintro e w' ⟨rfl, rfl⟩)
    go_ret
    exact ⟨rfl, hb1⟩
  · by_cases h2 : 60 < l.length ∧ l.length ≤ 4096
    · obtain ⟨h2, h3⟩ := h2
      go_enter Try.func3, Try.ntmps3
      go_wp2_with fail
      refine (awake_any _).mono ?_
      rintro e w1 ⟨rfl, hb1⟩
      go_wp2_with (go_at_call 5; refine (long_no s _ hm (by omega)).mono ?_; rintro e w' ⟨rfl, rfl⟩)
      go_ret
      exact ⟨rfl, hb1⟩
    · rcases (show l.length ≤ 60 ∨ 4096 < l.length by omega) with h3 | h3
      all_goals
        go_enter Try.func3, Try.ntmps3
        go_wp2_with fail
        refine (awake_any _).mono ?_
        rintro e w1 ⟨rfl, hb1⟩
        have hs1 := hsl.below vTok_good hb1 (Nat.le_refl _)
        go_wp2_with (first
          | (go_at_call 5; refine (long_no s _ hm (by omega)).mono ?_; rintro e w' ⟨rfl, rfl⟩)
          | (at_builtin; refine wpList_append_copy _ rfl (.tmp 26) (.tmp 27) 22 rfl 34 i0 _ 40 Try.underlying22 hi0 hz0 hz1 hz2 rfl (by decide) rfl rfl hs1 (Nat.zero_le _) hb1.size vTok_good tok_one hn63 hn ?_))
        intro A' c' w2 hb2 hc1 hc2 hs2 _ _ _
        have hb12 : Below w.heap.size w w2 := hb1.trans (hb2.mono hb1.size)
        go_wp2_with fail
        refine (join_any s A' c' l w2 hm (by omega) hs2 hw).mono ?_
        rintro e w3 ⟨rfl, hb3⟩
        have hb13 : Below w.heap.size w w3 := hb12.trans (hb3.mono hb12.size)
        go_wp2_with fail
        refine (rjoin_any s A c l w3 hm (by omega) ((hsl.below vTok_good hb13 (Nat.le_refl _)).wide vTok_good (Nat.le_refl _) hb13.size) hw).mono ?_
        rintro e w4 ⟨rfl, hb4⟩
        have hb14 : Below w.heap.size w w4 := hb13.trans (hb4.mono hb13.size)
        have hs2' : Sl 4 vTok w4 0 w4.heap.size A' l := (hs2.below vTok_good (hb3.trans (hb4.mono hb3.size)) (Nat.le_refl _)).wide vTok_good (Nat.le_refl _) (Nat.le_trans hb3.size hb4.size)
        have hsl' : Sl 4 vTok w4 0 w4.heap.size A l := (hsl.below vTok_good hb14 (Nat.le_refl _)).wide vTok_good (Nat.le_refl _) hb14.size
        go_wp2_with (go_at_call 8; refine (sameTokens_yes A' A c' c l w4 hs2' hsl' (by omega)).mono ?_; rintro e w5 ⟨rfl, hb5⟩)
        go_ret
        exact ⟨rfl, hb14.trans (hb5.mono hb14.size)⟩
end Go.Proofs.Ytokdpfapakemmaa
