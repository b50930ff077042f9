/- cognateref24.Join, walked. -/
import Derived.Test.YtokdpfapakemmaaJoin
namespace Go.Proofs.Ytokdpfapakemmaa
open Go.RowKit
set_option linter.unusedVariables false

theorem vTok_good : vTok.Good := ⟨fun _ h => h, fun _ _ h => h⟩

set_option maxHeartbeats 4000000 in
set_option maxRecDepth 100000 in
theorem rjoin_one (s : ByteArray) (A : Option Addr) (c : Nat) (l : List Tk) (w : World) (hs : s.size ≤ 65536) (hl : l.length ≤ 4096) (hsl : Sl 4 vTok w 0 w.heap.size A l) (hw : ∀ t ∈ l, t.word.size ≤ 140737488355328) :
    Calls Try.prog 7 #[.string s, .slice A l.length c] w fun e w' => e = .returned (.tuple #[.string (joinS s l).1, .int .i64 (joinS s l).2]) ∧ Below w.heap.size w w' := by
  go_enter Try.func7, Try.ntmps7
  go_wp2_with fail
  go_loopw [6, 7] (fun at_ i wr => ∃ (k : Nat) (a M : Int), k ≤ l.length ∧ i = .int .i64 k ∧ at_ = .int .i64 a ∧ 0 ≤ a ∧ a ≤ s.size ∧ Hid (jCheck s.size 0 s.size l = jCheck s.size a M (l.drop k)) ∧ Below w.heap.size w wr) (fun _ i _ => l.length - (intOf i).toNat)
  case atStart => exact ⟨0, 0, s.size, by omega, rfl, rfl, by omega, by omega, rfl, Below.refl _ _⟩
  case round =>
    obtain ⟨k, a, M, hk, rfl, rfl, ha, ha', hj, hbw⟩ := hrel
    have hbz := hbw.size
    by_cases hlt : k < l.length
    · obtain ⟨b, off, rfl, _, hb, c0, c1, c2, c3, k0, k1⟩ := tok_at (hsl.below vTok_good hbw (Nat.le_refl _)) hlt
      obtain ⟨c0, f0⟩ := c0
      obtain ⟨c1, f1⟩ := c1
      obtain ⟨c2, f2⟩ := c2
      obtain ⟨c3, f3⟩ := c3
      have hi1 : 0 ≤ (k : Int) := by omega
      have hi2 : (k : Int) < (l.length : Int) := by omega
      have hstep : jCheck s.size a M (l.drop k) = if jBad s.size a l[k] then none else jCheck s.size (l[k].at_ + l[k].len) (if l[k].broken then M else M + (l[k].word.size - l[k].len)) (l.drop (k + 1)) := by
        rw [List.drop_eq_getElem_cons hlt]; rfl
      have hS := Lib.hid hstep
      clear hstep
      by_cases h1 : l[k].at_ < a
      · have dh1 : decide (l[k].at_ < a) = true := by simpa using h1
        have hbad : jBad s.size a l[k] := by unfold jBad; omega
        have hfin : joinS s l = (⟨#[]⟩, 2) := joinS_none hs hl (by rw [hj.out, hS.out, if_pos hbad])
        have hF := Lib.hid hfin
        clear hfin hbad
        go_wp2_with fail
        go_quiet (fail)
        go_wp2_with fail
        go_ret2
        exact ⟨by rw [hF.out]; rfl, below_drewN hbw _⟩
      · have dh1 : decide (l[k].at_ < a) = false := by simpa using h1
        by_cases h2 : (s.size : Int) < l[k].at_
        · have dh2 : decide ((s.size : Int) < l[k].at_) = true := by simpa using h2
          have hbad : jBad s.size a l[k] := by unfold jBad; omega
          have hfin : joinS s l = (⟨#[]⟩, 2) := joinS_none hs hl (by rw [hj.out, hS.out, if_pos hbad])
          have hF := Lib.hid hfin
          clear hfin hbad
          go_wp2_with fail
          go_quiet (fail)
          go_wp2_with fail
          go_ret2
          exact ⟨by rw [hF.out]; rfl, below_drewN hbw _⟩
        · have dh2 : decide ((s.size : Int) < l[k].at_) = false := by simpa using h2
          by_cases h3 : l[k].len < 0
          · have dh3 : decide (l[k].len < 0) = true := by simpa using h3
            have hbad : jBad s.size a l[k] := by unfold jBad; omega
            have hfin : joinS s l = (⟨#[]⟩, 2) := joinS_none hs hl (by rw [hj.out, hS.out, if_pos hbad])
            have hF := Lib.hid hfin
            clear hfin hbad
            go_wp2_with fail
            go_quiet (fail)
            go_wp2_with fail
            go_ret2
            exact ⟨by rw [hF.out]; rfl, below_drewN hbw _⟩
          · have dh3 : decide (l[k].len < 0) = false := by simpa using h3
            by_cases h4 : (s.size : Int) - l[k].at_ < l[k].len
            · have dh4 : decide ((s.size : Int) - l[k].at_ < l[k].len) = true := by simpa using h4
              have hbad : jBad s.size a l[k] := by unfold jBad; omega
              have hfin : joinS s l = (⟨#[]⟩, 2) := joinS_none hs hl (by rw [hj.out, hS.out, if_pos hbad])
              have hF := Lib.hid hfin
              clear hfin hbad
              go_wp2_with fail
              go_quiet (fail)
              go_wp2_with fail
              go_ret2
              exact ⟨by rw [hF.out]; rfl, below_drewN hbw _⟩
            · have dh4 : decide ((s.size : Int) - l[k].at_ < l[k].len) = false := by simpa using h4
              have hbad : ¬ jBad s.size a l[k] := by unfold jBad; omega
              have hnx : jCheck s.size 0 s.size l = jCheck s.size (l[k].at_ + l[k].len) (if l[k].broken then M else M + (l[k].word.size - l[k].len)) (l.drop (k + 1)) := by rw [hj.out, hS.out, if_neg hbad]
              have hN := Lib.hid hnx
              clear hnx hbad hS
              go_wp2_with fail
              go_quiet (fail)
              go_wp2_with fail
              go_quiet (fail)
              go_wp2_with fail
              exact ⟨⟨k + 1, _, _, by omega, by go_num, rfl, by omega, by omega, hN.out, below_drewN hbw _⟩, by simp [intOf]; omega⟩
    · obtain rfl : k = l.length := by omega
      have hJ2 : Hid (jCheck s.size 0 s.size l = some M) := by
        show _ = _
        rw [hj.out, List.drop_length]; rfl
      have hok : Hid (jOk s.size 0 l) := jCheck_ok hJ2.out
      have hlen : ((jOut s.data.toList 0 l).length : Int) = M := by
        have := jOut_length (s := s.data.toList) (l := l) (a := 0) (m := s.size) (q := M) (by omega) (by simp) (by exact hJ2.out)
        simp only [Array.length_toList, ByteArray.size_data] at this
        simpa using this
      have hfin : joinS s l = if 1048576 < (jOut s.data.toList 0 l).length then (⟨#[]⟩, 4) else (⟨(jOut s.data.toList 0 l).toArray⟩, 0) := by
        rw [joinS_some hs hl hJ2.out, ← hlen]
        by_cases h : 1048576 < (jOut s.data.toList 0 l).length
        · rw [if_pos h, if_pos (by omega)]
        · rw [if_neg h, if_neg (by omega)]
      have hF := Lib.hid hfin
      clear hfin hj hlen
      obtain ⟨wo, hwo⟩ : ∃ wo : World, wo = wr := ⟨_, rfl⟩
      subst hwo
      go_wp2_with fail
      go_loopw [6, 8, 9] (fun at_ o i w2 => ∃ (k a : Nat) (out : ByteArray), k ≤ l.length ∧ i = .int .i64 k ∧ at_ = .int .i64 a ∧ o = .string out ∧ a ≤ s.size ∧ out.size ≤ 1048576 ∧ Hid (jOk s.size a (l.drop k)) ∧ Hid (out.data.toList ++ jOut s.data.toList a (l.drop k) = jOut s.data.toList 0 l) ∧ Below w.heap.size w w2) (fun _ _ i _ => l.length - (intOf i).toNat)
      case atStart => exact ⟨0, 0, ⟨#[]⟩, by omega, rfl, rfl, rfl, by omega, by simp [ByteArray.size], hok, rfl, hbw⟩
      case round =>
        obtain ⟨k, a, out, hk, rfl, rfl, rfl, ha, hos, hok, hout, hbw2⟩ := hrel
        have hbz2 := hbw2.size
        by_cases hlt : k < l.length
        · obtain ⟨b, off, rfl, _, hb, c0, c1, c2, c3, k0, k1⟩ := tok_at (hsl.below vTok_good hbw2 (Nat.le_refl _)) hlt
          have hd : l.drop k = l[k] :: l.drop (k + 1) := List.drop_eq_getElem_cons hlt
          have hws := hw _ (List.getElem_mem hlt)
          rw [hd] at hok hout
          have hok1 : ¬ jBad s.size a l[k] := hok.out.1
          have hok2 : Hid (jOk s.size (l[k].at_ + l[k].len) (l.drop (k + 1))) := hok.out.2
          generalize hg : l[k] = t at *
          have hn : (a : Int) ≤ t.at_ ∧ t.at_ ≤ s.size ∧ 0 ≤ t.len ∧ t.len ≤ s.size - t.at_ := by unfold jBad at hok1; omega
          obtain ⟨n1, n2, n3, n4⟩ := hn
          obtain ⟨at_, len, word, broken⟩ := t
          simp only at *
          obtain ⟨p, hp⟩ := Int.eq_ofNat_of_zero_le (show 0 ≤ at_ by omega)
          obtain ⟨q, hq⟩ := Int.eq_ofNat_of_zero_le n3
          subst hp hq
          obtain ⟨c0, f0⟩ := c0
          obtain ⟨c1, f1⟩ := c1
          obtain ⟨c2, f2⟩ := c2
          obtain ⟨c3, f3⟩ := c3
          have HG := Lib.hid hg
          clear hg hd
          have hi1 : 0 ≤ (k : Int) := by omega
          have hi2 : (k : Int) < (l.length : Int) := by omega
          cases broken with
          | true =>
            have ho1 : (out ++ s.extract a p ++ s.extract p (p + q)).data.toList ++ jOut s.data.toList (p + q) (l.drop (k + 1)) = jOut s.data.toList 0 l := by
              rw [← hout.out, bytes_app, bytes_app, bytes_ext, bytes_ext, List.append_assoc, List.append_assoc]; rfl
            have hz : out.size + (min p s.size - a) + (min (p + q) s.size - p) ≤ (jOut s.data.toList 0 l).length := by
              have := congrArg List.length ho1
              simp only [List.length_append, Array.length_toList, ByteArray.size_data, ByteArray.size_append, ByteArray.size_extract] at this
              omega
            have HO := Lib.hid ho1
            clear ho1 hout hok
            go_wp2_with fail
            go_quiet (fail)
            go_wp2_with fail
            all_goals first
              | (have hbig : 1048576 < (jOut s.data.toList 0 l).length := by omega
                 have hfin : joinS s l = (⟨#[]⟩, 4) := by rw [hF.out, if_pos hbig]
                 go_ret2
                 exact ⟨by rw [hfin]; rfl, below_drewN hbw2 _⟩)
              | exact ⟨⟨k + 1, p + q, _, by omega, by go_num, by go_num, rfl, by omega, by simp only [ByteArray.size_append, ByteArray.size_extract]; omega, hok2, HO.out, below_drewN hbw2 _⟩, by simp [intOf]; omega⟩
          | false =>
            have ho1 : (out ++ s.extract a p ++ word).data.toList ++ jOut s.data.toList (p + q) (l.drop (k + 1)) = jOut s.data.toList 0 l := by
              rw [← hout.out, bytes_app, bytes_app, bytes_ext, List.append_assoc, List.append_assoc]; rfl
            have hz : out.size + (min p s.size - a) + word.size ≤ (jOut s.data.toList 0 l).length := by
              have := congrArg List.length ho1
              simp only [List.length_append, Array.length_toList, ByteArray.size_data, ByteArray.size_append, ByteArray.size_extract] at this
              omega
            have HO := Lib.hid ho1
            clear ho1 hout hok
            go_wp2_with fail
            go_quiet (fail)
            go_wp2_with fail
            all_goals first
              | (have hbig : 1048576 < (jOut s.data.toList 0 l).length := by omega
                 have hfin : joinS s l = (⟨#[]⟩, 4) := by rw [hF.out, if_pos hbig]
                 go_ret2
                 exact ⟨by rw [hfin]; rfl, below_drewN hbw2 _⟩)
              | exact ⟨⟨k + 1, p + q, _, by omega, by go_num, by go_num, rfl, by omega, by simp only [ByteArray.size_append, ByteArray.size_extract]; omega, hok2, HO.out, below_drewN hbw2 _⟩, by simp [intOf]; omega⟩
        · obtain rfl : k = l.length := by omega
          have ho1 : (out ++ s.extract a s.size).data.toList = jOut s.data.toList 0 l := by
            rw [← hout.out, bytes_app, bytes_ext, List.drop_length, List.take_of_length_le (by simp)]; rfl
          have hz : out.size + (s.size - a) = (jOut s.data.toList 0 l).length := by
            have := congrArg List.length ho1
            simp only [Array.length_toList, ByteArray.size_data, ByteArray.size_append, ByteArray.size_extract] at this
            omega
          have HO := Lib.hid ho1
          have HZ := Lib.hid hz
          clear ho1 hout hok hz
          go_wp2_with fail
          all_goals go_ret2
          · have hfin : joinS s l = (⟨#[]⟩, 4) := by rw [hF.out, if_pos (by have := HZ.out; omega)]
            exact ⟨by rw [hfin]; rfl, hbw2⟩
          · have hfin : joinS s l = (out ++ s.extract a s.size, 0) := by rw [hF.out, if_neg (by have := HZ.out; omega), ← HO.out]
            exact ⟨by rw [hfin]; rfl, hbw2⟩

set_option maxHeartbeats 1000000 in
/-- Two lists of tokens that are one. -/
theorem sameTokens_yes (A B : Option Addr) (c d : Nat) (l : List Tk) (w : World) (hA : Sl 4 vTok w 0 w.heap.size A l) (hB : Sl 4 vTok w 0 w.heap.size B l) (hl : l.length ≤ 9223372036854775807) :
    Calls Try.prog 8 #[.slice A l.length c, .slice B l.length d] w fun e w' => e = .returned (.bool true) ∧ Below w.heap.size w w' := by
  go_enter Try.func8, Try.ntmps8
  go_wp2_with fail
  go_loopw [5] (fun i wr => ∃ k : Nat, k ≤ l.length ∧ i = .int .i64 k ∧ Below w.heap.size w wr) (fun i _ => l.length - (intOf i).toNat)
  case atStart => exact ⟨0, by omega, rfl, Below.refl _ _⟩
  case round =>
    obtain ⟨k, hk, rfl, hbw⟩ := hrel
    by_cases hlt : k < l.length
    · obtain ⟨b, off, rfl, _, hb, c0, c1, c2, c3, k0, k1⟩ := tok_at (hA.below vTok_good hbw (Nat.le_refl _)) hlt
      obtain ⟨b', off', rfl, _, hb', c0', c1', c2', c3', _, _⟩ := tok_at (hB.below vTok_good hbw (Nat.le_refl _)) hlt
      obtain ⟨c0, f0⟩ := c0
      obtain ⟨c1, f1⟩ := c1
      obtain ⟨c2, f2⟩ := c2
      obtain ⟨c3, f3⟩ := c3
      obtain ⟨c0', _⟩ := c0'
      obtain ⟨c1', _⟩ := c1'
      obtain ⟨c2', _⟩ := c2'
      obtain ⟨c3', _⟩ := c3'
      have hi1 : 0 ≤ (k : Int) := by omega
      have hi2 : (k : Int) < (l.length : Int) := by omega
      go_wp2_with fail
      go_quiet (fail)
      go_wp2_with fail
      exact ⟨⟨k + 1, by omega, by go_num, below_drewN hbw _⟩, by simp [intOf]; omega⟩
    · go_wp2_with fail
      go_ret
      exact ⟨rfl, hbw⟩
end Go.Proofs.Ytokdpfapakemmaa
