/- CorpusLines, walked. -/
import Derived.Test.YtokdpfapakemmaaDoorLinesP
import Derived.Test.YtokdpfapakemmaaDoorBrokenP
import Derived.Test.YtokdpfapakemmaaDoorAroundAny
namespace Go.Proofs.YtokdpfapakemmaaDoor
open Go.RowKit
open Go.Lib (Utf8Tabs)
set_option linter.unusedVariables false

theorem line_at {s : ByteArray} {i x : Nat} (hs : s.size ≤ 65536) (h : (linesTo s s.size)[i]? = some x) : lineS s (x : Int) = ((i : Int) + 1, 1, 0) := by
  obtain ⟨h1, h2, h3, h4, h5⟩ := (linesTo_spec s s.size).2.2 i x h
  unfold lineS
  rw [if_neg (by omega), if_neg (by omega)]
  simp only [Int.toNat_natCast]
  rw [h2, h3]
  have e : pcs (s.extract x x) = [] := pcsFrom_end _ 0 (by rw [ByteArray.size_extract]; omega)
  rw [e]
  rfl
def TrueOut (w : World) (e : Ending) (w' : World) : Prop := e = .returned (.bool true) ∧ Below w.heap.size w w'
def LoopSt (w1 : World) (n : Nat) (i : Value) (wr : World) : Prop := ∃ k : Nat, k ≤ n ∧ i = .int .i64 (k : Int) ∧ Below w1.heap.size w1 wr

set_option maxHeartbeats 8000000 in
set_option maxRecDepth 100000 in
theorem lines_walk (s : ByteArray) (a n m : Int) (w : World) (hm : s.size ≤ maxLen) (ha : -9223372036854775808 ≤ a ∧ a ≤ 9223372036854775807) (hn : -9223372036854775808 ≤ n ∧ n ≤ 9223372036854775807) (hmm : -9223372036854775808 ≤ m ∧ m ≤ 9223372036854775807) (hT : Utf8Tabs 1 2 w) :
    Calls Tryd.prog 4 #[.string s, .int .i64 a, .int .i64 n, .int .i64 m] w (TrueOut w) := by
  have hm0 := hm
  unfold maxLen at hm0
  by_cases hs : 4000 < s.size
  · clear ha hn hmm
    go_enter Tryd.func4, Tryd.ntmps4
    go_wp2_with fail
    refine (awake_any _).mono ?_
    rintro e w1 ⟨rfl, hb1⟩
    go_wp2_with fail
    go_ret
    exact ⟨rfl, hb1⟩
  · have hs' : s.size ≤ 4000 := by omega
    have hll := linesTo_le s s.size
    have hspec := (linesTo_spec s s.size).2.2
    have hpos : 0 < (linesTo s s.size).length := by have := (linesTo_spec s s.size).1; omega
    have hline := fun (i x : Nat) (h : (linesTo s s.size)[i]? = some x) wx => (line_any s (x : Int) wx hm (by omega) (by have := (hspec i x h).1; omega))
    have hL0 : (linesTo s s.size)[0]? = some 0 := by
      have h := List.getElem?_eq_getElem hpos
      rw [h, ((hspec 0 _ h).2.2.2.2 rfl)]
    have H1 := Lib.hid hspec
    have H2 := Lib.hid hline
    have HL := Lib.hid (fun wx => lines_any s wx (by omega))
    clear hspec hline
    go_enter Tryd.func4, Tryd.ntmps4
    go_wp2_with fail
    refine (awake_any _).mono ?_
    rintro e w1 ⟨rfl, hb1⟩
    have hz1 := hb1.size
    go_wp2_with fail
    refine (HL.out _).mono ?_
    rintro e w2 ⟨g, c, rfl, hown, hb2⟩
    have hb12 := hb1.trans (hb2.mono hz1)
    have hz2 := hb12.size
    obtain ⟨c0, f0⟩ := own_cel hown (j := 0) (u := .int .i64 0) (by unfold natCells; rw [List.getElem?_map, hL0]; rfl)
    have hglt := (hown.lt g rfl).2
    have HO := Lib.hid hown
    have H0 := Lib.hid hL0
    clear hown HL hL0
    have d1 : (((linesTo s s.size).length : Int) == 0) = false := by rw [beq_eq_false_iff_ne]; omega
    generalize hN : (linesTo s s.size).length = N at *
    have HN := Lib.hid hN
    clear hN
    go_wp2_with fail
    go_loopw [12] (fun i wr => LoopSt w2 N i wr) (fun i _ => N - (intOf i).toNat)
    case atStart => exact ⟨0, by omega, rfl, Below.refl _ _⟩
    case round =>
      obtain ⟨k, hk, rfl, hbr⟩ := hrel
      clear d1 c0 f0
      by_cases hlt : k < N
      · obtain ⟨x, hx⟩ : ∃ x, (linesTo s s.size)[k]? = some x := ⟨_, List.getElem?_eq_getElem (by rw [HN.out]; exact hlt)⟩
        have hcel : ∀ (j y : Nat), (linesTo s s.size)[j]? = some y → Cel wr g j (.int .i64 (y : Int)) := fun j y hy => (own_cel HO.out (j := j) (u := .int .i64 (y : Int)) (by unfold natCells; rw [List.getElem?_map, hy]; rfl)).keep (Kp.of_below hbr) (Nat.zero_le _) hglt
        obtain ⟨c0, f0⟩ := hcel k x hx
        have HC := Lib.hid hcel
        have hcall := H2.out k x hx wr
        unfold LineOut at hcall
        rw [line_at (by omega) hx] at hcall
        simp only at hcall
        have hK := Lib.hid hcall
        have hsp := H1.out k x hx
        have HX := Lib.hid hx
        clear hcel hcall hx
        cases k with
        | zero =>
          go_wp2_with fail
          refine hK.out.mono ?_
          rintro e w3 ⟨rfl, hb3⟩
          have hb3' := hbr.trans (hb3.mono hbr.size)
          clear hK HC
          go_wp2_with fail
          go_quiet (fail)
          go_wp2_with fail
          exact ⟨⟨1, by omega, by go_num, below_drewN hb3' _⟩, by simp [intOf]; omega⟩
        | succ k =>
          obtain ⟨g1, g2, g3, g4, _⟩ := hsp
          obtain ⟨y, g5, g6, g7⟩ := g4 (by omega)
          rw [Nat.add_sub_cancel] at g5
          obtain ⟨c1, f1⟩ := HC.out k y g5
          obtain ⟨z, rfl⟩ : ∃ z, x = z + 1 := ⟨x - 1, by omega⟩
          rw [Nat.add_sub_cancel] at g7
          have hzs : z < s.size := by omega
          have hbz : (((s[z]'hzs).toNat : Int) != 10) = false := by
            rw [bt_get s z hzs, g7]
            rfl
          clear g2 g3 g4 g5 g7
          go_wp2_with fail
          refine hK.out.mono ?_
          rintro e w3 ⟨rfl, hb3⟩
          have hb3' := hbr.trans (hb3.mono hbr.size)
          have c2 := (Cel.keep (Kp.of_below hb3) (Nat.zero_le _) (by have := hbr.size; omega) ⟨c0, f0⟩).1
          have c3 := (Cel.keep (Kp.of_below hb3) (Nat.zero_le _) (by have := hbr.size; omega) ⟨c1, f1⟩).1
          clear hK HC c0 f0 c1 f1
          have e0 : IntKind.i64.wrap ((k : Int) + 1 + 1) = (k : Int) + 1 + 1 := IntWalk.i64_in _ (by omega)
          have e1 : IntKind.i64.wrap ((k : Int) + 1 - 1) = (k : Int) := by rw [IntWalk.i64_in _ (by omega)]; omega
          have e2 : IntKind.i64.wrap ((z : Int) + 1 - 1) = (z : Int) := by rw [IntWalk.i64_in _ (by omega)]; omega
          have e3 : decide ((z : Int) + 1 ≤ (y : Int)) = false := by rw [decide_eq_false_iff_not]; omega
          have e4 : decide (0 < (k : Int) + 1) = true := by rw [decide_eq_true_eq]; omega
          have e5 : 0 ≤ (k : Int) ∧ (k : Int) + 1 < (N : Int) := by omega
          go_wp2_with fail
          go_quiet (fail)
          go_wp2_with fail
          exact ⟨⟨k + 1 + 1, by omega, by go_num, below_drewN hb3' _⟩, by simp [intOf]; omega⟩
      · obtain rfl : k = N := by omega
        clear H1 H2 HO H0 HN
        have hbw := hb12.trans (hbr.mono hz2)
        have hT3 := Utf8Tabs_below hT hbw
        have hA := around_p s a n m wr hm ha hn hmm hT3
        by_cases hbad : AroundBad s a n m
        · have he : aroundS s a n m = (⟨#[]⟩, ⟨#[]⟩, ⟨#[]⟩, 2) := by unfold aroundS; rw [if_neg (by omega), if_pos hbad]
          unfold AroundOut at hA
          rw [he] at hA
          simp only at hA
          have HA := Lib.hid hA
          clear hA he hbad
          go_wp2_with fail
          refine HA.out.mono ?_
          rintro e w4 ⟨rfl, hb4⟩
          have hb14 := hbw.trans (hb4.mono hbw.size)
          clear HA
          go_wp2_with fail
          go_ret
          exact ⟨rfl, hb14⟩
        · obtain ⟨a', n', m', rfl, rfl, rfl, g1, g2, g3⟩ := around_ok (show s.size ≤ 65536 by omega) hbad
          have he : aroundS s (a' : Int) (n' : Int) (m' : Int) = (leftT s a' m', hereT s a' n', rightT s (a' + n') m', 0) := by unfold aroundS; rw [if_neg (by omega), if_neg hbad]; rfl
          unfold AroundOut at hA
          rw [he] at hA
          simp only at hA
          have HA := Lib.hid hA
          have K1 := Lib.hid (fun wx hx => broken_any (s.extract 0 a') wx (by rw [ByteArray.size_extract]; omega) hx)
          have K2 := Lib.hid (fun wx hx => broken_any (s.extract a' (a' + n')) wx (by rw [ByteArray.size_extract]; omega) hx)
          have K3 := Lib.hid (fun wx hx => broken_any (s.extract (a' + n') s.size) wx (by rw [ByteArray.size_extract]; omega) hx)
          have L1 := Lib.hid (fun h => left_sound s a' m' g1 h)
          have L2 := Lib.hid (fun h => here_sound s a' n' h)
          have L3 := Lib.hid (fun h => right_sound s (a' + n') m' (by omega) h)
          clear hA he hbad
          generalize leftT s a' m' = L at *
          generalize hereT s a' n' = H at *
          generalize rightT s (a' + n') m' = R at *
          go_wp2_with fail
          refine HA.out.mono ?_
          rintro e w4 ⟨rfl, hb4⟩
          have hb14 := hbw.trans (hb4.mono hbw.size)
          clear HA
          go_wp2_with fail
          refine (K1.out _ (Utf8Tabs_below hT hb14)).mono ?_
          rintro e w5 ⟨⟨p, rfl, p1, p2, p3⟩, hb5⟩
          have hb15 := hb14.trans (hb5.mono hb14.size)
          have p3 := Lib.hid p3
          go_wp2_with fail
          refine (K2.out _ (Utf8Tabs_below hT hb15)).mono ?_
          rintro e w6 ⟨⟨q, rfl, q1, q2, q3⟩, hb6⟩
          have hb16 := hb15.trans (hb6.mono hb15.size)
          have q3 := Lib.hid q3
          go_wp2_with fail
          refine (K3.out _ (Utf8Tabs_below hT hb16)).mono ?_
          rintro e w7 ⟨⟨r, rfl, r1, r2, r3⟩, hb7⟩
          have hb17 := hb16.trans (hb7.mono hb16.size)
          have r3 := Lib.hid r3
          clear K1 K2 K3
          by_cases hp : 0 ≤ p
          · go_wp2_with fail
            go_ret
            exact ⟨rfl, hb17⟩
          · by_cases hq : 0 ≤ q
            · go_wp2_with fail
              go_ret
              exact ⟨rfl, hb17⟩
            · by_cases hr : 0 ≤ r
              · go_wp2_with fail
                go_ret
                exact ⟨rfl, hb17⟩
              · obtain ⟨f, f1, f2⟩ := L1.out (p3.out (by omega))
                have f3 := L2.out (q3.out (by omega))
                obtain ⟨t, f4, f5, f6⟩ := L3.out (r3.out (by omega))
                have z1 : L.size = a' - f := by rw [f2, ByteArray.size_extract]; omega
                have z2 : R.size = t - (a' + n') := by rw [f6, ByteArray.size_extract]; omega
                have z3 : (a' : Int) - (L.size : Int) = (f : Int) := by omega
                have z4 : (a' : Int) + (n' : Int) + (R.size : Int) = (t : Int) := by omega
                have z5 : s.extract f t = L ++ H ++ R := by
                  rw [f2, f3, f6, ext_join s _ _ _ (by omega) (by omega) (by omega), ext_join s _ _ _ (by omega) (by omega) (by omega)]
                have n1 : L.size ≤ 4000 := by omega
                have n2 : R.size ≤ 4000 := by omega
                have n3 : H.size ≤ 4000 := by rw [f3, ByteArray.size_extract]; omega
                have Z3 := Lib.hid z3
                have Z4 := Lib.hid z4
                have Z5 := Lib.hid z5
                have F3 := Lib.hid f3
                clear f2 f3 f6 z1 z2 z3 z4 z5
                go_upto_region 25 with (fail)
                rw [Z3.out, Z4.out]
                have e1 : (s.extract f t).toList = (L ++ H ++ R).toList := by rw [Z5.out]
                have e2 : H.toList = (s.extract a' (a' + n')).toList := by rw [F3.out]
                have e3 : (f : Int) ≤ (t : Int) := by omega
                have e4 : (t : Int) ≤ (s.size : Int) := by omega
                go_wp2_with fail
                go_ret
                exact ⟨rfl, hb17⟩
end Go.Proofs.YtokdpfapakemmaaDoor
