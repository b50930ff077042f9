/- WordPeaks: the statement's walk. -/
import Derived.Test.YtfjccjjdgbkbiaaDoorWordLetters
import Derived.Test.YtfjccjjdgbkbiaaDoorSyl
import Derived.Test.YtfjccjjdgbkbiaaDoorSylR
import Derived.Test.YtfjccjjdgbkbiaaDoorSameSyl
namespace Go.Proofs.YtfjccjjdgbkbiaaDoor
open Go.RowKit
open Go.Lib (Utf8Tabs)
set_option linter.unusedVariables false

theorem syl_len (a : Al) (s : ByteArray) (p m : Nat) : (sylS a s p m).1.length ≤ 64 := by
  unfold sylS
  have h := (peaks_up a s p m).2.2
  split
  · simp
  · unfold spansL
    split
    · simp
    · rw [List.length_append, cutL_len]
      simp only [List.length_cons, List.length_nil]
      omega
set_option maxHeartbeats 8000000 in
set_option maxRecDepth 100000 in
theorem peaks_walk (A1 A2 : Option Addr) (c1 c2 : Nat) (a : Al) (s : ByteArray) (p m : Nat) (w : World) (hin : AlIn w 0 w.heap.size A1 A2 a) (hT : Utf8Tabs 0 1 w)
    (hm : s.size ≤ maxLen) (hp : p < 4294967296) (hmm : m < 4294967296) :
    Calls Tryd.prog 4 #[.agg #[.slice A1 a.feats.length c1, .slice A2 a.lets.length c2], .string s, .int .u32 (p : Int), .int .u32 (m : Int)] w fun e w' => e = .returned (.bool true) ∧ Below w.heap.size w w' := by
  have hs0 := LSt.new A1 A2 c1 c2 a w hin hT
  have HP1 := Lib.hid (fun (wx : World) (h : LSt A1 A2 c1 c2 a w wx) => peaks_any A1 A2 c1 c2 0 a s p m wx h.al h.tabs hm hp hmm)
  have HP2 := Lib.hid (fun (wx : World) (h : LSt A1 A2 c1 c2 a w wx) => rpeaks_any A1 A2 c1 c2 0 a s p m wx h.al h.tabs hm hp hmm)
  have HS1 := Lib.hid (fun (wx : World) (h : LSt A1 A2 c1 c2 a w wx) => syl_any A1 A2 c1 c2 0 a s p m wx h.al h.tabs hm hp hmm)
  have HS2 := Lib.hid (fun (wx : World) (h : LSt A1 A2 c1 c2 a w wx) => rsyl_any A1 A2 c1 c2 0 a s p m wx h.al h.tabs hm hp hmm)
  have hlp := (peaks_up a s p m).2.2
  have hls := syl_len a s p m
  generalize peaksS a s p m = P at *
  generalize sylS a s p m = X at *
  obtain ⟨lp, EP⟩ := P
  obtain ⟨lx, EX⟩ := X
  simp only at hlp hls
  have HAW := Lib.hid (fun (wx : World) (h : LSt A1 A2 c1 c2 a w wx) => awake_any wx h.tabs)
  clear hin hT
  go_enter Tryd.func4, Tryd.ntmps4
  go_wp2_with fail
  refine (HAW.out _ hs0).mono ?_
  rintro e w1 ⟨rfl, hb1⟩
  have hs1 := hs0.on hb1
  have hl1 := hs1.row.lt
  obtain ⟨hr1, _⟩ := hs1.row.cel (i := 0) rfl
  obtain ⟨hq1, _⟩ := hs1.row.cel (i := 1) rfl
  clear hb1 hs0 HAW
  go_wp2_with fail
  refine (HP1.out _ hs1).mono ?_
  rintro e w2 ⟨AP, cp, rfl, hp2, hb2⟩
  have hs2 := hs1.on hb2
  have hl2 := hs2.row.lt
  obtain ⟨hr2, _⟩ := hs2.row.cel (i := 0) rfl
  obtain ⟨hq2, _⟩ := hs2.row.cel (i := 1) rfl
  clear hs1 hr1 hq1
  go_wp2_with fail
  refine (HP2.out _ hs2).mono ?_
  rintro e w3 ⟨AQ, cq, rfl, hq3, hb3⟩
  have hs3 := hs2.on hb3
  have hl3 := hs3.row.lt
  have hp3 := own_below hp2 hb3
  obtain ⟨hr3, _⟩ := hs3.row.cel (i := 0) rfl
  obtain ⟨hqq3, _⟩ := hs3.row.cel (i := 1) rfl
  clear hs2 hr2 hq2 hp2
  go_wp2_with fail
  refine (HS1.out _ hs3).mono ?_
  rintro e w4 ⟨AX, cx, rfl, hx4, hb4⟩
  have hs4 := hs3.on hb4
  have hl4 := hs4.row.lt
  have hp4 := own_below hp3 hb4
  have hq4 := own_below hq3 hb4
  have hxlt := fun g hg => (hx4.lt g hg).2
  obtain ⟨hr4, _⟩ := hs4.row.cel (i := 0) rfl
  obtain ⟨hqq4, _⟩ := hs4.row.cel (i := 1) rfl
  have HST3 := Lib.hid hs3
  clear hs3 hr3 hqq3 hp3 hq3
  go_wp2_with fail
  refine (HS2.out _ hs4).mono ?_
  rintro e w5 ⟨AY, cy, rfl, hy5, hb5⟩
  have hp5 := own_below hp4 hb5
  have hq5 := own_below hq4 hb5
  have hx5 := own_below hx4 hb5
  have hz5 := hb5.size
  have HI := Lib.hid (sameInts_yes AP AQ cp cq _ _ lp w5 hp5 hq5 hlp)
  clear hs4 hr4 hqq4 hp4 hq4 hp5 hq5 hx4
  have t1 : (EP == EP) = true := by simp
  have t2 : (EX == EX) = true := by simp
  have HX5 := Lib.hid hx5
  have HY5 := Lib.hid hy5
  clear hx5 hy5
  go_wp2_with fail
  refine HI.out.mono ?_
  rintro e w6 ⟨rfl, hb6⟩
  have hx6 := own_below HX5.out hb6
  have hy6 := own_below HY5.out hb6
  have HSS := Lib.hid (sameSpans_yes AX AY cx cy _ _ lx w6 hx6 hy6 hls)
  have HX6 := Lib.hid hx6
  have HY6 := Lib.hid hy6
  clear hx6 hy6 HI HX5 HY5
  go_wp2_with fail
  refine HSS.out.mono ?_
  rintro e w10 ⟨rfl, hb7⟩
  have HX := Lib.hid (own_below HX6.out hb7)
  have HY := Lib.hid (own_below HY6.out hb7)
  have HB := Lib.hid (hb4.trans ((hb5.trans ((hb6.trans (hb7.mono hb6.size)).mono hb5.size)).mono hb4.size))
  have HXL := Lib.hid hxlt
  clear hxlt HSS HX6 HY6 hb4 hb5 hb6 hb7 t1 t2
  have HO : Hid (∃ vs : List Value, vs.length = lx.length * 2 ∧ w10.ownsRow w3.heap.size 48 2 (.slice AX lx.length cx) lx.length vs) := ⟨_, spVs_len lx, HX.out⟩
  go_wp2_with fail
  go_loopw [19] (fun i wr => ∃ k : Nat, k ≤ lx.length ∧ i = .int .i64 (k : Int) ∧ Hid (∃ vs : List Value, vs.length = lx.length * 2 ∧ wr.ownsRow w3.heap.size 48 2 (.slice AX lx.length cx) lx.length vs) ∧ Hid (Fr (fun g => (Value.slice AX lx.length cx).ownBlock = some g) w10 wr)) (fun i _ => lx.length - (intOf i).toNat)
  case atStart => exact ⟨0, by omega, rfl, HO, Fr.refl _ _⟩
  case round =>
    obtain ⟨k, hk, rfl, hO, hF⟩ := hrel
    by_cases hlt : k < lx.length
    · obtain ⟨vs, hvl, hown⟩ := hO.out
      obtain ⟨g, c', e, _⟩ := own_pos hown (by omega)
      injection e with e1 _ e2
      subst e1 e2
      obtain ⟨q1, f1⟩ := own_cel hown (j := k * 2) (u := vs[k * 2]) (List.getElem?_eq_getElem (by omega))
      have h1 := own_set hown (g := g) rfl (j := k * 2) (by omega) (.int .i64 (-9))
      have HN : Hid (∃ vs : List Value, vs.length = lx.length * 2 ∧ (wr.setCell ⟨g, k * 2, none⟩ (.int .i64 (-9))).ownsRow w3.heap.size 48 2 (.slice (some ⟨g, 0, none⟩) lx.length cx) lx.length vs) := ⟨_, by rw [List.length_set, hvl], h1⟩
      have HG : Hid (Fr (fun b => (Value.slice (some ⟨g, 0, none⟩) lx.length cx).ownBlock = some b) w10 (wr.setCell ⟨g, k * 2, none⟩ (.int .i64 (-9)))) := hF.out.setc _ _ (fun _ => rfl)
      clear h1 hown HX HXL HO
      generalize vs[k * 2] = v0 at *
      have b1 : (k : Int) < (lx.length : Int) := by omega
      have b2 : 0 ≤ (k : Int) := by omega
      go_wp2_with fail
      exact ⟨⟨k + 1, by omega, by go_num, HN, HG⟩, by simp [intOf]; omega⟩
    · obtain rfl : k = lx.length := by omega
      have hge := fun g hg => (HX.out.lt g hg).1
      have hbr : Below w3.heap.size w3 wr := HB.out.trans (hF.out.below (fun b hb => hge b hb) HB.out.size)
      have hsr := HST3.out.on hbr
      have hyr := own_fr HY.out hF.out (fun g hg h => by
        have h1 := (HY.out.lt g hg).1
        have h2 := HXL.out g h
        omega)
      have HYR := Lib.hid hyr
      have hl := hsr.row.lt
      obtain ⟨hr1, _⟩ := hsr.row.cel (i := 0) rfl
      obtain ⟨hr2, _⟩ := hsr.row.cel (i := 1) rfl
      clear hyr hge hbr hO hF HO HY HX HXL hb2 hb3 HB HST3
      go_wp2_with fail
      refine (HS1.out _ hsr).mono ?_
      rintro e w12 ⟨Z, cz, rfl, hz, hb12⟩
      have hse := hsr.on hb12
      have HS := Lib.hid (sameSpans_yes Z AY cz cy _ _ lx w12 hz (own_below HYR.out hb12) hls)
      have HF := Lib.hid hse.below
      clear hz hb12 hse hsr hr1 hr2 HYR
      go_wp2_with fail
      refine HS.out.mono ?_
      rintro e w13 ⟨rfl, hb13⟩
      have HF2 := Lib.hid (HF.out.trans (hb13.mono HF.out.size))
      clear hb13
      go_wp2_with fail
      go_ret
      exact ⟨rfl, HF2.out⟩
end Go.Proofs.YtfjccjjdgbkbiaaDoor
