/- MatchBoth: the statement's walk. -/
import Derived.Test.YtimhlnndobfehaaDoorMb37
namespace Go.Proofs.YtimhlnndobfehaaDoor
open Go.RowKit
open Go.Lib (Utf8Tabs)
set_option linter.unusedVariables false

set_option maxHeartbeats 8000000 in
set_option maxRecDepth 100000 in
theorem both_walk (A1 A2 An : Option Addr) (c1 c2 cn : Nat) (a : Al) (ns : List Nd) (s : ByteArray) (w : World) (hin : AlIn w 0 w.heap.size A1 A2 a) (hT : Utf8Tabs 0 1 w) (hns : Sl 5 vNd w 0 w.heap.size An ns) (hm : ns.length ≤ 9223372036854775807) (hs : s.size ≤ maxLen) :
    Calls Tryd.prog 7 #[.agg #[.slice A1 a.feats.length c1, .slice A2 a.lets.length c2], .agg #[.slice An ns.length cn], .string s] w fun e w' => e = .returned (.bool true) ∧ Below w.heap.size w w' := by
  have hs0 : M1St A1 A2 An c1 c2 cn a ns w _ := M1St.new hin hT hns
  have HAW := Lib.hid (fun (wx : World) (h : M1St A1 A2 An c1 c2 cn a ns w wx) => alive_any wx h.tabs)
  have HM := Lib.hid (fun (wx : World) => much_any An ns.length cn s wx hm hs)
  have HW := Lib.hid (fun (wx : World) (h : M1St A1 A2 An c1 c2 cn a ns w wx) => whole_any A1 A2 An c1 c2 cn 0 a ns s wx h.al h.tabs h.l hm hs)
  have HLG := Lib.hid (fun (wx : World) (h : M1St A1 A2 An c1 c2 cn a ns w wx) => long_any A1 A2 c1 c2 0 a s wx h.al h.tabs hs)
  have HE := Lib.hid (fun (wx : World) (h : M1St A1 A2 An c1 c2 cn a ns w wx) (x : Int) => ends_op A1 A2 An c1 c2 cn 0 a ns s x wx h.al h.tabs h.l hm hs)
  have HB := Lib.hid (fun (wx : World) (h : M1St A1 A2 An c1 c2 cn a ns w wx) (x : Int) => begins_op A1 A2 An c1 c2 cn 0 a ns s x wx h.al h.tabs h.l hm hs)
  have HNO := Lib.hid (@whole_no a ns s)
  have HLAW : Hid ((wholeS a ns s).2 = 0 → longS a s = ((lettersS a s).1.length : Int) ∧ (lettersS a s).1.length ≤ 64 ∧ ∀ i, i ≤ (lettersS a s).1.length → BothAt (endsS a ns s) (beginsS a ns s) (wholeS a ns s).1 (lettersS a s).1.length i) := fun h => by
    obtain ⟨h1, h2, h3⟩ := both_at h
    exact ⟨by unfold longS; rw [if_neg (by simp [h1])], h2, h3⟩
  generalize wholeS a ns s = R at *
  generalize endsS a ns s = EF at *
  generalize beginsS a ns s = BF at *
  generalize longS a s = LG at *
  generalize (lettersS a s).1.length = n at *
  obtain ⟨R1, R2⟩ := R
  clear hin hT hns
  have haw := Lib.hid (HAW.out _ hs0)
  have HS0 := Lib.hid hs0
  clear hs0
  go_enter Tryd.func7, Tryd.ntmps7
  go_wp2_with fail
  refine haw.out.mono ?_
  rintro e0 w1 ⟨rfl, hb1⟩
  have hs1 := HS0.out.on hb1
  have HS1 := Lib.hid hs1
  obtain ⟨p1, _⟩ := hs1.r1.cel (i := 0) rfl
  have HBW1 := Lib.hid hs1.below
  clear HS0 haw HAW hb1 hs1
  have hm1 := Lib.hid (HM.out w1)
  cases h1 : muchB ns.length s.size with
  | true =>
    rw [h1] at hm1
    clear h1
    go_wp2_with fail
    refine hm1.out.mono ?_
    rintro e w2 ⟨rfl, hb2⟩
    have HF := Lib.hid (HBW1.out.trans (hb2.mono HBW1.out.size))
    clear hb2
    go_wp2_with fail
    go_ret
    exact ⟨rfl, HF.out⟩
  | false =>
    rw [h1] at hm1
    clear h1
    go_wp2_with fail
    refine hm1.out.mono ?_
    rintro e w2 ⟨rfl, hb2⟩
    have hs2 := HS1.out.on hb2
    have HS2 := Lib.hid hs2
    obtain ⟨a2, _⟩ := hs2.r0.cel (i := 0) rfl
    obtain ⟨d2, _⟩ := hs2.r0.cel (i := 1) rfl
    obtain ⟨p2, _⟩ := hs2.r1.cel (i := 0) rfl
    have l2 := hs2.r1.lt
    have HBW2 := Lib.hid hs2.below
    have hw2 := Lib.hid (HW.out w2 hs2)
    clear hs2 hb2 HS1 hm1 p1 HBW1
    by_cases h3 : 60 < ns.length
    · have h3' : (60 : Int) < (ns.length : Int) := by omega
      clear hw2
      go_wp2_with fail
      go_ret
      exact ⟨rfl, HBW2.out⟩
    have h3' : ¬ (60 : Int) < (ns.length : Int) := by omega
    go_wp2_with fail
    refine hw2.out.mono ?_
    rintro e w3 ⟨rfl, hb3⟩
    have hs3 := HS2.out.on hb3
    have HS3 := Lib.hid hs3
    obtain ⟨a3, _⟩ := hs3.r0.cel (i := 0) rfl
    obtain ⟨d3, _⟩ := hs3.r0.cel (i := 1) rfl
    have l3 := hs3.r1.lt
    have hl3 := Lib.hid (HLG.out w3 hs3)
    clear hs3 hb3 HS2 hw2 a2 d2 p2 l2 HBW2
    go_wp2_with fail
    refine hl3.out.mono ?_
    rintro e w4 ⟨rfl, hb4⟩
    have hs4 := HS3.out.on hb4
    have HS4 := Lib.hid hs4
    have HBW4 := Lib.hid hs4.below
    clear hs4 hb4 HS3 hl3 a3 d3 l3
    by_cases hR : R2 = 0
    · subst hR
      obtain ⟨hLG, hn64, HAT⟩ := HLAW.out rfl
      subst hLG
      clear HLAW HNO
      by_cases hn : 30 < n
      · have hn' : (30 : Int) < (n : Int) := by omega
        go_wp2_with fail
        go_ret
        exact ⟨rfl, HBW4.out⟩
      have hn' : ¬ (30 : Int) < (n : Int) := by omega
      have HATH := Lib.hid HAT
      clear HAT HBW4
      go_wp2_with fail
      go_loopw [11] (fun x wr => ∃ i : Nat, x = .int .i64 (i : Int) ∧ i ≤ n + 1 ∧ Hid (M1St A1 A2 An c1 c2 cn a ns w wr)) (fun x _ => n + 1 - (intOf x).toNat)
      case atStart => exact ⟨0, rfl, by omega, HS4⟩
      case round =>
        clear HS4
        obtain ⟨i, rfl, hi, hsi⟩ := hrel
        by_cases hlt : i ≤ n
        · have j1 : (i : Int) ≤ (n : Int) := by omega
          have AT := HATH.out i hlt
          have hsw := hsi.out
          obtain ⟨a5, _⟩ := hsw.r0.cel (i := 0) rfl
          obtain ⟨d5, _⟩ := hsw.r0.cel (i := 1) rfl
          obtain ⟨p5, _⟩ := hsw.r1.cel (i := 0) rfl
          have l5 := hsw.r1.lt
          have he5 := Lib.hid (HE.out wr hsw (i : Int))
          have heb := AT.eb hn64
          have hel := AT.el
          have hee := AT.e
          have hww := AT.w
          generalize hO : EF (i : Int) = O at *
          obtain ⟨El, Ee⟩ := O
          simp only at heb hel hee hww
          subst hee
          have HO := Lib.hid hO
          have HAT := Lib.hid AT
          have HWW := Lib.hid hww
          clear hO AT hsw hww
          go_wp2_with fail
          refine he5.out.mono ?_
          rintro e w5 ⟨A5, c5, rfl, hz5, hb5⟩
          have HL5 := Lib.hid (Lst.of (c := c5) hz5 heb)
          have HS5 := Lib.hid (hsi.out.on hb5)
          clear hz5 hb5 he5 a5 d5 p5 l5 hsi heb
          go_wp2_with fail
          go_loopw [14] (fun x wr => ∃ k : Nat, x = .int .i64 (k : Int) ∧ k ≤ El.length ∧ Hid (M1St A1 A2 An c1 c2 cn a ns w wr) ∧ Hid (Lst A5 c5 El wr)) (fun x _ => El.length - (intOf x).toNat)
          case atStart => exact ⟨0, rfl, by omega, HS5, HL5⟩
          case round =>
            clear HS5 HL5
            obtain ⟨k, rfl, hk, hsk, hlk⟩ := hrel
            by_cases hkl : k < El.length
            · have j2 : (k : Int) < (El.length : Int) := by omega
              have j3 : 0 ≤ (k : Int) := by omega
              obtain ⟨q, hq, hq1, hq2, hq3, hq4, hq5, hq6⟩ := HAT.out.ex HO.out hkl
              have AQ := HATH.out q hq2
              have hqb := AQ.bb hn64 hq2
              have hx : El[k]? = some (q : Int) := by rw [List.getElem?_eq_getElem hkl]; exact congrArg some hq
              obtain ⟨g5, o5, rfl, hg5, y5⟩ := hlk.out.at_ hx
              have j4 : decide ((q : Int) < (i : Int)) = false := by rw [decide_eq_false_iff_not]; omega
              have j5 : decide ((n : Int) < (q : Int)) = false := by rw [decide_eq_false_iff_not]; omega
              have j9 : decide (q < i) = false := by rw [decide_eq_false_iff_not]; omega
              have j10 : decide (n < q) = false := by rw [decide_eq_false_iff_not]; omega
              have hbq := Lib.hid (fun wx (h : M1St A1 A2 An c1 c2 cn a ns w wx) => HB.out wx h (q : Int))
              generalize hP : BF (q : Int) = P at *
              obtain ⟨Pl, Pe⟩ := P
              simp only at hq3 hq4 hq5 hqb
              subst hq3
              have hx2 := Lib.hid hx
              have HQ : Hid (Pl.length ≤ n + 1 ∧ (i : Int) ∈ Pl) := ⟨hq4, hq5⟩
              have HQB := Lib.hid hqb
              clear hP AQ hq hx hq4 hq5 hqb
              have j9 : decide (q < i) = false := by rw [decide_eq_false_iff_not]; omega
              have j10 : decide (n < q) = false := by rw [decide_eq_false_iff_not]; omega
              rcases Nat.eq_zero_or_pos k with k0 | k0
              case' inl =>
                have j6 : decide ((0 : Int) < (k : Int)) = false := by rw [decide_eq_false_iff_not]; omega
                have j12 : decide (0 < k) = false := by rw [decide_eq_false_iff_not]; omega
                clear hq6 k0
                go_wp2_with fail
                go_big_quiet (fail)
              case' inr =>
                obtain ⟨z, hz, hzq⟩ := hq6 (k - 1) (by omega)
                obtain ⟨g6, o6, e6, _, z5⟩ := hlk.out.at_ hz
                injection e6 with e6
                injection e6 with e61 e62
                subst e61 e62
                have j6 : decide ((0 : Int) < (k : Int)) = true := by rw [decide_eq_true_eq]; omega
                have j12 : decide (0 < k) = true := by rw [decide_eq_true_eq]; omega
                have e1 : IntKind.i64.wrap ((k : Int) - 1) = ((k - 1 : Nat) : Int) := by rw [IntWalk.i64_in _ (by omega)]; omega
                have j7 : decide ((q : Int) ≤ (z : Int)) = false := by rw [decide_eq_false_iff_not]; omega
                have j11 : decide (q ≤ z) = false := by rw [decide_eq_false_iff_not]; omega
                have j8 : ((k - 1 : Nat) : Int) < (El.length : Int) := by omega
                clear hq6 hz hzq k0
                generalize k - 1 = kp at *
                go_wp2_with fail
                go_big_quiet (fail)
              all_goals
                have hsq := hsk.out.on (below_drewN (Below.refl _ _) nq)
                have hlq := hlk.out.on (below_drewN (Below.refl _ _) nq)
                have y6 : (wr.drewN nq).cell? ⟨g5, o5 + k, none⟩ = some (.int .i64 (q : Int)) := by simpa using y5
                have hg6 : g5 < (wr.drewN nq).heap.size := by simpa using hg5
                clear hsk hlk y5 hg5
                clear j6 j12
                generalize wr.drewN nq = wq at *
                have hl6 := hsq.r1.lt
                have hl0 : w.heap.size < wq.heap.size := by omega
                obtain ⟨a6, _⟩ := hsq.r0.cel (i := 0) rfl
                obtain ⟨d6, _⟩ := hsq.r0.cel (i := 1) rfl
                obtain ⟨p6, _⟩ := hsq.r1.cel (i := 0) rfl
                have hb6 := Lib.hid (hbq.out _ hsq.drew)
                have HSQ := Lib.hid hsq.drew
                have HLQ := Lib.hid (hlq.on (below_drewN (Below.refl _ _) 1))
                clear hsq hlq hbq
                go_upto_region 21 with (fail)
                go_region_held3 (fun w' => w'.cell? ⟨w.heap.size, 0, none⟩ = some (.slice A1 a.feats.length c1) ∧ w'.cell? ⟨w.heap.size, 1, none⟩ = some (.slice A2 a.lets.length c2) ∧ w'.cell? ⟨w.heap.size + 1, 0, none⟩ = some (.slice An ns.length cn) ∧ w'.cell? ⟨g5, o5 + k, none⟩ = some (.int .i64 (q : Int))) (go_keep)
                  ((go_at_call 30; refine hb6.out.mono ?_; rintro e w6 ⟨A6, c6, rfl, hz6, hb6'⟩; have k0 := ((bcell hb6').1 _ 0 hl0).trans a6; have k1 := ((bcell hb6').1 _ 1 hl0).trans d6; have k2 := ((bcell hb6').1 _ 0 hl6).trans p6; have k3 := ((bcell hb6').1 _ (o5 + k) hg6).trans y6))
                have HS7 := Lib.hid (HSQ.out.on hb6')
                have HL7 := Lib.hid (HLQ.out.on hb6')
                have hl7 := Lst.of (c := c6) hz6 HQB.out
                have hh7 := hasI_any (c := c6) hl7.sl (by have := HQ.out.1; omega) (i : Int)
                rw [decide_eq_true HQ.out.2] at hh7
                have HH := Lib.hid hh7
                clear k0 k1 k2 k3 a6 d6 p6 y6 hz6 hb6' hl7 hh7 HSQ HLQ hb6
                go_wp2_with fail
                refine HH.out.mono ?_
                rintro e w8 ⟨rfl, rfl⟩
                go_wp2_with fail
                exact ⟨⟨k + 1, by simp, by omega, HS7, HL7⟩, by simp [intOf]; omega⟩
            · have j2 : ¬ (k : Int) < (El.length : Int) := by omega
              have hsw := hsk.out
              have hl6 := hsw.r1.lt
              obtain ⟨a6, _⟩ := hsw.r0.cel (i := 0) rfl
              obtain ⟨d6, _⟩ := hsw.r0.cel (i := 1) rfl
              obtain ⟨p6, _⟩ := hsw.r1.cel (i := 0) rfl
              have hb9 := Lib.hid (HB.out _ hsw (i : Int))
              have hbb := HAT.out.bb hn64 hlt
              have hbl := HAT.out.bl
              have hb0 := HAT.out.b
              generalize hP : BF (i : Int) = P at *
              obtain ⟨Bl, Be⟩ := P
              simp only at hbb hbl hb0
              subst hb0
              have HP := Lib.hid hP
              have HBB := Lib.hid hbb
              have hh := hasI_any (c := c5) hlk.out.sl (by omega) (n : Int)
              have HH := Lib.hid hh
              clear hP hbb hsw hh hlk
              rcases Nat.eq_zero_or_pos i with i0 | i0
              case' inl =>
                have j4 : ((i : Int) == 0) = true := by rw [beq_iff_eq]; omega
                have hh := HH.out
                rw [← HWW.out i0] at hh
                have HH2 := Lib.hid hh
                clear i0 HH hh
                go_wp2_with fail
                refine HH2.out.mono ?_
                rintro e w8 ⟨rfl, rfl⟩
                clear j4 HH2
              case' inr =>
                have j4 : ((i : Int) == 0) = false := by rw [beq_eq_false_iff_ne]; omega
                clear i0 HH
              all_goals
                go_wp2_with fail
                refine hb9.out.mono ?_
                rintro e w9 ⟨A9, c9, rfl, hz9, hb9'⟩
                have HL9 := Lib.hid (Lst.of (c := c9) hz9 HBB.out)
                have HS9 := Lib.hid (hsk.out.on hb9')
                clear hz9 hb9' hb9 a6 d6 p6 hl6 hsk HBB
                go_wp2_with fail
                go_loopw [19] (fun x wr => ∃ k : Nat, x = .int .i64 (k : Int) ∧ k ≤ Bl.length ∧ Hid (M1St A1 A2 An c1 c2 cn a ns w wr) ∧ Hid (Lst A9 c9 Bl wr)) (fun x _ => Bl.length - (intOf x).toNat)
                case atStart => exact ⟨0, rfl, by omega, HS9, HL9⟩
                case round =>
                  clear HS9 HL9
                  obtain ⟨k, rfl, hk, hsk, hlk⟩ := hrel
                  by_cases hkl : k < Bl.length
                  · have j2 : (k : Int) < (Bl.length : Int) := by omega
                    have j3 : 0 ≤ (k : Int) := by omega
                    obtain ⟨q, hq, hq1, hq3, hq4, hq5⟩ := HAT.out.bx HP.out hkl
                    have AQ := HATH.out q (by omega)
                    have hqb := AQ.eb hn64
                    have hx : Bl[k]? = some (q : Int) := by rw [List.getElem?_eq_getElem hkl]; exact congrArg some hq
                    obtain ⟨g5, o5, rfl, hg5, y5⟩ := hlk.out.at_ hx
                    have j4 : decide ((i : Int) < (q : Int)) = false := by rw [decide_eq_false_iff_not]; omega
                    have j9 : decide (i < q) = false := by rw [decide_eq_false_iff_not]; omega
                    have hsq := hsk.out
                    have hl6 := hsq.r1.lt
                    have hl0 : w.heap.size < wr.heap.size := by omega
                    obtain ⟨a6, _⟩ := hsq.r0.cel (i := 0) rfl
                    obtain ⟨d6, _⟩ := hsq.r0.cel (i := 1) rfl
                    obtain ⟨p6, _⟩ := hsq.r1.cel (i := 0) rfl
                    have hb6 := Lib.hid (HE.out _ hsq.drew (q : Int))
                    generalize hP2 : EF (q : Int) = P at *
                    obtain ⟨Pl, Pe⟩ := P
                    simp only at hq3 hq4 hq5 hqb
                    subst hq3
                    have HQ : Hid (Pl.length ≤ n + 1 ∧ (i : Int) ∈ Pl) := ⟨hq4, hq5⟩
                    have HQB := Lib.hid hqb
                    have HSQ := Lib.hid hsq.drew
                    have HLQ := Lib.hid (hlk.out.on (below_drewN (Below.refl _ _) 1))
                    clear hP2 AQ hq hx hq4 hq5 hqb hsq hsk hlk
                    go_upto_region 32 with (fail)
                    go_region_held3 (fun w' => w'.cell? ⟨w.heap.size, 0, none⟩ = some (.slice A1 a.feats.length c1) ∧ w'.cell? ⟨w.heap.size, 1, none⟩ = some (.slice A2 a.lets.length c2) ∧ w'.cell? ⟨w.heap.size + 1, 0, none⟩ = some (.slice An ns.length cn) ∧ w'.cell? ⟨g5, o5 + k, none⟩ = some (.int .i64 (q : Int))) (go_keep)
                      ((go_at_call 27; refine hb6.out.mono ?_; rintro e w6 ⟨A6, c6, rfl, hz6, hb6'⟩; have k0 := ((bcell hb6').1 _ 0 hl0).trans a6; have k1 := ((bcell hb6').1 _ 1 hl0).trans d6; have k2 := ((bcell hb6').1 _ 0 hl6).trans p6; have k3 := ((bcell hb6').1 _ (o5 + k) hg5).trans y5))
                    have HS7 := Lib.hid (HSQ.out.on hb6')
                    have HL7 := Lib.hid (HLQ.out.on hb6')
                    have hl7 := Lst.of (c := c6) hz6 HQB.out
                    have hh7 := hasI_any (c := c6) hl7.sl (by have := HQ.out.1; omega) (i : Int)
                    rw [decide_eq_true HQ.out.2] at hh7
                    have HH := Lib.hid hh7
                    clear k0 k1 k2 a6 d6 p6 y5 hz6 hb6' hl7 hh7 HSQ HLQ hb6
                    go_wp2_with fail
                    refine HH.out.mono ?_
                    rintro e w8 ⟨rfl, rfl⟩
                    go_wp2_with fail
                    exact ⟨⟨k + 1, by simp, by omega, HS7, HL7⟩, by simp [intOf]; omega⟩
                  · have j2 : ¬ (k : Int) < (Bl.length : Int) := by omega
                    clear hlk
                    go_wp2_with fail
                    exact ⟨⟨i + 1, by simp, by omega, hsk⟩, by simp [intOf]; omega⟩
        · have j1 : ¬ (i : Int) ≤ (n : Int) := by omega
          have HF := Lib.hid hsi.out.below
          have j2 : 0 ≤ (n : Int) := by omega
          clear hsi
          go_wp2_with fail
          go_ret
          exact ⟨rfl, HF.out⟩
    · have hne : (R2 != 0) = true := by rw [bne_iff_ne]; exact hR
      have hne2 : (R2 == 0) = false := by rw [beq_eq_false_iff_ne]; exact hR
      have hR1 := HNO.out hR
      subst hR1
      clear HLAW HNO hR
      go_wp2_with fail
      go_ret
      exact ⟨rfl, HBW4.out⟩
end Go.Proofs.YtimhlnndobfehaaDoor
