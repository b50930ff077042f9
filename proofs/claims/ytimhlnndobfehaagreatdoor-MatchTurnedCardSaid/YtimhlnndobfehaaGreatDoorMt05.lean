/- MatchTurned: the statement's walk. -/
import Derived.Test.YtimhlnndobfehaaGreatDoorMt04
namespace Go.Proofs.YtimhlnndobfehaaGreatDoor
open Go.RowKit
open Go.Lib (Utf8Tabs)
set_option linter.unusedVariables false

set_option maxHeartbeats 8000000 in
set_option maxRecDepth 100000 in
theorem turned_walk (A1 A2 An : Option Addr) (c1 c2 cn : Nat) (a : Al) (ns : List Nd) (s : ByteArray) (w : World) (hin : AlIn w 0 w.heap.size A1 A2 a) (hT : Utf8Tabs 0 1 w) (hns : Sl 5 vNd w 0 w.heap.size An ns) (hm : ns.length ≤ 9223372036854775807) (hs : s.size ≤ maxLen) :
    Calls Tryz.prog 7 #[.agg #[.slice A1 a.feats.length c1, .slice A2 a.lets.length c2], .agg #[.slice An ns.length cn], .string s] w fun e w' => e = .returned (.bool true) ∧ Below w.heap.size w w' := by
  have hs0 : M1St A1 A2 An c1 c2 cn a ns w _ := M1St.new hin hT hns
  have HAW := Lib.hid (fun (wx : World) (h : M1St A1 A2 An c1 c2 cn a ns w wx) => alive_any wx h.tabs)
  have HM := Lib.hid (fun (wx : World) => much_any An ns.length cn s wx hm hs)
  have HLG := Lib.hid (fun (wx : World) (h : M1St A1 A2 An c1 c2 cn a ns w wx) => long_any A1 A2 c1 c2 0 a s wx h.al h.tabs hs)
  have HPC := Lib.hid (fun (wx : World) (h : M1St A1 A2 An c1 c2 cn a ns w wx) => pcheck_any A1 A2 An c1 c2 cn 0 a ns wx h.al h.l hm)
  have HTN := Lib.hid (fun (wx : World) (h : M1St A1 A2 An c1 c2 cn a ns w wx) => pturned_any An cn 0 wx.heap.size ns wx hm (Nat.le_refl _) h.l)
  have HWT := Lib.hid (fun (wx : World) (h : M1St A1 A2 An c1 c2 cn a ns w wx) => turned_any A1 A2 c1 c2 0 a s wx h.al h.tabs hs)
  have HE := Lib.hid (fun (wx : World) (h : M1St A1 A2 An c1 c2 cn a ns w wx) (x : Int) => ends_op A1 A2 An c1 c2 cn 0 a ns s x wx h.al h.tabs h.l hm hs)
  have HLAW : Hid (patE a ns = 0 → (lettersS a s).2 = 0 → (turnedE ns = 0 ∧ (turnedN ns).length ≤ 9223372036854775807) ∧ turnedS a s = (encR (lettersS a s).1.reverse, 0) ∧ (encR (lettersS a s).1.reverse).size ≤ maxLen ∧ (lettersS a s).1.length ≤ 64 ∧ ∀ i, i ≤ (lettersS a s).1.length → TurnAt (endsS a ns s) (beginsS a (turnedN ns) (encR (lettersS a s).1.reverse)) (lettersS a s).1.length i) := fun h1 h2 => by
    obtain ⟨k1, k2, k3, k4⟩ := turn_at h1 h2
    have := (turned_may h1).2.2.max
    exact ⟨⟨k1, by omega⟩, k2, encR_max (by rw [List.length_reverse]; omega), k3, k4⟩
  have HB := Lib.hid (fun (Aq : Option Addr) (cq : Nat) (qs : List Nd) (v : ByteArray) (hmq : qs.length ≤ 9223372036854775807) (hv : v.size ≤ maxLen) (b : Nat) (wx : World) (h : TuSt A1 A2 An Aq c1 c2 cn cq b a ns qs w wx) (x : Int) => begins_op A1 A2 Aq c1 c2 cq 0 a qs v x wx h.m.al h.m.tabs h.q hmq hv)
  have HBF : Hid (∃ BF : List Nd → ByteArray → Int → List Int × Int, BF = fun qs v => beginsS a qs v) := ⟨_, rfl⟩
  have HLN : Hid (longS a s = if (lettersS a s).2 ≠ 0 then -1 else ((lettersS a s).1.length : Int)) := rfl
  generalize endsS a ns s = EF at *
  generalize longS a s = LG at *
  generalize hqq : turnedN ns = qs at *
  generalize turnedE ns = TE at *
  generalize turnedS a s = TS at *
  generalize patE a ns = PE at *
  obtain ⟨TS1, TS2⟩ := TS
  clear hqq hin hT hns HBF
  have haw := Lib.hid (HAW.out _ hs0)
  have HS0 := Lib.hid hs0
  clear hs0
  go_enter Tryz.func7, Tryz.ntmps7
  go_wp2_with fail
  refine haw.out.mono ?_
  rintro e0 w1 ⟨rfl, hb1⟩
  have hs1 := HS0.out.on hb1
  have HS1 := Lib.hid hs1
  obtain ⟨p1, _⟩ := hs1.r1.cel (i := 0) rfl
  have HBW1 := Lib.hid hs1.below
  clear HS0 haw HAW hb1 hs1
  have hm1 := Lib.hid (HM.out w1)
  cases h1 : muchB ns.length s.size with
  | true =>
    rw [h1] at hm1
    clear h1
    go_wp2_with fail
    refine hm1.out.mono ?_
    rintro e w2 ⟨rfl, hb2⟩
    have HF := Lib.hid (HBW1.out.trans (hb2.mono HBW1.out.size))
    clear hb2
    go_wp2_with fail
    go_ret
    exact ⟨rfl, HF.out⟩
  | false =>
    rw [h1] at hm1
    clear h1
    go_wp2_with fail
    refine hm1.out.mono ?_
    rintro e w2 ⟨rfl, hb2⟩
    have hs2 := HS1.out.on hb2
    have HS2 := Lib.hid hs2
    obtain ⟨a2, _⟩ := hs2.r0.cel (i := 0) rfl
    obtain ⟨d2, _⟩ := hs2.r0.cel (i := 1) rfl
    obtain ⟨p2, _⟩ := hs2.r1.cel (i := 0) rfl
    have l2 := hs2.r1.lt
    have HBW2 := Lib.hid hs2.below
    have hl2 := Lib.hid (HLG.out w2 hs2)
    clear hs2 hb2 HS1 hm1 p1 HBW1
    by_cases h3 : 60 < ns.length
    · have h3' : (60 : Int) < (ns.length : Int) := by omega
      clear hl2
      go_wp2_with fail
      go_ret
      exact ⟨rfl, HBW2.out⟩
    have h3' : ¬ (60 : Int) < (ns.length : Int) := by omega
    go_wp2_with fail
    refine hl2.out.mono ?_
    rintro e w3 ⟨rfl, hb3⟩
    have hs3 := HS2.out.on hb3
    have HS3 := Lib.hid hs3
    obtain ⟨a3, _⟩ := hs3.r0.cel (i := 0) rfl
    obtain ⟨d3, _⟩ := hs3.r0.cel (i := 1) rfl
    obtain ⟨p3, _⟩ := hs3.r1.cel (i := 0) rfl
    have l3 := hs3.r1.lt
    have hc3 := Lib.hid (HPC.out w3 hs3)
    clear hs3 hb3 HS2 hl2 a2 d2 p2 l2 HBW2
    go_wp2_with fail
    refine hc3.out.mono ?_
    rintro e w4 ⟨rfl, hb4⟩
    have hs4 := HS3.out.on hb4
    have HS4 := Lib.hid hs4
    have HBW4 := Lib.hid hs4.below
    obtain ⟨p4, _⟩ := hs4.r1.cel (i := 0) rfl
    have l4 := hs4.r1.lt
    have ht4 := Lib.hid (HTN.out w4 hs4)
    clear hs4 hb4 HS3 hc3 a3 d3 p3 l3 HTN HPC HLG
    by_cases hP : PE = 0
    case neg =>
      have hne : (PE != 0) = true := by rw [bne_iff_ne]; exact hP
      clear ht4 HLAW hP
      go_wp2_with fail
      go_ret
      exact ⟨rfl, HBW4.out⟩
    by_cases hL : (lettersS a s).2 = 0
    case neg =>
      have hlg : LG = -1 := by rw [HLN.out, if_pos hL]
      subst hlg hP
      clear ht4 HLAW hL
      go_wp2_with fail
      go_ret
      exact ⟨rfl, HBW4.out⟩
    have hlg : LG = ((lettersS a s).1.length : Int) := by rw [HLN.out, if_neg (by simp [hL])]
    obtain ⟨⟨hTE, hqm⟩, hTS, hvm, hn64, HAT⟩ := HLAW.out hP hL
    subst hP hlg hTE
    injection hTS with hT1 hT2
    subst hT2
    rw [← hT1] at hvm HAT
    have HB2 := Lib.hid (fun (Aq : Option Addr) (cq b : Nat) (wx : World) (h : TuSt A1 A2 An Aq c1 c2 cn cq b a ns qs w wx) (x : Int) => HB.out Aq cq qs TS1 hqm hvm b wx h x)
    clear HLAW hL HLN HB hT1 hvm
    generalize beginsS a qs TS1 = BF at *
    generalize (lettersS a s).1.length = n at *
    have HATH := Lib.hid HAT
    clear HAT
    have hn0 : ¬ (n : Int) < 0 := by omega
    go_wp2_with fail
    refine ht4.out.mono ?_
    rintro e w5 ⟨v, rfl, hpr⟩
    obtain ⟨Aq, cq, rfl, hcq, hq5, hb5⟩ := patRes_sl hpr
    have hb6 : Below w5.heap.size w5 (w5.alloc (.cells #[.slice Aq qs.length cq] 28)) := (Below.refl _ _).alloc (Nat.le_refl _) _
    have hts : TuSt A1 A2 An Aq c1 c2 cn cq w5.heap.size a ns qs w (w5.alloc (.cells #[.slice Aq qs.length cq] 28)) :=
      ⟨(HS4.out.on hb5).on hb6, (hq5.below vNd_good hb6 (Nat.le_refl _)).wide vNd_good (Nat.zero_le _) hb6.size, Row.new w5 _ _⟩
    obtain ⟨w6, hw6⟩ : ∃ w6, w6 = w5.alloc (.cells #[.slice Aq qs.length cq] 28) := ⟨_, rfl⟩
    obtain ⟨bq, hbq⟩ : ∃ bq, bq = w5.heap.size := ⟨_, rfl⟩
    rw [← hw6, ← hbq] at hts
    have HTS := Lib.hid hts
    go_upto_region 10 with (fail)
    rw [← hw6, ← hbq]
    clear hw6 hbq
    obtain ⟨a6, _⟩ := hts.m.r0.cel (i := 0) rfl
    obtain ⟨d6, _⟩ := hts.m.r0.cel (i := 1) rfl
    have l6 := hts.m.r1.lt
    have ht6 := Lib.hid (HWT.out w6 hts.m)
    clear hpr hq5 hb5 hb6 hts HS4 HBW4 ht4 HWT p4 l4
    go_wp2_with fail
    refine ht6.out.mono ?_
    rintro e w7 ⟨rfl, hb7⟩
    have HS7 := Lib.hid (HTS.out.on hb7)
    clear HTS ht6 hb7 a6 d6 l6
    simp only
    go_wp2_with fail
    go_loopw [13] (fun x wr => ∃ i : Nat, x = .int .i64 (i : Int) ∧ i ≤ n + 1 ∧ Hid (TuSt A1 A2 An Aq c1 c2 cn cq bq a ns qs w wr)) (fun x _ => n + 1 - (intOf x).toNat)
    case atStart => exact ⟨0, rfl, by omega, HS7⟩
    case round =>
      clear HS7
      obtain ⟨i, rfl, hi, hsi⟩ := hrel
      have hsw := hsi.out
      have HBI := Lib.hid hsw.m.below
      by_cases hlt : i ≤ n
      · have j1 : (i : Int) ≤ (n : Int) := by omega
        have AT := HATH.out i hlt
        obtain ⟨a5, _⟩ := hsw.m.r0.cel (i := 0) rfl
        obtain ⟨d5, _⟩ := hsw.m.r0.cel (i := 1) rfl
        obtain ⟨p5, _⟩ := hsw.m.r1.cel (i := 0) rfl
        have l5 := hsw.m.r1.lt
        have he5 := Lib.hid (HE.out wr hsw.m (i : Int))
        have hae := AT.e
        have hab := AT.b
        have hal := AT.len
        have hael := AT.el
        have haat := AT.at_
        have jni : IntKind.i64.wrap ((n : Int) - (i : Int)) = ((n - i : Nat) : Int) := by rw [IntWalk.i64_in _ (by omega)]; omega
        have jni2 : (n : Int) - (i : Int) = ((n - i : Nat) : Int) := by omega
        have hbb := Lib.hid (fun (wx : World) (h : TuSt A1 A2 An Aq c1 c2 cn cq bq a ns qs w wx) => HB2.out Aq cq bq wx h ((n - i : Nat) : Int))
        clear AT hsw
        generalize EF (i : Int) = O at *
        generalize BF ((n - i : Nat) : Int) = P at *
        obtain ⟨El, Ee⟩ := O
        obtain ⟨Bl, Be⟩ := P
        simp only at hae hab hal hael haat
        subst hae hab
        have HLE := Lib.hid hal
        have HAA := Lib.hid haat
        have HEB : Hid (∀ x ∈ El, ∃ k : Nat, x = (k : Int) ∧ k ≤ 64) := fun x hx => by
          obtain ⟨k, hk, rfl⟩ := List.getElem_of_mem hx
          obtain ⟨q, hq, e, _⟩ := haat k hk
          rw [List.getElem?_eq_getElem hk] at e
          exact ⟨q, Option.some.inj e, by omega⟩
        have HBB : Hid (∀ x ∈ Bl, ∃ k : Nat, x = (k : Int) ∧ k ≤ 64) := fun x hx => by
          obtain ⟨k, hk, rfl⟩ := List.getElem_of_mem hx
          obtain ⟨q, hq, _, e⟩ := haat (El.length - 1 - k) (by omega)
          rw [show El.length - 1 - (El.length - 1 - k) = k by omega, List.getElem?_eq_getElem hk] at e
          exact ⟨n - q, Option.some.inj e, by omega⟩
        clear haat hal
        go_wp2_with fail
        refine he5.out.mono ?_
        rintro e w5' ⟨A5, c5, rfl, hz5, hb5⟩
        have HL5 := Lib.hid (Lst.of (c := c5) hz5 HEB.out)
        have hs5 := hsi.out.on hb5
        have HS5 := Lib.hid hs5
        obtain ⟨a8, _⟩ := hs5.m.r0.cel (i := 0) rfl
        obtain ⟨d8, _⟩ := hs5.m.r0.cel (i := 1) rfl
        obtain ⟨q8, _⟩ := hs5.r2.cel (i := 0) rfl
        have l8 := hs5.m.r1.lt
        have m8 := hs5.r2.lt
        have hb8 := Lib.hid (hbb.out w5' hs5)
        simp only
        clear hz5 hb5 he5 a5 d5 p5 l5 hsi hs5 hbb
        go_wp2_with fail
        refine hb8.out.mono ?_
        rintro e w9 ⟨A9, c9, rfl, hz9, hb9⟩
        have HL9 := Lib.hid (Lst.of (c := c9) hz9 HBB.out)
        have HL8 := Lib.hid (HL5.out.on hb9)
        have HS9 := Lib.hid (HS5.out.on hb9)
        simp only
        clear hz9 hb9 hb8 a8 d8 q8 l8 m8 HS5 HL5
        have jl : ((El.length : Int) != (Bl.length : Int)) = false := by rw [HLE.out]; simp
        go_wp2_with fail
        go_loopw [18] (fun x wr => ∃ k : Nat, x = .int .i64 (k : Int) ∧ k ≤ El.length ∧ Hid (TuSt A1 A2 An Aq c1 c2 cn cq bq a ns qs w wr) ∧ Hid (Lst A5 c5 El wr) ∧ Hid (Lst A9 c9 Bl wr)) (fun x _ => El.length - (intOf x).toNat)
        case atStart => exact ⟨0, rfl, by omega, HS9, HL8, HL9⟩
        case round =>
          clear HS9 HL8 HL9
          obtain ⟨k, rfl, hk, hsk, hlk, hmk⟩ := hrel
          by_cases hkl : k < El.length
          · have j2 : (k : Int) < (El.length : Int) := by omega
            have j3 : 0 ≤ (k : Int) := by omega
            obtain ⟨q, hq, h1, h2⟩ := HAA.out k hkl
            obtain ⟨g5, o5, rfl, hg5, y5⟩ := hlk.out.at_ h1
            obtain ⟨g6, o6, rfl, hg6, y6⟩ := hmk.out.at_ h2
            have e1 : IntKind.i64.wrap ((Bl.length : Int) - 1) = (Bl.length : Int) - 1 := IntWalk.i64_in _ (by rw [HLE.out]; omega)
            have e2 : IntKind.i64.wrap ((Bl.length : Int) - 1 - (k : Int)) = ((El.length - 1 - k : Nat) : Int) := by rw [IntWalk.i64_in _ (by rw [HLE.out]; omega), HLE.out]; omega
            have j4 : ((El.length - 1 - k : Nat) : Int) < (Bl.length : Int) := by rw [HLE.out]; omega
            have e3 : IntKind.i64.wrap ((n : Int) - (q : Int)) = ((n - q : Nat) : Int) := by rw [IntWalk.i64_in _ (by omega)]; omega
            have t1 : ((((n - q : Nat) : Int)) != ((n - q : Nat) : Int)) = false := by simp
            have HS2 := Lib.hid (hsk.out.on (below_drewN (Below.refl _ _) 1))
            have HL2 := Lib.hid (hlk.out.on (below_drewN (Below.refl _ _) 1))
            have HM2 := Lib.hid (hmk.out.on (below_drewN (Below.refl _ _) 1))
            clear h1 h2 hsk hlk hmk HAA HEB HBB
            generalize El.length - 1 - k = kp at *
            generalize n - q = nq at *
            go_wp2_with fail
            go_region
            all_goals go_wp2_with fail
            exact ⟨⟨k + 1, by simp, by omega, HS2, HL2, HM2⟩, by simp [intOf]; omega⟩
          · have j2 : ¬ (k : Int) < (El.length : Int) := by omega
            clear hlk hmk
            go_wp2_with fail
            exact ⟨⟨i + 1, by simp, by omega, hsk⟩, by simp [intOf]; omega⟩
      · have j1 : ¬ (i : Int) ≤ (n : Int) := by omega
        clear hsi hsw
        go_wp2_with fail
        go_ret
        exact ⟨rfl, HBI.out⟩
end Go.Proofs.YtimhlnndobfehaaGreatDoor
