/- Begins. Between. -/
import Derived.Test.YtimhlnndobfehaaDoorMc33
namespace Go.Proofs.YtimhlnndobfehaaDoor
open Go.RowKit
open Go.Lib (Utf8Tabs)
set_option linter.unusedVariables false

def beginsS (a : Al) (ns : List Nd) (s : ByteArray) (f : Int) : List Int × Int := if begE a ns s ≠ 0 then ([], begE a ns s) else if placeB (matW a s) f then (begI ns (matW a s) f.toNat (f.toNat + 1), 0) else ([], 2)
set_option maxHeartbeats 8000000 in
set_option maxRecDepth 100000 in
theorem begins_op (A1 A2 An : Option Addr) (c1 c2 cn lo : Nat) (a : Al) (ns : List Nd) (s : ByteArray) (f : Int) (w : World) (hin : AlIn w lo w.heap.size A1 A2 a) (hT : Utf8Tabs 0 1 w) (hns : Sl 5 vNd w lo w.heap.size An ns) (hm : ns.length ≤ 9223372036854775807) (hs : s.size ≤ maxLen) :
    Calls Tryd.prog 30 #[.agg #[.slice A1 a.feats.length c1, .slice A2 a.lets.length c2], .agg #[.slice An ns.length cn], .string s, .int .i64 f] w (LiOut (beginsS a ns s f) w) := by
  have hal : Below w.heap.size w ((w.alloc (.cells #[.slice A1 a.feats.length c1, .slice A2 a.lets.length c2] 25)).alloc (.cells #[.slice An ns.length cn] 28)) := ((Below.refl _ _).alloc (Nat.le_refl _) _).alloc (by simp) _
  have hbeg := Lib.hid (begun_any A1 A2 An c1 c2 cn lo a ns s _ (hin.on hal) (Utf8Tabs_below hT hal) ((hns.below vNd_good hal (Nat.le_refl _)).wide vNd_good (Nat.le_refl _) hal.size) hm hs)
  have HS : Hid (beginsS a ns s f = if begE a ns s ≠ 0 then ([], begE a ns s) else if placeB (matW a s) f then (begI ns (matW a s) f.toNat (f.toNat + 1), 0) else ([], 2)) := rfl
  have HBZ := Lib.hid (beg_zero (a := a) (ns := ns) (s := s))
  have HAL := Lib.hid hal
  generalize beginsS a ns s f = R at *
  clear hal hin hT hns
  go_enter Tryd.func30, Tryd.ntmps30
  go_wp2_with fail
  refine hbeg.out.mono ?_
  rintro e w1 ⟨hb1, ⟨hne, rfl⟩ | ⟨hz, sp, b, Al, cl, rfl, hb, hsr⟩⟩
  · have HFIN := Lib.hid (LiOut.no (W := w) (w' := w1) (show R = ([], begE a ns s) by rw [HS.out, if_pos hne]) (HAL.out.trans (hb1.mono HAL.out.size)))
    generalize begE a ns s = E at *
    have hE : (E != 0) = true := by rw [bne_iff_ne]; exact hne
    clear HS HBZ hbeg HAL hb1 hne
    go_wp2_with fail
    go_ret2
    exact HFIN.out
  · obtain ⟨htree, hl⟩ := HBZ.out hz
    have hlen := matW_len hl
    have hR : R = if placeB (matW a s) f then (begI ns (matW a s) f.toNat (f.toNat + 1), 0) else ([], 2) := by rw [HS.out, if_neg (by simp [hz])]
    have hbw := HAL.out.trans (hb1.mono HAL.out.size)
    have hbge : w.heap.size ≤ b := by have := HAL.out.size; omega
    rw [show matL a (lettersS a s).1 = matW a s from rfl] at hsr
    generalize matW a s = L at *
    have hpl := Lib.hid (place_any hsr f)
    have HBW := Lib.hid hbw
    have HSR := Lib.hid hsr
    have HTR := Lib.hid htree
    have hspl := hsr.row.lt
    clear HS HBZ hbeg HAL hb1 hz hl hsr hbw htree
    cases hP : placeB L f with
    | true =>
      rw [hP] at hpl hR
      obtain ⟨i, rfl, hi⟩ := place_nat hP
      have hR2 : R = (begI ns L i (i + 1), 0) := hR
      have hcall := Lib.hid (begins_any (tree_nodes HTR.out) HTR.out.pos HSR.out (fun g h => h.elim) hi)
      have HR := Lib.hid hR2
      clear hR hR2 hP
      generalize begI ns L i (i + 1) = E at *
      go_wp2_with fail
      refine hpl.out.mono ?_
      rintro e w2 ⟨rfl, rfl⟩
      go_wp2_with fail
      refine hcall.out.mono ?_
      rintro e w3 ⟨A, c, rfl, hfill⟩
      have hfin : LiOut R w (.returned (.tuple #[.slice A E.length c, .int .i64 0])) w3 := by
        rw [HR.out]
        exact ⟨A, c, rfl, own_low hfill.own HBW.out.size, fr_below HBW.out hfill.fr hbge⟩
      have HFIN := Lib.hid hfin
      clear hfin hfill hcall hpl
      go_wp2_with fail
      go_ret2
      exact HFIN.out
    | false =>
      rw [hP] at hpl hR
      have HFIN := Lib.hid (LiOut.no (W := w) (w' := w1) (show R = ([], 2) from hR) HBW.out)
      clear hR hP
      go_wp2_with fail
      refine hpl.out.mono ?_
      rintro e w2 ⟨rfl, rfl⟩
      go_wp2_with fail
      go_ret2
      exact HFIN.out
end Go.Proofs.YtimhlnndobfehaaDoor
namespace Go.Proofs.YtimhlnndobfehaaDoor
open Go.RowKit
open Go.Lib (Utf8Tabs)
set_option linter.unusedVariables false

def betweenS (a : Al) (ls rs : List Nd) (s : ByteArray) (f t : Int) : Bool × Int :=
  if patE a ls ≠ 0 then (false, patE a ls) else if begE a rs s ≠ 0 then (false, begE a rs s) else if placeB (matW a s) f && placeB (matW a s) t then
    (decide (0 < (begI ls (matW a s) f.toNat (f.toNat + 1)).length) && decide (0 < (endsI rs (matW a s) 0 t.toNat).length), 0) else (false, 2)
set_option maxHeartbeats 8000000 in
set_option maxRecDepth 100000 in
theorem between_any (A1 A2 An Am : Option Addr) (c1 c2 cn cm lo : Nat) (a : Al) (ls rs : List Nd) (s : ByteArray) (f t : Int) (w : World) (hin : AlIn w lo w.heap.size A1 A2 a) (hT : Utf8Tabs 0 1 w) (hls : Sl 5 vNd w lo w.heap.size An ls) (hrs : Sl 5 vNd w lo w.heap.size Am rs) (hm : ls.length ≤ 9223372036854775807) (hm2 : rs.length ≤ 9223372036854775807) (hs : s.size ≤ maxLen) :
    Calls Tryd.prog 31 #[.agg #[.slice A1 a.feats.length c1, .slice A2 a.lets.length c2], .agg #[.slice An ls.length cn], .agg #[.slice Am rs.length cm], .string s, .int .i64 f, .int .i64 t] w (BoOut (betweenS a ls rs s f t) w) := by
  obtain ⟨W0, hW0⟩ : ∃ W0, W0 = ((w.alloc (.cells #[.slice A1 a.feats.length c1, .slice A2 a.lets.length c2] 25)).alloc (.cells #[.slice An ls.length cn] 28)).alloc (.cells #[.slice Am rs.length cm] 28) := ⟨_, rfl⟩
  have hal : Below w.heap.size w W0 := by rw [hW0]; exact (((Below.refl _ _).alloc (Nat.le_refl _) _).alloc (by simp) _).alloc (by simp; omega) _
  have hr0 : Row W0 w.heap.size 25 [.slice A1 a.feats.length c1, .slice A2 a.lets.length c2] := by rw [hW0]; exact ((Row.new w _ _).alloc _).alloc _
  have hq0 : Row W0 (w.heap.size + 1) 28 [.slice An ls.length cn] := by
    have h := (Row.new (w.alloc (.cells #[.slice A1 a.feats.length c1, .slice A2 a.lets.length c2] 25)) 28 [.slice An ls.length cn]).alloc (.cells #[.slice Am rs.length cm] 28)
    rw [hW0]
    simpa using h
  have hp0 : Row W0 (w.heap.size + 1 + 1) 28 [.slice Am rs.length cm] := by
    have h := Row.new ((w.alloc (.cells #[.slice A1 a.feats.length c1, .slice A2 a.lets.length c2] 25)).alloc (.cells #[.slice An ls.length cn] 28)) 28 [.slice Am rs.length cm]
    rw [hW0]
    simpa using h
  have HIN := Lib.hid (fun (wx : World) (hb : Below w.heap.size w wx) => hin.on hb)
  have HLS := Lib.hid (fun (wx : World) (hb : Below w.heap.size w wx) => (hls.below vNd_good hb (Nat.le_refl _)).wide vNd_good (Nat.le_refl _) hb.size)
  have HRS := Lib.hid (fun (wx : World) (hb : Below w.heap.size w wx) => (hrs.below vNd_good hb (Nat.le_refl _)).wide vNd_good (Nat.le_refl _) hb.size)
  have HC := Lib.hid (fun (wx : World) (hb : Below w.heap.size w wx) => check_any A1 A2 c1 c2 lo a wx (hin.on hb))
  have HPC := Lib.hid (fun (wx : World) (hb : Below w.heap.size w wx) => pcheck_any A1 A2 An c1 c2 cn lo a ls wx (hin.on hb) (HLS.out wx hb) hm)
  have HBR := Lib.hid (fun (wx : World) (hb : Below w.heap.size w wx) => begun_any A1 A2 Am c1 c2 cm lo a rs s wx (hin.on hb) (Utf8Tabs_below hT hb) (HRS.out wx hb) hm2 hs)
  have HBL := Lib.hid (fun (wx : World) (hb : Below w.heap.size w wx) => begun_any A1 A2 An c1 c2 cn lo a ls s wx (hin.on hb) (Utf8Tabs_below hT hb) (HLS.out wx hb) hm hs)
  have HS : Hid (betweenS a ls rs s f t = if patE a ls ≠ 0 then (false, patE a ls) else if begE a rs s ≠ 0 then (false, begE a rs s) else if placeB (matW a s) f && placeB (matW a s) t then
    (decide (0 < (begI ls (matW a s) f.toNat (f.toNat + 1)).length) && decide (0 < (endsI rs (matW a s) 0 t.toNat).length), 0) else (false, 2)) := rfl
  have HBZ := Lib.hid (fun ns => beg_zero (a := a) (ns := ns) (s := s))
  have HPZ : Hid (alE a ≠ 0 → patE a ls = alE a) := fun h => by unfold patE; rw [if_pos h]
  have HLZ : Hid (patE a ls = 0 → begE a rs s = 0 → begE a ls s = 0) := fun h1 h2 => by
    unfold begE
    rw [if_neg (by simp [h1])]
    exact (beg_zero h2).2
  generalize betweenS a ls rs s f t = R at *
  have hc0 := Lib.hid (HC.out W0 hal)
  have HAL := Lib.hid hal
  have HR0 := Lib.hid hr0
  have HQ0 := Lib.hid hq0
  have HP0 := Lib.hid hp0
  obtain ⟨a0, _⟩ := hr0.cel (i := 0) rfl
  obtain ⟨a1, _⟩ := hr0.cel (i := 1) rfl
  have l0 := hr0.lt
  rw [hW0] at hc0
  clear hin hls hrs hT hal hr0 hq0 hp0 HC a0 a1
  go_enter Tryd.func31, Tryd.ntmps31
  go_wp2_with fail
  refine hc0.out.mono ?_
  rw [← hW0]
  rintro e w1 ⟨rfl, hb1⟩
  have hbw1 := HAL.out.trans (hb1.mono HAL.out.size)
  have hr1 := HR0.out.below hb1 HR0.out.lt
  have hq1 := HQ0.out.below hb1 HQ0.out.lt
  have hp1 := HP0.out.below hb1 HP0.out.lt
  have HB1 := Lib.hid hbw1
  have HR1 := Lib.hid hr1
  have HQ1 := Lib.hid hq1
  have HP1 := Lib.hid hp1
  obtain ⟨a0, _⟩ := hr1.cel (i := 0) rfl
  obtain ⟨a1, _⟩ := hr1.cel (i := 1) rfl
  obtain ⟨q0, _⟩ := hq1.cel (i := 0) rfl
  have l1 := hp1.lt
  clear hc0 hb1 hbw1 hr1 hq1 hp1 HAL HR0 HQ0 HP0 hW0
  by_cases hE : alE a = 0
  · rw [hE]
    have HP := Lib.hid (HPC.out w1 HB1.out)
    clear HPC hE
    go_wp2_with fail
    refine HP.out.mono ?_
    rintro e w2 ⟨rfl, hb2⟩
    have hbw2 := HB1.out.trans (hb2.mono HB1.out.size)
    have hr2 := HR1.out.below hb2 HR1.out.lt
    have hq2 := HQ1.out.below hb2 HQ1.out.lt
    have hp2 := HP1.out.below hb2 HP1.out.lt
    have HB2 := Lib.hid hbw2
    have HR2 := Lib.hid hr2
    have HQ2 := Lib.hid hq2
    obtain ⟨b0, _⟩ := hr2.cel (i := 0) rfl
    obtain ⟨b1, _⟩ := hr2.cel (i := 1) rfl
    obtain ⟨p0, _⟩ := hp2.cel (i := 0) rfl
    have l2 := hp2.lt
    clear HP a0 a1 q0 hb2 hbw2 hr2 hq2 hp2 HR1 HQ1 HP1 HB1
    by_cases hP : patE a ls = 0
    · rw [hP]
      have HR3 : Hid (R = if begE a rs s ≠ 0 then (false, begE a rs s) else if placeB (matW a s) f && placeB (matW a s) t then
        (decide (0 < (begI ls (matW a s) f.toNat (f.toNat + 1)).length) && decide (0 < (endsI rs (matW a s) 0 t.toNat).length), 0) else (false, 2)) := by show _ = _; rw [HS.out, if_neg (by simp [hP])]
      have HLZ2 := Lib.hid (HLZ.out hP)
      have HB := Lib.hid (HBR.out w2 HB2.out)
      clear HS HLZ HPZ HBR hP
      go_wp2_with fail
      refine HB.out.mono ?_
      rintro e w3 ⟨hb3, ⟨hne, rfl⟩ | ⟨hz, sp, b, Al, cl, rfl, hbb, hsr⟩⟩
      · have HFIN := Lib.hid (BoOut.mk' (W := w) (w' := w3) (show R = (false, begE a rs s) by rw [HR3.out, if_pos hne]) (HB2.out.trans (hb3.mono HB2.out.size)))
        generalize begE a rs s = E at *
        have hE : (E != 0) = true := by rw [bne_iff_ne]; exact hne
        clear HR3 HB hb3 hne HLZ2
        go_wp2_with fail
        go_ret2
        exact HFIN.out
      · obtain ⟨hrt, hl⟩ := HBZ.out rs hz
        have hlz := HLZ2.out hz
        obtain ⟨hlt, _⟩ := HBZ.out ls hlz
        have hlen := matW_len hl
        have hR : R = if placeB (matW a s) f && placeB (matW a s) t then
          (decide (0 < (begI ls (matW a s) f.toNat (f.toNat + 1)).length) && decide (0 < (endsI rs (matW a s) 0 t.toNat).length), 0) else (false, 2) := by rw [HR3.out, if_neg (by simp [hz])]
        have hbw3 := HB2.out.trans (hb3.mono HB2.out.size)
        have hr3 := HR2.out.below hb3 HR2.out.lt
        have hq3 := HQ2.out.below hb3 HQ2.out.lt
        rw [show matL a (lettersS a s).1 = matW a s from rfl] at hsr
        have HB3 := Lib.hid hbw3
        have HSR := Lib.hid hsr
        have HRT := Lib.hid hrt
        have HLT := Lib.hid hlt
        have hpf := Lib.hid (place_any hsr f)
        have hpt := Lib.hid (place_any hsr t)
        have hbl := HBL.out w3 hbw3
        unfold BegOut at hbl
        rw [show matL a (lettersS a s).1 = matW a s from rfl] at hbl
        have HBL3 := Lib.hid hbl
        have HLZ3 := Lib.hid hlz
        generalize matW a s = L at *
        obtain ⟨d0, _⟩ := hr3.cel (i := 0) rfl
        obtain ⟨d1, _⟩ := hr3.cel (i := 1) rfl
        obtain ⟨d2, _⟩ := hq3.cel (i := 0) rfl
        have l3 := hq3.lt
        have l3' := hr3.lt
        have hsp3 := hsr.row.lt
        have hb3r := hsr.lt
        clear HR3 HB hb3 hz hl hlz HLZ2 hrt hlt hbw3 hr3 hq3 hsr hbl HBZ HBL HIN HLS HRS b0 b1 p0 HQ2 HR2
        cases hF : placeB L f with
        | false =>
          rw [hF] at hpf hR
          have HFIN := Lib.hid (BoOut.mk' (W := w) (w' := w3) (show R = (false, 2) from hR) HB3.out)
          clear hR hF
          go_wp2_with fail
          refine hpf.out.mono ?_
          rintro e w4 ⟨rfl, rfl⟩
          go_wp2_with fail
          go_ret2
          exact HFIN.out
        | true =>
          rw [hF] at hpf hR
          cases hG : placeB L t with
          | false =>
            rw [hG] at hpt hR
            have HFIN := Lib.hid (BoOut.mk' (W := w) (w' := w3) (show R = (false, 2) from hR) HB3.out)
            clear hR hF hG
            go_wp2_with fail
            refine hpf.out.mono ?_
            rintro e w4 ⟨rfl, rfl⟩
            go_wp2_with fail
            refine hpt.out.mono ?_
            rintro e w4' ⟨rfl, rfl⟩
            go_wp2_with fail
            go_ret2
            exact HFIN.out
          | true =>
            rw [hG] at hpt hR
            obtain ⟨i, rfl, hi⟩ := place_nat hF
            obtain ⟨j, rfl, hj⟩ := place_nat hG
            have hR2 : R = (decide (0 < (begI ls L i (i + 1)).length) && decide (0 < (endsI rs L 0 j).length), 0) := hR
            have HR := Lib.hid hR2
            clear hR hF hG hR2
            go_wp2_with fail
            refine hpf.out.mono ?_
            rintro e w4 ⟨rfl, rfl⟩
            go_wp2_with fail
            refine hpt.out.mono ?_
            rintro e w4' ⟨rfl, rfl⟩
            go_wp2_with fail
            refine HBL3.out.mono ?_
            rintro e w5 ⟨hb5, ⟨hne, rfl⟩ | ⟨hz5, spl, bl, Al2, cl2, rfl, hbl5, hsl5⟩⟩
            · exact absurd HLZ3.out hne
            · have hsr5 := HSR.out.below hb5
              have hcb := Lib.hid (begins_any (tree_nodes HLT.out) HLT.out.pos hsl5 (fun g h => h.elim) hi)
              have hbw5 := HB3.out.trans (hb5.mono HB3.out.size)
              have HB5 := Lib.hid hb5
              have HBW5 := Lib.hid hbw5
              have hz3 := HB3.out.size
              clear hpf hpt HBL3 hb5 hz5 hsl5 hsr5 hbw5 d0 d1 d2
              by_cases h0 : 0 < (begI ls L i (i + 1)).length
              · have HR4 : Hid (R = (decide (0 < (endsI rs L 0 j).length), 0)) := by show _ = _; rw [HR.out, decide_eq_true h0, Bool.true_and]
                have h0' : (0 : Int) < ((begI ls L i (i + 1)).length : Int) := by omega
                clear HR
                generalize begI ls L i (i + 1) = B at *
                go_wp2_with fail
                refine hcb.out.mono ?_
                rintro e w6 ⟨A6, c6, rfl, hfill⟩
                have hb6 := fr_below HB5.out hfill.fr hbl5
                have hce := Lib.hid ((HSR.out.below hb6).ends (tree_nodes HRT.out) HRT.out.pos (fun g h => h.elim) hj)
                have hbw6 := HB3.out.trans (hb6.mono HB3.out.size)
                have HBW6 := Lib.hid hbw6
                clear hfill hb6 hcb hbw6
                generalize endsI rs L 0 j = E at *
                go_wp2_with fail
                refine hce.out.mono ?_
                rintro e w7 ⟨A7, c7, rfl, _, _, hfr7⟩
                have hbw7 := fr_below HBW6.out hfr7 (by have := HB2.out.size; omega)
                have HFIN := Lib.hid (BoOut.mk' (W := w) (w' := w7) HR4.out hbw7)
                clear hce hfr7 hbw7 HR4
                go_wp2_with fail
                go_ret2
                exact HFIN.out
              · have HR4 : Hid (R = (false, 0)) := by show _ = _; rw [HR.out, decide_eq_false h0, Bool.false_and]
                have h0' : ¬ (0 : Int) < ((begI ls L i (i + 1)).length : Int) := by omega
                clear HR
                generalize begI ls L i (i + 1) = B at *
                go_wp2_with fail
                refine hcb.out.mono ?_
                rintro e w6 ⟨A6, c6, rfl, hfill⟩
                have hb6 := fr_below HB5.out hfill.fr hbl5
                have HFIN := Lib.hid (BoOut.mk' (W := w) (w' := w6) HR4.out (HB3.out.trans (hb6.mono HB3.out.size)))
                clear hfill hb6 hcb HR4 h0
                go_wp2_with fail
                go_ret2
                exact HFIN.out
    · have HFIN := Lib.hid (BoOut.mk' (W := w) (w' := w2) (show R = (false, patE a ls) by rw [HS.out, if_pos hP]) HB2.out)
      generalize patE a ls = E at *
      have hE : (E != 0) = true := by rw [bne_iff_ne]; exact hP
      clear HS HLZ HPZ hP
      go_wp2_with fail
      go_ret2
      exact HFIN.out
  · have hpe := HPZ.out hE
    have HFIN := Lib.hid (BoOut.mk' (W := w) (w' := w1) (show R = (false, alE a) by rw [HS.out, hpe, if_pos hE]) HB1.out)
    generalize alE a = E at *
    have hne : (E != 0) = true := by rw [bne_iff_ne]; exact hE
    clear HS HLZ HPZ hE hpe
    go_wp2_with fail
    go_ret2
    exact HFIN.out
end Go.Proofs.YtimhlnndobfehaaDoor
