/- The document's May, Check of patterns; what is asked first. -/
import Derived.Test.YtimhlnndobfehaaGreatDoorMd32
import Derived.Test.YtimhlnndobfehaaGreatDoorMd18
import Derived.Test.YtimhlnndobfehaaGreatDoorMd35
import Derived.Test.YtimhlnndobfehaaGreatDoorMd19
import Derived.Test.YtimhlnndobfehaaGreatDoorMd20
namespace Go.Proofs.YtimhlnndobfehaaGreatDoor
open Go.RowKit
open Go.Lib (Utf8Tabs)
set_option linter.unusedVariables false

theorem fit_rune {a : Al} (hok : alOk a = true) (r : Int) : decide ((ofS a r).2 = 0) = decide (0 ≤ numI a r) := by
  unfold ofS numI
  rw [if_neg (by rw [hok]; simp)]
  cases num a r with
  | none => rfl
  | some k => simp
def RmSt (a : Al) (ns : List Nd) (W : World) (x : Value) (wr : World) : Prop :=
  ∃ (k : Nat), x = .int .i64 (k : Int) ∧ k ≤ ns.length ∧ Hid (ns.all (ndFit a) = (ns.drop k).all (ndFit a)) ∧ Hid (Below W.heap.size W wr)
set_option maxHeartbeats 4000000 in
set_option maxRecDepth 100000 in
theorem rmay_pat (A1 A2 An : Option Addr) (c1 c2 cn lo : Nat) (a : Al) (ns : List Nd) (w : World) (hin : AlIn w lo w.heap.size A1 A2 a) (hok : alOk a = true) (hns : Sl 5 vNd w lo w.heap.size An ns) (hm : ns.length ≤ 9223372036854775807) :
    Calls Tryz.prog 54 #[.agg #[.slice A1 a.feats.length c1, .slice A2 a.lets.length c2], .agg #[.slice An ns.length cn]] w fun e w' => e = .returned (.bool (patOk a ns)) ∧ Below w.heap.size w w' := by
  have hal : Below w.heap.size w ((w.alloc (.cells #[.slice A1 a.feats.length c1, .slice A2 a.lets.length c2] 25)).alloc (.cells #[.slice An ns.length cn] 28)) := ((Below.refl _ _).alloc (Nat.le_refl _) _).alloc (by simp) _
  have hr0 := (Row.new w 25 [.slice A1 a.feats.length c1, .slice A2 a.lets.length c2]).alloc (.cells #[.slice An ns.length cn] 28)
  have hq0 := Row.new (w.alloc (.cells #[.slice A1 a.feats.length c1, .slice A2 a.lets.length c2] 25)) 28 [.slice An ns.length cn]
  have hsz : (w.alloc (.cells #[.slice A1 a.feats.length c1, .slice A2 a.lets.length c2] 25)).heap.size = w.heap.size + 1 := by simp
  rw [hsz] at hq0
  clear hsz
  have HIN := Lib.hid (fun (wx : World) (hb : Below w.heap.size w wx) => hin.on hb)
  have HNS := Lib.hid (fun (wx : World) (hb : Below w.heap.size w wx) => (hns.below vNd_good hb (Nat.le_refl _)).wide vNd_good (Nat.le_refl _) hb.size)
  have HT1 := Lib.hid (treeR_any An cn lo _ ns _ hm (Nat.le_refl _) (HNS.out _ hal))
  have hfs := (alOk_size hok).1
  have HOK := Lib.hid hok
  have HAL := Lib.hid hal
  have HR0 := Lib.hid hr0
  have HQ0 := Lib.hid hq0
  have HP : Hid (patOk a ns = (treeB ns && ns.all (ndFit a))) := rfl
  generalize patOk a ns = R at *
  clear hal hr0 hq0 hin hns hok
  go_enter Tryz.func54, Tryz.ntmps54
  go_wp2_with fail
  refine HT1.out.mono ?_
  rintro e w2 ⟨rfl, hb2⟩
  have hbw2 := HAL.out.trans (hb2.mono HAL.out.size)
  have HB2 := Lib.hid hbw2
  have HR2 := Lib.hid (HR0.out.below hb2 HR0.out.lt)
  have HQ2 := Lib.hid (HQ0.out.below hb2 HQ0.out.lt)
  clear HT1 hb2 hbw2 HAL HR0 HQ0
  cases hT : treeB ns with
  | false =>
    have HF : Hid (R = false) := by show _ = _; rw [HP.out, hT]; rfl
    go_wp2_with fail
    go_ret
    exact ⟨by rw [HF.out]; rfl, HB2.out⟩
  | true =>
    have HP3 : Hid (R = ns.all (ndFit a)) := by show _ = _; rw [HP.out, hT, Bool.true_and]
    have hst : RmSt a ns w2 (.int .i64 0) w2 := ⟨0, rfl, by omega, rfl, Below.refl _ _⟩
    have HST := Lib.hid hst
    clear hst hT HP
    go_wp2_with fail
    go_loopw [5] (fun x wr => RmSt a ns w2 x wr) (fun x _ => ns.length - (intOf x).toNat)
    case atStart => exact HST.out
    case round =>
      clear HST
      obtain ⟨k, rfl, hk, hA, hB⟩ := hrel
      have hbw : Below w.heap.size w wr := HB2.out.trans (hB.out.mono HB2.out.size)
      have hbs := hB.out.size
      obtain ⟨q0, _⟩ := (HQ2.out.below hB.out HQ2.out.lt).cel (i := 0) rfl
      have ql := (HQ2.out.below hB.out HQ2.out.lt).lt
      by_cases hlt : k < ns.length
      · obtain ⟨bn, on, B, cc, eA, _, hbn, ⟨y0, _⟩, ⟨y1, _⟩, ⟨y2, _⟩, ⟨y3, _⟩, ⟨y4, _⟩, _, _, _, k0, k1, k2, k3⟩ := nd_at (HNS.out wr hbw) hlt
        have hst : ns.all (ndFit a) = (ndFit a ns[k] && (ns.drop (k + 1)).all (ndFit a)) := by rw [hA.out, List.drop_eq_getElem_cons hlt]; rfl
        have HST := Lib.hid hst
        clear hst hA
        generalize ns[k] = x at *
        have j1 : (k : Int) < (ns.length : Int) := by omega
        have j2 : 0 ≤ (k : Int) := by omega
        have r1 := kin_i32 k1
        have r2 := kin_u32 k2
        have r3 := kin_u32 k3
        obtain ⟨kd, rn, pl, mi, ks⟩ := x
        simp only at *
        obtain ⟨p, rfl⟩ := Int.eq_ofNat_of_zero_le r2.1
        obtain ⟨m, rfl⟩ := Int.eq_ofNat_of_zero_le r3.1
        have hbN : Below wr.heap.size wr (wr.alloc (.cells #[.int .u8 kd, .int .i32 rn, .int .u32 (p : Int), .int .u32 (m : Int), .slice B ks.length cc] 66)) := (Below.refl _ _).alloc (Nat.le_refl _) _
        have hrN := (HR2.out.below hB.out HR2.out.lt).alloc (.cells #[.int .u8 kd, .int .i32 rn, .int .u32 (p : Int), .int .u32 (m : Int), .slice B ks.length cc] 66)
        obtain ⟨z0, _⟩ := hrN.cel (i := 0) rfl
        obtain ⟨z1, _⟩ := hrN.cel (i := 1) rfl
        obtain ⟨z0', _⟩ := (HR2.out.below hB.out HR2.out.lt).cel (i := 0) rfl
        obtain ⟨z1', _⟩ := (HR2.out.below hB.out HR2.out.lt).cel (i := 1) rfl
        have hlr := (HR2.out.below hB.out HR2.out.lt).lt
        have HRN := Lib.hid (Row.new wr 66 [.int .u8 kd, .int .i32 rn, .int .u32 (p : Int), .int .u32 (m : Int), .slice B ks.length cc])
        have HBN := Lib.hid (hbw.trans (hbN.mono hbw.size))
        have HBK := Lib.hid (hB.out.trans (hbN.mono hB.out.size))
        subst eA
        by_cases k2' : kd = 2
        · subst k2'
          have hof := Lib.hid (rfind_any A1 A2 c1 c2 lo a rn _ (HIN.out _ HBN.out) r1)
          have hfit : ndFit a ⟨2, rn, p, m, ks⟩ = decide (0 ≤ numI a rn) := fit_rune HOK.out rn
          rw [hfit] at HST
          clear hfit hbN hrN hbw
          generalize numI a rn = o at *
          by_cases ho : 0 ≤ o
          · have ho2 : decide (o < 0) = false := decide_eq_false (by omega)
            have ho3 : ¬ o < 0 := by omega
            go_wp2_with fail
            refine hof.out.mono ?_
            rintro e w5 ⟨rfl, hb5⟩
            obtain ⟨n0, _⟩ := (HRN.out.below hb5 HRN.out.lt).cel (i := 0) rfl
            have nl0 := (HRN.out.below hb5 HRN.out.lt).lt
            have hfin : RmSt a ns w2 (.int .i64 ((k : Int) + 1)) w5 := ⟨k + 1, by simp, by omega, by show _ = _; rw [HST.out, decide_eq_true ho, Bool.true_and], HBK.out.trans (hb5.mono HBK.out.size)⟩
            have HFIN := Lib.hid hfin
            clear hfin HST hb5 hof
            go_wp2_with fail
            exact ⟨HFIN.out, by simp [intOf]; omega⟩
          · have ho2 : decide (o < 0) = true := decide_eq_true (by omega)
            have ho3 : o < 0 := by omega
            go_wp2_with fail
            refine hof.out.mono ?_
            rintro e w5 ⟨rfl, hb5⟩
            have HF : Hid (R = false) := by show _ = _; rw [HP3.out, HST.out, decide_eq_false (by omega)]; rfl
            have HB5 := Lib.hid (HBN.out.trans (hb5.mono HBN.out.size))
            clear HST hb5 hof
            go_wp2_with fail
            go_ret
            exact ⟨by rw [HF.out]; rfl, HB5.out⟩
        · have e2 := beq_eq_false_iff_ne.2 k2'
          by_cases k3' : kd = 3
          · subst k3'
            have hof := Lib.hid (fun wx => may_any A1 A2 a.feats.length c1 a.lets.length c2 p m wx hfs (by omega) (by omega))
            have hfit : ndFit a ⟨3, rn, p, m, ks⟩ = classOk a.feats.length p m := rfl
            rw [hfit] at HST
            clear hfit hbN hrN hbw
            cases hc : classOk a.feats.length p m with
            | true =>
              rw [hc] at hof HST
              go_wp2_with fail
              refine (hof.out _).mono ?_
              rintro e w5 ⟨rfl, hb5⟩
              have hfin : RmSt a ns w2 (.int .i64 ((k : Int) + 1)) w5 := ⟨k + 1, by simp, by omega, by show _ = _; rw [HST.out, Bool.true_and], HBK.out.trans (hb5.mono HBK.out.size)⟩
              have HFIN := Lib.hid hfin
              clear hfin HST hb5 hof
              go_wp2_with fail
              exact ⟨HFIN.out, by simp [intOf]; omega⟩
            | false =>
              rw [hc] at hof HST
              go_wp2_with fail
              refine (hof.out _).mono ?_
              rintro e w5 ⟨rfl, hb5⟩
              have HF : Hid (R = false) := by show _ = _; rw [HP3.out, HST.out]; rfl
              have HB5 := Lib.hid (HBN.out.trans (hb5.mono HBN.out.size))
              clear HST hb5 hof
              go_wp2_with fail
              go_ret
              exact ⟨by rw [HF.out]; rfl, HB5.out⟩
          · have e3 := beq_eq_false_iff_ne.2 k3'
            have hfit : ndFit a ⟨kd, rn, p, m, ks⟩ = true := by unfold ndFit; rw [if_neg k2', if_neg k3']
            have hfin : RmSt a ns w2 (.int .i64 ((k : Int) + 1)) (wr.alloc (.cells #[.int .u8 kd, .int .i32 rn, .int .u32 (p : Int), .int .u32 (m : Int), .slice B ks.length cc] 66)) := ⟨k + 1, by simp, by omega, by show _ = _; rw [HST.out, hfit, Bool.true_and], HBK.out⟩
            have HFIN := Lib.hid hfin
            clear hfin HST hfit hbN hrN hbw
            go_wp2_with fail
            exact ⟨HFIN.out, by simp [intOf]; omega⟩
      · obtain rfl : k = ns.length := by omega
        have j1 : ¬ (ns.length : Int) < (ns.length : Int) := by omega
        have HF : Hid (R = true) := by show _ = _; rw [HP3.out, hA.out, List.drop_length]; rfl
        have HB := Lib.hid hbw
        clear hA hbw
        go_wp2_with fail
        go_ret
        exact ⟨by rw [HF.out]; rfl, HB.out⟩
set_option maxHeartbeats 4000000 in
theorem rcheck_pat (A1 A2 An : Option Addr) (c1 c2 cn lo : Nat) (a : Al) (ns : List Nd) (w : World) (hin : AlIn w lo w.heap.size A1 A2 a) (hns : Sl 5 vNd w lo w.heap.size An ns) (hm : ns.length ≤ 9223372036854775807) :
    Calls Tryz.prog 16 #[.agg #[.slice A1 a.feats.length c1, .slice A2 a.lets.length c2], .agg #[.slice An ns.length cn]] w fun e w' => e = .returned (.int .i64 (patE a ns)) ∧ Below w.heap.size w w' := by
  have hal : Below w.heap.size w ((w.alloc (.cells #[.slice A1 a.feats.length c1, .slice A2 a.lets.length c2] 25)).alloc (.cells #[.slice An ns.length cn] 28)) := ((Below.refl _ _).alloc (Nat.le_refl _) _).alloc (by simp) _
  have hr0 := (Row.new w 25 [.slice A1 a.feats.length c1, .slice A2 a.lets.length c2]).alloc (.cells #[.slice An ns.length cn] 28)
  have hq0 := Row.new (w.alloc (.cells #[.slice A1 a.feats.length c1, .slice A2 a.lets.length c2] 25)) 28 [.slice An ns.length cn]
  have hsz : (w.alloc (.cells #[.slice A1 a.feats.length c1, .slice A2 a.lets.length c2] 25)).heap.size = w.heap.size + 1 := by simp
  rw [hsz] at hq0
  clear hsz
  have hcall := Lib.hid (rcheck_any A1 A2 c1 c2 lo a _ (hin.on hal))
  have HS : Hid (patE a ns = if alE a ≠ 0 then alE a else if patOk a ns then 0 else 40) := rfl
  have HM := Lib.hid (fun (wx : World) (hb : Below w.heap.size w wx) (hok : alOk a = true) => rmay_pat A1 A2 An c1 c2 cn lo a ns wx (hin.on hb) hok ((hns.below vNd_good hb (Nat.le_refl _)).wide vNd_good (Nat.le_refl _) hb.size) hm)
  have HZ := Lib.hid (alE_zero (a := a))
  generalize patE a ns = R at *
  clear hin hns
  by_cases hE : alE a = 0
  · have hok := HZ.out.1 hE
    have HM2 := Lib.hid (fun wx hb => HM.out wx hb hok)
    have HR : Hid (R = if patOk a ns then 0 else 40) := by show _ = _; rw [HS.out, if_neg (by simp [hE])]
    rw [hE] at hcall
    clear hok HM HS hE HZ
    go_enter Tryz.func16, Tryz.ntmps16
    go_wp2_with fail
    refine hcall.out.mono ?_
    rintro e w1 ⟨rfl, hb1⟩
    have hbw1 := hal.trans (hb1.mono hal.size)
    have hr1 := hr0.below hb1 hr0.lt
    have hq1 := hq0.below hb1 hq0.lt
    obtain ⟨y0, _⟩ := hr1.cel (i := 0) rfl
    obtain ⟨y1, _⟩ := hr1.cel (i := 1) rfl
    obtain ⟨z0, _⟩ := hq1.cel (i := 0) rfl
    have hl1 := hr1.lt
    have hl2 := hq1.lt
    have HC2 := Lib.hid (HM2.out w1 hbw1)
    have HB1 := Lib.hid hbw1
    clear hcall hal hb1 hr0 hq0 hbw1 hr1 hq1 HM2
    cases hP : patOk a ns with
    | true =>
      rw [hP] at HC2 HR
      have HF : Hid (R = 0) := HR.out
      clear hP HR
      go_wp2_with fail
      refine HC2.out.mono ?_
      rintro e w2 ⟨rfl, hb2⟩
      have HB2 := Lib.hid (HB1.out.trans (hb2.mono HB1.out.size))
      clear hb2
      go_wp2_with fail
      go_ret
      exact ⟨by rw [HF.out]; rfl, HB2.out⟩
    | false =>
      rw [hP] at HC2 HR
      have HF : Hid (R = 40) := HR.out
      clear hP HR
      go_wp2_with fail
      refine HC2.out.mono ?_
      rintro e w2 ⟨rfl, hb2⟩
      have HB2 := Lib.hid (HB1.out.trans (hb2.mono HB1.out.size))
      clear hb2
      go_wp2_with fail
      go_ret
      exact ⟨by rw [HF.out]; rfl, HB2.out⟩
  · have HFIN := Lib.hid (show R = alE a by rw [HS.out, if_pos hE])
    generalize alE a = E at *
    have hne : (E != 0) = true := by rw [bne_iff_ne]; exact hE
    clear HS hE HM HZ
    go_enter Tryz.func16, Tryz.ntmps16
    go_wp2_with fail
    refine hcall.out.mono ?_
    rintro e w1 ⟨rfl, hb1⟩
    have HB := Lib.hid (hal.trans (hb1.mono hal.size))
    clear hb1
    go_wp2_with fail
    go_ret
    exact ⟨by rw [HFIN.out]; rfl, HB.out⟩
/-- What is asked first: the letters, or what is wrong. -/
def askS (a : Al) (ns : List Nd) (s : ByteArray) : List Int × Int := if patE a ns ≠ 0 then ([], patE a ns) else lettersS a s
theorem askS_err (a : Al) (ns : List Nd) (s : ByteArray) : (askS a ns s).2 = begE a ns s := by
  unfold askS begE
  split <;> rfl
theorem askS_ok {a : Al} {ns : List Nd} {s : ByteArray} (h : begE a ns s = 0) : (askS a ns s).1 = (lettersS a s).1 := by
  unfold begE at h
  unfold askS
  split at h
  · contradiction
  · rename_i h2
    rw [if_neg h2]
set_option maxHeartbeats 4000000 in
theorem rasked_any (A1 A2 An : Option Addr) (c1 c2 cn lo : Nat) (a : Al) (ns : List Nd) (s : ByteArray) (w : World) (hin : AlIn w lo w.heap.size A1 A2 a) (hT : Utf8Tabs 0 1 w) (hns : Sl 5 vNd w lo w.heap.size An ns) (hm : ns.length ≤ 9223372036854775807) (hs : s.size ≤ maxLen) :
    Calls Tryz.prog 63 #[.agg #[.slice A1 a.feats.length c1, .slice A2 a.lets.length c2], .agg #[.slice An ns.length cn], .string s] w (ReadOut (askS a ns s) w) := by
  have hal : Below w.heap.size w ((w.alloc (.cells #[.slice A1 a.feats.length c1, .slice A2 a.lets.length c2] 25)).alloc (.cells #[.slice An ns.length cn] 28)) := ((Below.refl _ _).alloc (Nat.le_refl _) _).alloc (by simp) _
  have hr0 := (Row.new w 25 [.slice A1 a.feats.length c1, .slice A2 a.lets.length c2]).alloc (.cells #[.slice An ns.length cn] 28)
  have hq0 := Row.new (w.alloc (.cells #[.slice A1 a.feats.length c1, .slice A2 a.lets.length c2] 25)) 28 [.slice An ns.length cn]
  have hsz : (w.alloc (.cells #[.slice A1 a.feats.length c1, .slice A2 a.lets.length c2] 25)).heap.size = w.heap.size + 1 := by simp
  rw [hsz] at hq0
  clear hsz
  have hcall := Lib.hid (rcheck_any A1 A2 c1 c2 lo a _ (hin.on hal))
  have HPC := Lib.hid (fun (wx : World) (hb : Below w.heap.size w wx) => rcheck_pat A1 A2 An c1 c2 cn lo a ns wx (hin.on hb) ((hns.below vNd_good hb (Nat.le_refl _)).wide vNd_good (Nat.le_refl _) hb.size) hm)
  have HLE := Lib.hid (fun (wx : World) (hb : Below w.heap.size w wx) => rletters_any A1 A2 c1 c2 lo a s wx (hin.on hb) (Utf8Tabs_below hT hb) hs)
  have HS : Hid (askS a ns s = if patE a ns ≠ 0 then ([], patE a ns) else lettersS a s) := rfl
  have HPE : Hid (patE a ns = if alE a ≠ 0 then alE a else if patOk a ns then 0 else 40) := rfl
  generalize askS a ns s = R at *
  clear hin hns hT
  by_cases hE : alE a = 0
  · rw [hE] at hcall
    clear hE HPE
    by_cases hP : patE a ns = 0
    · have HF : Hid (R = lettersS a s) := by show _ = _; rw [HS.out, if_neg (by simp [hP])]
      rw [hP] at HPC
      clear HS hP
      generalize lettersS a s = Z at *
      obtain ⟨zl, ze⟩ := Z
      go_enter Tryz.func63, Tryz.ntmps63
      go_wp2_with fail
      refine hcall.out.mono ?_
      rintro e w1 ⟨rfl, hb1⟩
      have hbw1 := hal.trans (hb1.mono hal.size)
      have hr1 := hr0.below hb1 hr0.lt
      have hq1 := hq0.below hb1 hq0.lt
      obtain ⟨y0, _⟩ := hr1.cel (i := 0) rfl
      obtain ⟨y1, _⟩ := hr1.cel (i := 1) rfl
      obtain ⟨z0, _⟩ := hq1.cel (i := 0) rfl
      have hl1 := hr1.lt
      have hl2 := hq1.lt
      have HC2 := Lib.hid (HPC.out w1 hbw1)
      have HB1 := Lib.hid hbw1
      have HR1 := Lib.hid hr1
      clear hcall hal hb1 hr0 hq0 hbw1 hr1 hq1 HPC
      go_wp2_with fail
      refine HC2.out.mono ?_
      rintro e w2 ⟨rfl, hb2⟩
      have hbw2 := HB1.out.trans (hb2.mono HB1.out.size)
      have hr2 := HR1.out.below hb2 HR1.out.lt
      obtain ⟨x0, _⟩ := hr2.cel (i := 0) rfl
      obtain ⟨x1, _⟩ := hr2.cel (i := 1) rfl
      have hl3 := hr2.lt
      have HC3 := Lib.hid (HLE.out w2 hbw2)
      have HB2 := Lib.hid hbw2
      clear hb2 hbw2 hr2 HC2 HLE y0 y1 z0
      go_wp2_with fail
      refine HC3.out.mono ?_
      rintro e w3 ⟨A, c, rfl, hown, hb3⟩
      have hfin : ReadOut R w (.returned (.tuple #[.slice A zl.length c, .int .i64 ze])) w3 := by
        rw [HF.out]
        exact ⟨A, c, rfl, own_low hown HB2.out.size, HB2.out.trans (hb3.mono HB2.out.size)⟩
      have HFIN := Lib.hid hfin
      clear hfin hown hb3 HC3
      go_wp2_with fail
      go_ret2
      exact HFIN.out
    · have HF : Hid (R = ([], patE a ns)) := by show _ = _; rw [HS.out, if_pos hP]
      clear HS HLE
      generalize patE a ns = E at *
      have hne : (E != 0) = true := by rw [bne_iff_ne]; exact hP
      clear hP
      go_enter Tryz.func63, Tryz.ntmps63
      go_wp2_with fail
      refine hcall.out.mono ?_
      rintro e w1 ⟨rfl, hb1⟩
      have hbw1 := hal.trans (hb1.mono hal.size)
      have hr1 := hr0.below hb1 hr0.lt
      have hq1 := hq0.below hb1 hq0.lt
      obtain ⟨y0, _⟩ := hr1.cel (i := 0) rfl
      obtain ⟨y1, _⟩ := hr1.cel (i := 1) rfl
      obtain ⟨z0, _⟩ := hq1.cel (i := 0) rfl
      have hl1 := hr1.lt
      have hl2 := hq1.lt
      have HC2 := Lib.hid (HPC.out w1 hbw1)
      have HB1 := Lib.hid hbw1
      clear hcall hal hb1 hr0 hq0 hbw1 hr1 hq1 HPC
      go_wp2_with fail
      refine HC2.out.mono ?_
      rintro e w2 ⟨rfl, hb2⟩
      have HFIN := Lib.hid (ReadOut.no HF.out (HB1.out.trans (hb2.mono HB1.out.size)))
      clear hb2 HC2
      go_wp2_with fail
      go_ret2
      exact HFIN.out
  · have hpe : patE a ns = alE a := by rw [HPE.out, if_pos hE]
    have HF : Hid (R = ([], alE a)) := by show _ = _; rw [HS.out, if_pos (by rw [hpe]; exact hE), hpe]
    clear HS HLE HPC HPE hpe
    generalize alE a = E at *
    have hne : (E != 0) = true := by rw [bne_iff_ne]; exact hE
    clear hE
    go_enter Tryz.func63, Tryz.ntmps63
    go_wp2_with fail
    refine hcall.out.mono ?_
    rintro e w1 ⟨rfl, hb1⟩
    have HFIN := Lib.hid (ReadOut.no HF.out (hal.trans (hb1.mono hal.size)))
    clear hb1 hcall
    go_wp2_with fail
    go_ret2
    exact HFIN.out
end Go.Proofs.YtimhlnndobfehaaGreatDoor
