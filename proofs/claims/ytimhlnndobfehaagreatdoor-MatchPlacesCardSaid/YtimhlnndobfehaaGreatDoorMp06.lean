/- MatchPlaces: the statement's walk. -/
import Derived.Test.YtimhlnndobfehaaGreatDoorMp01
import Derived.Test.YtimhlnndobfehaaGreatDoorMp02
import Derived.Test.YtimhlnndobfehaaGreatDoorMp03
import Derived.Test.YtimhlnndobfehaaGreatDoorMp05
namespace Go.Proofs.YtimhlnndobfehaaGreatDoor
open Go.RowKit
open Go.Lib (Utf8Tabs)
set_option linter.unusedVariables false

/-- The list that is written over: what else is known stands. -/
def OvSt (A : Option Addr) (c n base : Nat) (W : World) (x : Value) (wr : World) : Prop :=
  ∃ (k : Nat) (vs : List Value), x = .int .i64 (k : Int) ∧ k ≤ n ∧ vs.length = n ∧ wr.ownsRow base 3 1 (.slice A n c) n vs ∧ Fr (fun g => (Value.slice A n c).ownBlock = some g) W wr
theorem ints_list {w : World} {base c : Nat} {A : Option Addr} {l : List Int} (h : w.ownsRow base 3 1 (.slice A l.length c) l.length (l.map (Value.int .i64))) (hk : ∀ x ∈ l, ∃ k : Nat, x = (k : Int) ∧ k ≤ 64) : Sl 1 (vInt .i64) w 0 w.heap.size A l := (Lst.of h hk).sl
theorem own_apart {w : World} {base base' n m c c' : Nat} {A B : Option Addr} {xs ys : List Value} {e e' : TypeId} {sz sz' H : Nat} (h : w.ownsRow base e sz (.slice A n c) n xs) (hH : ∀ g, (Value.slice A n c).ownBlock = some g → g < base') (h' : w.ownsRow base' e' sz' (.slice B m c') m ys) : ∀ g, (Value.slice B m c').ownBlock = some g → ¬ (Value.slice A n c).ownBlock = some g := fun g hg e => by
  have := hH g e
  have := (h'.lt g hg).1
  omega
set_option maxHeartbeats 8000000 in
set_option maxRecDepth 100000 in
theorem places_walk (A1 A2 An : Option Addr) (c1 c2 cn : Nat) (a : Al) (ns : List Nd) (s : ByteArray) (f : Int) (w : World) (hin : AlIn w 0 w.heap.size A1 A2 a) (hT : Utf8Tabs 0 1 w) (hns : Sl 5 vNd w 0 w.heap.size An ns) (hm : ns.length ≤ 9223372036854775807) (hkb : ∀ x ∈ ns, x.kids.length * 8 ≤ 140737488355328) (hs : s.size ≤ maxLen) :
    Calls Tryz.prog 4 #[.agg #[.slice A1 a.feats.length c1, .slice A2 a.lets.length c2], .agg #[.slice An ns.length cn], .string s, .int .i64 f] w fun e w' => e = .returned (.bool true) ∧ Below w.heap.size w w' := by
  have hs0 : M1St A1 A2 An c1 c2 cn a ns w _ := M1St.new hin hT hns
  have HAW := Lib.hid (fun (wx : World) (h : M1St A1 A2 An c1 c2 cn a ns w wx) => alive_any wx h.tabs)
  have HM := Lib.hid (fun (wx : World) => much_any An ns.length cn s wx hm hs)
  have HMN : Hid (muchB ns.length s.size = false → ns.length ≤ 100000) := fun h => by
    unfold muchB at h
    rw [decide_eq_false_iff_not] at h
    omega
  have HTW := Lib.hid (fun (wx : World) (h : M1St A1 A2 An c1 c2 cn a ns w wx) (hn : ns.length ≤ 100000) => twin5_any An cn 0 wx.heap.size ns wx hn hkb (Nat.le_refl _) h.l)
  have HKP := Lib.hid (fun (Aq : Option Addr) (cq b : Nat) (wx : World) (h : TuSt A1 A2 An Aq c1 c2 cn cq b a ns ns w wx) => kept_yes (c := cq) (c' := cn) hm (Nat.le_refl _) (Nat.le_refl _) h.q h.m.l)
  have HW := Lib.hid (fun (Aq : Option Addr) (cq b : Nat) (wx : World) (h : TuSt A1 A2 An Aq c1 c2 cn cq b a ns ns w wx) => whole_any A1 A2 Aq c1 c2 cq 0 a ns s wx h.m.al h.m.tabs h.q hm hs)
  have HE := Lib.hid (fun (Aq : Option Addr) (cq b : Nat) (wx : World) (h : TuSt A1 A2 An Aq c1 c2 cn cq b a ns ns w wx) => ends_op A1 A2 Aq c1 c2 cq 0 a ns s f wx h.m.al h.m.tabs h.q hm hs)
  have HB := Lib.hid (fun (Aq : Option Addr) (cq b : Nat) (wx : World) (h : TuSt A1 A2 An Aq c1 c2 cn cq b a ns ns w wx) => begins_op A1 A2 Aq c1 c2 cq 0 a ns s f wx h.m.al h.m.tabs h.q hm hs)
  have HRW := Lib.hid (fun (Aq : Option Addr) (cq b : Nat) (wx : World) (h : TuSt A1 A2 An Aq c1 c2 cn cq b a ns ns w wx) => rwhole_any A1 A2 An c1 c2 cn a ns s wx h.m.al h.m.tabs h.m.l hm hs)
  have HRE := Lib.hid (fun (Aq : Option Addr) (cq b : Nat) (wx : World) (h : TuSt A1 A2 An Aq c1 c2 cn cq b a ns ns w wx) => rends_any A1 A2 An c1 c2 cn a ns s f wx h.m.al h.m.tabs h.m.l hm hs)
  have HRB := Lib.hid (fun (Aq : Option Addr) (cq b : Nat) (wx : World) (h : TuSt A1 A2 An Aq c1 c2 cn cq b a ns ns w wx) => rbegins_any A1 A2 An c1 c2 cn a ns s f wx h.m.al h.m.tabs h.m.l hm hs)
  have HES := Lib.hid (endsS_small a ns s f)
  have HBS := Lib.hid (beginsS_small a ns s f)
  generalize wholeS a ns s = R at *
  generalize endsS a ns s f = E at *
  generalize beginsS a ns s f = B at *
  obtain ⟨R1, R2⟩ := R
  obtain ⟨E1, E2⟩ := E
  obtain ⟨B1, B2⟩ := B
  simp only at HES HBS
  clear hin hT hns
  have haw := Lib.hid (HAW.out _ hs0)
  have HS0 := Lib.hid hs0
  clear hs0
  go_enter Tryz.func4, Tryz.ntmps4
  go_wp2_with fail
  refine haw.out.mono ?_
  rintro e0 w1 ⟨rfl, hb1⟩
  have hs1 := HS0.out.on hb1
  have HS1 := Lib.hid hs1
  obtain ⟨p1, _⟩ := hs1.r1.cel (i := 0) rfl
  have HBW1 := Lib.hid hs1.below
  clear HS0 haw HAW hb1 hs1
  have hm1 := Lib.hid (HM.out w1)
  cases h1 : muchB ns.length s.size with
  | true =>
    rw [h1] at hm1
    clear h1
    go_wp2_with fail
    refine hm1.out.mono ?_
    rintro e w2 ⟨rfl, hb2⟩
    have HF := Lib.hid (HBW1.out.trans (hb2.mono HBW1.out.size))
    clear hb2
    go_wp2_with fail
    go_ret
    exact ⟨rfl, HF.out⟩
  | false =>
    rw [h1] at hm1
    have hn5 := HMN.out h1
    clear h1
    go_wp2_with fail
    refine hm1.out.mono ?_
    rintro e w2 ⟨rfl, hb2⟩
    have hs2 := HS1.out.on hb2
    have HS2 := Lib.hid hs2
    obtain ⟨p2, _⟩ := hs2.r1.cel (i := 0) rfl
    have l2 := hs2.r1.lt
    have ht2 := Lib.hid (HTW.out w2 hs2 hn5)
    clear hs2 hb2 HS1 hm1 p1 HBW1 HMN HM HTW
    go_wp2_with fail
    refine ht2.out.mono ?_
    rintro e w5 ⟨v, rfl, hpr⟩
    obtain ⟨Aq, cq, rfl, hcq, hq5, hb5⟩ := patRes_sl hpr
    have hb6 : Below w5.heap.size w5 (w5.alloc (.cells #[.slice Aq ns.length cq] 28)) := (Below.refl _ _).alloc (Nat.le_refl _) _
    have hts : TuSt A1 A2 An Aq c1 c2 cn cq w5.heap.size a ns ns w (w5.alloc (.cells #[.slice Aq ns.length cq] 28)) :=
      ⟨(HS2.out.on hb5).on hb6, (hq5.below vNd_good hb6 (Nat.le_refl _)).wide vNd_good (Nat.zero_le _) hb6.size, Row.new w5 _ _⟩
    obtain ⟨w6, hw6⟩ : ∃ w6, w6 = w5.alloc (.cells #[.slice Aq ns.length cq] 28) := ⟨_, rfl⟩
    obtain ⟨bq, hbq⟩ : ∃ bq, bq = w5.heap.size := ⟨_, rfl⟩
    rw [← hw6, ← hbq] at hts
    have HS6 := Lib.hid hts
    clear hpr hq5 hb5 hb6 hts HS2 ht2 p2 l2
    go_upto_region 7 with (fail)
    rw [← hw6, ← hbq]
    clear hw6 hbq
    have hs6 := HS6.out
    obtain ⟨a6, _⟩ := hs6.m.r0.cel (i := 0) rfl
    obtain ⟨d6, _⟩ := hs6.m.r0.cel (i := 1) rfl
    obtain ⟨q6, _⟩ := hs6.r2.cel (i := 0) rfl
    have l6 := hs6.m.r1.lt
    have m6 := hs6.r2.lt
    have hc6 := Lib.hid (HW.out Aq cq bq w6 hs6)
    clear hs6
    go_wp2_with fail
    refine hc6.out.mono ?_
    rintro e w7 ⟨rfl, hb7⟩
    have HS7 := Lib.hid (HS6.out.on hb7)
    clear hb7 hc6 a6 d6 q6 l6 m6 HS6
    simp only
    have hs7 := HS7.out
    obtain ⟨a7, _⟩ := hs7.m.r0.cel (i := 0) rfl
    obtain ⟨d7, _⟩ := hs7.m.r0.cel (i := 1) rfl
    obtain ⟨q7, _⟩ := hs7.r2.cel (i := 0) rfl
    have l7 := hs7.m.r1.lt
    have m7 := hs7.r2.lt
    have hc7 := Lib.hid (HE.out Aq cq bq w7 hs7)
    clear hs7
    go_wp2_with fail
    refine hc7.out.mono ?_
    rintro e w8 ⟨A8, c8, rfl, hown8, hb8⟩
    have HS8 := Lib.hid (HS7.out.on hb8)
    have HO8 := Lib.hid hown8
    have HHI : Hid (∀ g, (Value.slice A8 E1.length c8).ownBlock = some g → g < w8.heap.size) := fun g hg => (hown8.lt g hg).2
    have HC8 := Lib.hid hb8
    clear hb8 hc7 a7 d7 q7 l7 m7 hown8
    simp only
    have hs8 := HS8.out
    obtain ⟨a8, _⟩ := hs8.m.r0.cel (i := 0) rfl
    obtain ⟨d8, _⟩ := hs8.m.r0.cel (i := 1) rfl
    obtain ⟨q8, _⟩ := hs8.r2.cel (i := 0) rfl
    have l8 := hs8.m.r1.lt
    have m8 := hs8.r2.lt
    have hc8 := Lib.hid (HB.out Aq cq bq w8 hs8)
    clear hs8
    go_wp2_with fail
    refine hc8.out.mono ?_
    rintro e w9 ⟨A9, c9, rfl, hown9, hb9⟩
    have HS9 := Lib.hid (HS8.out.on hb9)
    have HO9 := Lib.hid (own_below HO8.out hb9)
    have HM9 := Lib.hid hown9
    have HX9 : Hid (w8.heap.size ≤ w9.heap.size) := hb9.size
    have HC9 := Lib.hid (HC8.out.trans (hb9.mono HC8.out.size))
    clear hb9 hc8 a8 d8 q8 l8 m8 hown9 HO8 HS8
    simp only
    have hs9 := HS9.out
    obtain ⟨a9, _⟩ := hs9.m.r0.cel (i := 0) rfl
    obtain ⟨d9, _⟩ := hs9.m.r0.cel (i := 1) rfl
    obtain ⟨q9, _⟩ := hs9.r2.cel (i := 0) rfl
    have l9 := hs9.m.r1.lt
    have m9 := hs9.r2.lt
    have hc9 := Lib.hid (HE.out Aq cq bq w9 hs9)
    clear hs9
    go_wp2_with fail
    refine hc9.out.mono ?_
    rintro e w10 ⟨A10, c10, rfl, hown10, hb10⟩
    have HS10 := Lib.hid (HS9.out.on hb10)
    have HO10 := Lib.hid (own_below HO9.out hb10)
    have HM10 := Lib.hid (own_below HM9.out hb10)
    have HN10 := Lib.hid hown10
    have HX10 : Hid (w8.heap.size ≤ w10.heap.size) := Nat.le_trans HX9.out hb10.size
    have HC10 := Lib.hid (HC9.out.trans (hb10.mono HC9.out.size))
    clear hb10 hc9 a9 d9 q9 l9 m9 hown10 HO9 HM9 HS9
    simp only
    have hs10 := HS10.out
    obtain ⟨a10, _⟩ := hs10.m.r0.cel (i := 0) rfl
    obtain ⟨d10, _⟩ := hs10.m.r0.cel (i := 1) rfl
    obtain ⟨q10, _⟩ := hs10.m.r1.cel (i := 0) rfl
    have l10 := hs10.m.r1.lt
    have m10 := hs10.r2.lt
    have hc10 := Lib.hid (HRW.out Aq cq bq w10 hs10)
    clear hs10
    go_wp2_with fail
    refine hc10.out.mono ?_
    rintro e w11 ⟨rfl, hb11⟩
    have HS11 := Lib.hid (HS10.out.on hb11)
    have HO11 := Lib.hid (own_below HO10.out hb11)
    have HM11 := Lib.hid (own_below HM10.out hb11)
    have HN11 := Lib.hid (own_below HN10.out hb11)
    have HX11 : Hid (w8.heap.size ≤ w11.heap.size) := Nat.le_trans HX10.out hb11.size
    have HC11 := Lib.hid (HC10.out.trans (hb11.mono HC10.out.size))
    clear hb11 hc10 a10 d10 q10 l10 m10 HO10 HM10 HN10 HS10
    simp only
    have hs11 := HS11.out
    obtain ⟨a11, _⟩ := hs11.m.r0.cel (i := 0) rfl
    obtain ⟨d11, _⟩ := hs11.m.r0.cel (i := 1) rfl
    obtain ⟨q11, _⟩ := hs11.m.r1.cel (i := 0) rfl
    have l11 := hs11.m.r1.lt
    have m11 := hs11.r2.lt
    have hc11 := Lib.hid (HRE.out Aq cq bq w11 hs11)
    clear hs11
    go_wp2_with fail
    refine hc11.out.mono ?_
    rintro e w12 ⟨A12, c12, rfl, hown12, hb12⟩
    have HS12 := Lib.hid (HS11.out.on hb12)
    have HO12 := Lib.hid (own_below HO11.out hb12)
    have HM12 := Lib.hid (own_below HM11.out hb12)
    have HN12 := Lib.hid (own_below HN11.out hb12)
    have HP12 := Lib.hid hown12
    have HC12 := Lib.hid (HC11.out.trans (hb12.mono HC11.out.size))
    clear hb12 hc11 a11 d11 q11 l11 m11 hown12 HO11 HM11 HN11 HS11
    simp only
    have hs12 := HS12.out
    obtain ⟨a12, _⟩ := hs12.m.r0.cel (i := 0) rfl
    obtain ⟨d12, _⟩ := hs12.m.r0.cel (i := 1) rfl
    obtain ⟨q12, _⟩ := hs12.m.r1.cel (i := 0) rfl
    have l12 := hs12.m.r1.lt
    have m12 := hs12.r2.lt
    have hc12 := Lib.hid (HRB.out Aq cq bq w12 hs12)
    clear hs12
    go_wp2_with fail
    refine hc12.out.mono ?_
    rintro e w13 ⟨A13, c13, rfl, hown13, hb13⟩
    have HS13 := Lib.hid (HS12.out.on hb13)
    have HO13 := Lib.hid (own_below HO12.out hb13)
    have HM13 := Lib.hid (own_below HM12.out hb13)
    have HN13 := Lib.hid (own_below HN12.out hb13)
    have HP13 := Lib.hid (own_below HP12.out hb13)
    have HQ13 := Lib.hid hown13
    have HC13 := Lib.hid (HC12.out.trans (hb13.mono HC12.out.size))
    clear hb13 hc12 a12 d12 q12 l12 m12 hown13 HO12 HM12 HN12 HP12 HS12
    simp only
    have hi1 := Lib.hid (ints_yes (c := c8) (d := c12) (ints_list HO13.out HES.out.2) (ints_list HP13.out HES.out.2) (Nat.le_refl _) (Nat.le_refl _) (by have := HES.out.1; omega))
    go_wp2_with fail
    refine hi1.out.mono ?_
    rintro e w14 ⟨rfl, hb14⟩
    have HO14 := Lib.hid (own_below HO13.out hb14)
    have HM14 := Lib.hid (own_below HM13.out hb14)
    have HN14 := Lib.hid (own_below HN13.out hb14)
    have HP14 := Lib.hid (own_below HP13.out hb14)
    have HQ14 := Lib.hid (own_below HQ13.out hb14)
    have HC14 := Lib.hid (HC13.out.trans (hb14.mono HC13.out.size))
    have hi2 := Lib.hid (ints_yes (c := c9) (d := c13) (ints_list HM14.out HBS.out.2) (ints_list HQ14.out HBS.out.2) (Nat.le_refl _) (Nat.le_refl _) (by have := HBS.out.1; omega))
    clear hb14 hi1 HO13 HM13 HN13 HP13 HQ13
    go_wp2_with fail
    refine hi2.out.mono ?_
    rintro e w15 ⟨rfl, hb15⟩
    have HO15 := Lib.hid (own_below HO14.out hb15)
    have HN15 := Lib.hid (own_below HN14.out hb15)
    have HP15 := Lib.hid (own_below HP14.out hb15)
    have HC15 := Lib.hid (HC14.out.trans (hb15.mono HC14.out.size))
    clear hb15 hi2 HO14 HM14 HN14 HP14 HQ14
    have HST : Hid (OvSt A8 c8 E1.length w7.heap.size w15 (.int .i64 0) w15) := ⟨0, E1.map (Value.int .i64), rfl, Nat.zero_le _, by simp, HO15.out, Fr.refl _ _⟩
    have hE66 := HES.out.1
    go_wp2_with fail
    go_loopw [26] (fun x wr => OvSt A8 c8 E1.length w7.heap.size w15 x wr) (fun x _ => E1.length - (intOf x).toNat)
    case atStart => exact HST.out
    case round =>
      clear HST
      obtain ⟨k, vs, rfl, hk, hvl, hown, hfr⟩ := hrel
      by_cases hlt : k < E1.length
      · obtain ⟨g, c', e, _, _, hg1, hg2⟩ := own_pos hown (by omega)
        injection e with e1 _ e2
        subst e1 e2
        have hvk : vs[k]? = some vs[k] := List.getElem?_eq_getElem (by omega)
        obtain ⟨y0, f0⟩ := own_cel hown hvk
        have hset := own_set hown rfl (j := k) (by omega) (.int .i64 (-9))
        have HFIN : Hid (OvSt (some ⟨g, 0, none⟩) c8 E1.length w7.heap.size w15 (.int .i64 ((k : Int) + 1)) (wr.setCell ⟨g, k, none⟩ (.int .i64 (-9)))) :=
          ⟨k + 1, vs.set k (.int .i64 (-9)), by simp, by omega, by rw [List.length_set]; exact hvl, hset, hfr.setc _ _ fun _ => rfl⟩
        have j1 : (k : Int) < (E1.length : Int) := by omega
        have j0 : 0 ≤ (k : Int) := by omega
        generalize vs[k] = vk at *
        clear hset hown hfr hvk hvl
        go_wp2_with fail
        exact ⟨HFIN.out, by simp [intOf]; omega⟩
      · obtain rfl : k = E1.length := by omega
        have hap : ∀ g, (Value.slice A8 E1.length c8).ownBlock = some g → g < w8.heap.size := HHI.out
        have hN := own_fr HN15.out hfr (fun g hg e => by have h1 := hap g e; have h2 := (HN15.out.lt g hg).1; have h3 := HX9.out; omega)
        have hP := own_fr HP15.out hfr (fun g hg e => by have h1 := hap g e; have h2 := (HP15.out.lt g hg).1; have h3 := HX11.out; omega)
        have hbF := HC15.out.trans (hfr.below (fun g e => (hown.lt g e).1) HC15.out.size)
        have hsF := HS7.out.on hbF
        have HSF := Lib.hid hsF
        obtain ⟨pF, _⟩ := hsF.m.r1.cel (i := 0) rfl
        obtain ⟨qF, _⟩ := hsF.r2.cel (i := 0) rfl
        have lF := hsF.m.r1.lt
        have mF := hsF.r2.lt
        have hi3 := Lib.hid (ints_yes (c := c10) (d := c12) (ints_list hN HES.out.2) (ints_list hP HES.out.2) (Nat.le_refl _) (Nat.le_refl _) (by omega))
        clear hN hP hbF hsF hown hfr hvl HC8 HC9 HC10 HC11 HC12 HC13 HC14 HC15 HN15 HP15 HO15
        go_wp2_with fail
        refine hi3.out.mono ?_
        rintro e w16 ⟨rfl, hb16⟩
        have hs16 := HSF.out.on hb16
        have HS16 := Lib.hid hs16
        obtain ⟨p16, _⟩ := hs16.m.r1.cel (i := 0) rfl
        obtain ⟨q16, _⟩ := hs16.r2.cel (i := 0) rfl
        have l16 := hs16.m.r1.lt
        have m16 := hs16.r2.lt
        have hk16 := Lib.hid (HKP.out Aq cq bq w16 hs16)
        clear hb16 hs16 hi3 HSF pF qF lF mF
        go_wp2_with fail
        refine hk16.out.mono ?_
        rintro e w17 ⟨rfl, hb17⟩
        have HF := Lib.hid (HS16.out.on hb17).m.below
        clear hb17 hk16 HS16 p16 q16
        go_wp2_with fail
        go_ret
        exact ⟨retb_of (by simp), HF.out⟩
end Go.Proofs.YtimhlnndobfehaaGreatDoor
