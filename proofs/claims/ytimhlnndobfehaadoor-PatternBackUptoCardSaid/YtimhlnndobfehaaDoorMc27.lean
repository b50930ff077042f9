/- May a pattern be? The program's answer. -/
import Derived.Test.YtimhlnndobfehaaDoorMc23
import Derived.Test.YtimhlnndobfehaaDoorMc24
import Derived.Test.YtimhlnndobfehaaDoorMc26
import Derived.Test.YtimhlnndobfehaaDoorMc07
namespace Go.Proofs.YtimhlnndobfehaaDoor
open Go.RowKit
set_option linter.unusedVariables false

def ndFit (a : Al) (x : Nd) : Bool := if x.kind = 2 then decide ((ofS a x.rune).2 = 0) else if x.kind = 3 then classOk a.feats.length x.plus.toNat x.minus.toNat else true
def patOk (a : Al) (ns : List Nd) : Bool := treeB ns && ns.all (ndFit a)
def patE (a : Al) (ns : List Nd) : Int := if alE a ≠ 0 then alE a else if patOk a ns then 0 else 40
def PkSt (a : Al) (ns : List Nd) (W : World) (x : Value) (wr : World) : Prop :=
  ∃ (k : Nat), x = .int .i64 (k : Int) ∧ k ≤ ns.length ∧ Hid (ns.all (ndFit a) = (ns.drop k).all (ndFit a)) ∧ Below W.heap.size W wr
set_option maxHeartbeats 4000000 in
set_option maxRecDepth 100000 in
theorem pcheck_any (A1 A2 An : Option Addr) (c1 c2 cn lo : Nat) (a : Al) (ns : List Nd) (w : World) (hin : AlIn w lo w.heap.size A1 A2 a) (hns : Sl 5 vNd w lo w.heap.size An ns) (hm : ns.length ≤ 9223372036854775807) :
    Calls Tryd.prog 15 #[.agg #[.slice A1 a.feats.length c1, .slice A2 a.lets.length c2], .agg #[.slice An ns.length cn]] w fun e w' => e = .returned (.int .i64 (patE a ns)) ∧ Below w.heap.size w w' := by
  have hal : Below w.heap.size w ((w.alloc (.cells #[.slice A1 a.feats.length c1, .slice A2 a.lets.length c2] 25)).alloc (.cells #[.slice An ns.length cn] 28)) := ((Below.refl _ _).alloc (Nat.le_refl _) _).alloc (by simp) _
  have hr0 := (Row.new w 25 [.slice A1 a.feats.length c1, .slice A2 a.lets.length c2]).alloc (.cells #[.slice An ns.length cn] 28)
  have hq0 := Row.new (w.alloc (.cells #[.slice A1 a.feats.length c1, .slice A2 a.lets.length c2] 25)) 28 [.slice An ns.length cn]
  have hsz : (w.alloc (.cells #[.slice A1 a.feats.length c1, .slice A2 a.lets.length c2] 25)).heap.size = w.heap.size + 1 := by simp
  rw [hsz] at hq0
  clear hsz
  have hcall := Lib.hid (check_any A1 A2 c1 c2 lo a _ (hin.on hal))
  have HS : Hid (patE a ns = if alE a ≠ 0 then alE a else if patOk a ns then 0 else 40) := rfl
  have HIN := Lib.hid (fun (wx : World) (hb : Below w.heap.size w wx) => hin.on hb)
  have HNS := Lib.hid (fun (wx : World) (hb : Below w.heap.size w wx) => (hns.below vNd_good hb (Nat.le_refl _)).wide vNd_good (Nat.le_refl _) hb.size)
  have htree := Lib.hid (fun (wx : World) (hb : Below w.heap.size w wx) => tree_any An cn lo wx.heap.size ns wx hm (Nat.le_refl _) (HNS.out wx hb))
  generalize patE a ns = R at *
  by_cases hE : alE a = 0
  · have HR : Hid (R = if patOk a ns then 0 else 40) := by show _ = _; rw [HS.out, if_neg (by simp [hE])]
    have HE0 := Lib.hid hE
    rw [hE] at hcall
    clear HS hin hns hE
    go_enter Tryd.func15, Tryd.ntmps15
    go_wp2_with fail
    refine hcall.out.mono ?_
    rintro e w1 ⟨rfl, hb1⟩
    have hbw1 := hal.trans (hb1.mono (by simp; omega))
    have hr1 := hr0.below hb1 hr0.lt
    have hq1 := hq0.below hb1 hq0.lt
    have HT1 := Lib.hid (htree.out w1 hbw1)
    obtain ⟨q0, _⟩ := hq1.cel (i := 0) rfl
    have hl1 := hq1.lt
    have HB1 := Lib.hid hbw1
    have HR1 := Lib.hid hr1
    have HQ1 := Lib.hid hq1
    clear hcall hal hb1 hr0 hq0 hbw1 hr1 hq1
    go_wp2_with fail
    refine HT1.out.mono ?_
    rintro e w2 ⟨rfl, hb2⟩
    have hr2 := HR1.out.below hb2 HR1.out.lt
    have hq2 := HQ1.out.below hb2 HQ1.out.lt
    have hbw2 := HB1.out.trans (hb2.mono HB1.out.size)
    obtain ⟨q2, _⟩ := hq2.cel (i := 0) rfl
    have hl2 := hq2.lt
    have HB2 := Lib.hid hbw2
    have HR2 := Lib.hid hr2
    clear HT1 q0 hb2 HB1 HR1 HQ1 hr2 hq2 hbw2 htree
    cases hT : treeB ns with
    | false =>
      have hF : R = 40 := by rw [HR.out]; unfold patOk; rw [hT]; rfl
      have HFIN := Lib.hid hF
      clear hF hT
      go_wp2_with fail
      go_ret
      exact ⟨by rw [HFIN.out]; rfl, HB2.out⟩
    | true =>
      have HR3 : Hid (R = if ns.all (ndFit a) then 0 else 40) := by show _ = _; rw [HR.out]; unfold patOk; rw [hT, Bool.true_and]
      have hst : PkSt a ns w2 (.int .i64 0) w2 := ⟨0, rfl, by omega, rfl, Below.refl _ _⟩
      have HST := Lib.hid hst
      clear hst hT HR
      go_wp2_with fail
      go_loopw [23] (fun x wr => PkSt a ns w2 x wr) (fun x _ => ns.length - (intOf x).toNat)
      case atStart => exact HST.out
      case round =>
        clear HST
        obtain ⟨k, rfl, hk, hA, hb⟩ := hrel
        have hbw := HB2.out.trans (hb.mono HB2.out.size)
        have hbs := hb.size
        by_cases hlt : k < ns.length
        · obtain ⟨bn, on, B, cc, rfl, _, hbn, ⟨y0, _⟩, ⟨y1, _⟩, ⟨y2, _⟩, ⟨y3, _⟩, ⟨y4, _⟩, _, _, _, k0, k1, k2, k3⟩ := nd_at (HNS.out wr hbw) hlt
          have hst : ns.all (ndFit a) = (ndFit a ns[k] && (ns.drop (k + 1)).all (ndFit a)) := by rw [hA.out, List.drop_eq_getElem_cons hlt]; rfl
          have HST := Lib.hid hst
          clear hst hA
          generalize ns[k] = x at *
          have j1 : (k : Int) < (ns.length : Int) := by omega
          have j2 : 0 ≤ (k : Int) := by omega
          have r1 := kin_i32 k1
          have r2 := kin_u32 k2
          have r3 := kin_u32 k3
          obtain ⟨kd, rn, pl, mi, ks⟩ := x
          simp only at *
          obtain ⟨p, rfl⟩ := Int.eq_ofNat_of_zero_le r2.1
          obtain ⟨m, rfl⟩ := Int.eq_ofNat_of_zero_le r3.1
          have hr3 := HR2.out.below hb HR2.out.lt
          have hbN : Below wr.heap.size wr (wr.alloc (.cells #[.int .u8 kd, .int .i32 rn, .int .u32 (p : Int), .int .u32 (m : Int), .slice B ks.length cc] 44)) := (Below.refl _ _).alloc (Nat.le_refl _) _
          have hrN := hr3.below hbN hr3.lt
          obtain ⟨z0, _⟩ := hrN.cel (i := 0) rfl
          obtain ⟨z1, _⟩ := hrN.cel (i := 1) rfl
          have hlr := hr3.lt
          have hbwN := hbw.trans (hbN.mono hbw.size)
          have HBN := Lib.hid hbwN
          have HBK := Lib.hid (hb.trans (hbN.mono hb.size))
          by_cases k2' : kd = 2
          · subst k2'
            have hof := Lib.hid (of_any A1 A2 c1 c2 lo a rn _ (HIN.out _ hbwN) r1)
            have hfit : ndFit a ⟨2, rn, p, m, ks⟩ = decide ((ofS a rn).2 = 0) := rfl
            rw [hfit] at HST
            clear hfit hr3 hbN hrN hbwN hb hbw
            generalize ofS a rn = o at *
            obtain ⟨⟨lr, lp, lm⟩, E⟩ := o
            go_wp2_with fail
            refine hof.out.mono ?_
            rintro e w5 ⟨rfl, hb5⟩
            simp only
            have HB5 := Lib.hid (HBN.out.trans (hb5.mono HBN.out.size))
            have HK5 := Lib.hid (HBK.out.trans (hb5.mono HBK.out.size))
            clear hb5 hof
            by_cases hE0 : E = 0
            · subst hE0
              have hfin : PkSt a ns w2 (.int .i64 ((k : Int) + 1)) (w5.alloc (.cells #[.int .i32 lr, .int .u32 (lp : Int), .int .u32 (lm : Int)] 89)) := ⟨k + 1, by simp, by omega, by show _ = _; rw [HST.out]; simp, HK5.out.alloc HK5.out.size _⟩
              have HFIN := Lib.hid hfin
              clear hfin HST
              go_wp2_with fail
              exact ⟨HFIN.out, by simp [intOf]; omega⟩
            · have hne : (E != 0) = true := by rw [bne_iff_ne]; exact hE0
              have hF : R = 40 := by rw [HR3.out, HST.out, decide_eq_false (by simpa using hE0)]; rfl
              have HFIN := Lib.hid hF
              clear hF HST hE0
              go_wp2_with fail
              go_ret
              exact ⟨by rw [HFIN.out]; rfl, HB5.out.alloc HB5.out.size _⟩
          · have e2 := beq_eq_false_iff_ne.2 k2'
            by_cases k3' : kd = 3
            · subst k3'
              have hof := Lib.hid (ftext_any A1 A2 c1 c2 lo a p m _ (HIN.out _ hbwN) (by omega) (by omega))
              have hfit : ndFit a ⟨3, rn, p, m, ks⟩ = decide ((classT a p m).2 = 0) := by
                unfold ndFit classT
                rw [if_neg (show ¬ (3 : Int) = 2 by decide), if_pos rfl, if_neg (by rw [HE0.out]; simp)]
                cases hc : classOk a.feats.length p m with
                | true => simpa using hc
                | false => simpa using hc
              rw [hfit] at HST
              clear hfit hr3 hbN hrN hbwN hb hbw
              generalize classT a p m = o at *
              obtain ⟨T, E⟩ := o
              go_wp2_with fail
              refine hof.out.mono ?_
              rintro e w5 ⟨rfl, hb5⟩
              simp only
              have HB5 := Lib.hid (HBN.out.trans (hb5.mono HBN.out.size))
              have HK5 := Lib.hid (HBK.out.trans (hb5.mono HBK.out.size))
              clear hb5 hof
              by_cases hE0 : E = 0
              · subst hE0
                have hfin : PkSt a ns w2 (.int .i64 ((k : Int) + 1)) w5 := ⟨k + 1, by simp, by omega, by show _ = _; rw [HST.out]; simp, HK5.out⟩
                have HFIN := Lib.hid hfin
                clear hfin HST
                go_wp2_with fail
                exact ⟨HFIN.out, by simp [intOf]; omega⟩
              · have hne : (E != 0) = true := by rw [bne_iff_ne]; exact hE0
                have hF : R = 40 := by rw [HR3.out, HST.out, decide_eq_false (by simpa using hE0)]; rfl
                have HFIN := Lib.hid hF
                clear hF HST hE0
                go_wp2_with fail
                go_ret
                exact ⟨by rw [HFIN.out]; rfl, HB5.out⟩
            · have e3 := beq_eq_false_iff_ne.2 k3'
              have hfit : ndFit a ⟨kd, rn, p, m, ks⟩ = true := by unfold ndFit; rw [if_neg k2', if_neg k3']
              have hfin : PkSt a ns w2 (.int .i64 ((k : Int) + 1)) (wr.alloc (.cells #[.int .u8 kd, .int .i32 rn, .int .u32 (p : Int), .int .u32 (m : Int), .slice B ks.length cc] 44)) := ⟨k + 1, by simp, by omega, by show _ = _; rw [HST.out, hfit, Bool.true_and], HBK.out⟩
              have HFIN := Lib.hid hfin
              clear hfin HST hfit hr3 hbN hrN hbwN hb hbw
              go_wp2_with fail
              exact ⟨HFIN.out, by simp [intOf]; omega⟩
        · obtain rfl : k = ns.length := by omega
          have j1 : ¬ (ns.length : Int) < (ns.length : Int) := by omega
          have hF : R = 0 := by rw [HR3.out, hA.out, List.drop_length]; rfl
          have HFIN := Lib.hid hF
          have HB := Lib.hid hbw
          clear hF hA hb hbw
          go_wp2_with fail
          go_ret
          exact ⟨by rw [HFIN.out]; rfl, HB.out⟩
  · have HFIN := Lib.hid (show R = alE a by rw [HS.out, if_pos hE])
    generalize alE a = E at *
    have hne : (E != 0) = true := by rw [bne_iff_ne]; exact hE
    clear HS hE
    go_enter Tryd.func15, Tryd.ntmps15
    go_wp2_with fail
    refine hcall.out.mono ?_
    rintro e w1 ⟨rfl, hb1⟩
    have HB := Lib.hid (hal.trans (hb1.mono (by simp; omega)))
    clear hb1
    go_wp2_with fail
    go_ret
    exact ⟨by rw [HFIN.out]; rfl, HB.out⟩
end Go.Proofs.YtimhlnndobfehaaDoor
