/- The document's steps, by a node's kind: a letter, a class, any. The document's steps at all nodes; From. -/
import Derived.Test.YtimhlnndobfehaaGreatDoorMd31
import Derived.IntWalk
import Derived.Test.YtimhlnndobfehaaGreatDoorMd22
namespace Go.Proofs.YtimhlnndobfehaaGreatDoor
open Go.RowKit
set_option linter.unusedVariables false

section
variable {A1 A2 An AD : Option Addr} {c1 c2 cn cl : Nat} {a : Al} {ns : List Nd} {ls : List Int} {k : Nat}
/-- A world in which a set stands. -/
def StW (W : World) (g : Nat) (S : List Bool) (wx : World) : Prop := BRow wx g S ∧ Below W.heap.size W wx
/-- A store of what is there already. -/
theorem modify_same {hp : Array Obj} {g : Nat} {o : Obj} {f : Obj → Obj} (h : hp[g]? = some o) (hf : f o = o) : hp.modify g f = hp := by
  refine Array.ext_getElem? fun k => ?_
  rw [Array.getElem?_modify]
  by_cases hk : g = k
  · subst hk
    rw [if_pos rfl, h]
    simp only [Option.map_some, hf]
  · rw [if_neg hk]
theorem setCell_same {w : World} {g i : Nat} {t : TypeId} {l : List Value} {v : Value} (h : Row w g t l) (hi : l[i]? = some v) : w.setCell ⟨g, i, none⟩ v = w := by
  unfold Row at h
  have e2 : l.toArray.setIfInBounds i v = l.toArray := by
    refine Array.ext_getElem? fun q => ?_
    rw [Array.getElem?_setIfInBounds]
    by_cases hq : i = q
    · subst hq
      rw [if_pos rfl]
      have := (List.getElem?_eq_some_iff.1 hi).1
      simp [this, (List.getElem?_eq_some_iff.1 hi).2]
    · rw [if_neg hq]
  unfold World.setCell
  rw [modify_same h (by simp [e2])]
theorem shift_len (x : Nd) (L : List Lt) (S : List Bool) : (shiftS x L S).length = S.length := by unfold shiftS; simp
theorem shift_zero (x : Nd) (L : List Lt) (S : List Bool) : upTo (shiftS x L S) 1 = noneS S.length := by
  rw [upTo_succ, upTo_zero, shift_len]
  have e : (shiftS x L S).getD 0 false = false := by
    unfold shiftS
    rw [List.getD_eq_getElem?_getD, List.getElem?_map]
    cases S with
    | nil => rfl
    | cons s r => simp
  rw [e]
  refine List.ext_getElem (by rw [List.length_set]) fun i h1 h2 => ?_
  rw [List.getElem_set]
  split <;> simp [noneS]
theorem shift_succ (x : Nd) (L : List Lt) {S : List Bool} {i : Nat} (hi : i + 1 < S.length) {l : Lt} (hl : L[i]? = some l) : upTo (shiftS x L S) (i + 2) = (upTo (shiftS x L S) (i + 1)).set (i + 1) (S.getD i false && takesB x l) := by
  rw [upTo_succ]
  congr 1
  unfold shiftS
  rw [List.getD_eq_getElem?_getD, List.getElem?_map, List.getElem?_range hi]
  simp only [Option.map_some, Option.getD_some, hl]
theorem shift_all (x : Nd) (L : List Lt) {S : List Bool} (h : S.length = L.length + 1) : upTo (shiftS x L S) (L.length + 1) = shiftS x L S := by
  have := upTo_all (shiftS x L S)
  rwa [shift_len, h] at this
theorem letter_at {a : Al} (hok : alOk a = true) {r : Int} (h : isLet a r = true) : ∃ k, ∃ hk : k < a.lets.length, numI a r = (k : Int) ∧ a.lets[k].rune = r ∧ (ofS a r).1 = a.lets[k] := by
  obtain ⟨k, hk, h1, h2⟩ := isLet_at h
  refine ⟨k, hk, h1, h2, ?_⟩
  unfold isLet at h
  obtain ⟨q, hq⟩ := Option.isSome_iff_exists.1 h
  unfold numI at h1
  rw [hq] at h1
  have e : q = k := by simp only at h1; omega
  subst e
  unfold ofS
  rw [if_neg (by rw [hok]; simp), hq]
  simp only [List.getD_eq_getElem?_getD, List.getElem?_eq_getElem hk]
  rfl
set_option maxHeartbeats 8000000 in
set_option maxRecDepth 100000 in
theorem rsteps_leaf (hk : k < ns.length) (kd : ns[k].kind = 2 ∨ ns[k].kind = 3 ∨ ns[k].kind = 4) : StepOk A1 A2 An AD c1 c2 cn cl a ns ls k := by
  intro S gs w n hn hS hE hgs
  have hstf := stF_eq (L := matL a ls) hE.kids (List.getElem?_eq_getElem hk) (S := S) (by rw [matL_len]; omega)
  obtain ⟨b, off, B, cc, eA, _, hb, ⟨y0, f0⟩, ⟨y1, f1⟩, ⟨y2, f2⟩, ⟨y3, f3⟩, ⟨y4, f4⟩, hkl, hkc, hks, h0, h1, h2, h3⟩ := nd_at hE.nodes hk
  generalize hxx : ns[k] = x at *
  obtain ⟨W3, hW3⟩ : ∃ W3, W3 = ((w.alloc (.cells #[.slice A1 a.feats.length c1, .slice A2 a.lets.length c2] 25)).alloc (.cells #[.slice An ns.length cn] 28)).alloc (.cells #[.int .u8 x.kind, .int .i32 x.rune, .int .u32 x.plus, .int .u32 x.minus, .slice B x.kids.length cc] 66) := ⟨_, rfl⟩
  have hal : Below w.heap.size w W3 := by rw [hW3]; exact (((Below.refl _ _).alloc (Nat.le_refl _) _).alloc (by simp) _).alloc (by simp; omega) _
  have hr0 : Row W3 w.heap.size 25 [.slice A1 a.feats.length c1, .slice A2 a.lets.length c2] := by rw [hW3]; exact ((Row.new w _ _).alloc _).alloc _
  have hr1 : Row W3 (w.heap.size + 1) 28 [.slice An ns.length cn] := by
    have h := (Row.new (w.alloc (.cells #[.slice A1 a.feats.length c1, .slice A2 a.lets.length c2] 25)) 28 [.slice An ns.length cn]).alloc (.cells #[.int .u8 x.kind, .int .i32 x.rune, .int .u32 x.plus, .int .u32 x.minus, .slice B x.kids.length cc] 66)
    rw [hW3]
    simpa using h
  have hr2 : Row W3 (w.heap.size + 1 + 1) 66 [.int .u8 x.kind, .int .i32 x.rune, .int .u32 x.plus, .int .u32 x.minus, .slice B x.kids.length cc] := by
    have h := Row.new ((w.alloc (.cells #[.slice A1 a.feats.length c1, .slice A2 a.lets.length c2] 25)).alloc (.cells #[.slice An ns.length cn] 28)) 66 [.int .u8 x.kind, .int .i32 x.rune, .int .u32 x.plus, .int .u32 x.minus, .slice B x.kids.length cc]
    rw [hW3]
    simpa using h
  have hn1 := hE.len
  have hcall := Lib.hid (rnone_any n (by omega) W3)
  have HE := Lib.hid hE
  have HGS := Lib.hid hgs
  have HS := Lib.hid hS
  have HST := Lib.hid hstf
  have HAL := Lib.hid hal
  have HR0 := Lib.hid hr0
  have HR1 := Lib.hid hr1
  have HR2 := Lib.hid hr2
  have HKS := Lib.hid hks
  have hkl2 : k < ns.length := hk
  have j1 : (k : Int) < (ns.length : Int) := by omega
  have j2 : 0 ≤ (k : Int) := by omega
  have hw3 := hal.size
  have hm1 := hE.nmax
  subst eA
  have hn65 : n ≤ 65 := by omega
  have hln : ls.length < n := by omega
  have hln2 : (ls.length : Int) < (n : Int) := by omega
  have HN := Lib.hid hn
  have HKD := Lib.hid kd
  have b1 : (x.kind == 1) = false := beq_eq_false_iff_ne.2 (by omega)
  have b5 : (x.kind == 5) = false := beq_eq_false_iff_ne.2 (by omega)
  have b6 : (x.kind == 6) = false := beq_eq_false_iff_ne.2 (by omega)
  have b7 : (x.kind == 7) = false := beq_eq_false_iff_ne.2 (by omega)
  have b9 : (x.kind == 9) = false := beq_eq_false_iff_ne.2 (by omega)
  have b8 : (x.kind == 8) = false := beq_eq_false_iff_ne.2 (by omega)
  have hst2 : stF ns (matL a ls) k S = shiftS x (matL a ls) S := by rw [hstf]; unfold bodyS; rw [if_neg (by omega), if_neg (by omega), if_neg (by omega), if_neg (by omega), if_neg (by omega), if_neg (by omega)]
  have HF := Lib.hid hst2
  clear hst2 hE hgs hS hstf hal hr0 hr1 hr2 hxx hks kd hn
  go_enter Tryz.func98, Tryz.ntmps98
  go_wp2_with fail
  rw [← hW3]
  clear hW3
  refine hcall.out.mono ?_
  rintro e w1 ⟨g, rfl, hg, hrow, hb1⟩
  have HB1 := Lib.hid hb1
  have HRW := Lib.hid hrow
  have hgl := hrow.lt
  have hgw := hb1.size
  have q0 := (HR0.out.below hb1 HR0.out.lt).lt
  have q1 := (HR1.out.below hb1 HR1.out.lt).lt
  obtain ⟨u0, v0⟩ := (HR2.out.below hb1 HR2.out.lt).cel (i := 0) rfl
  have q2 := (HR2.out.below hb1 HR2.out.lt).lt
  have hgsl := HGS.out.lt
  have hgsl1 : gs < w1.heap.size := by omega
  clear hcall hrow hb1 y0 y1 y2 y3 y4 f0 f1 f2 f3 f4
  have hboxes := Lib.hid (fun (wx : World) (hx : Below W3.heap.size W3 wx) => And.intro (And.intro ((HR0.out.below hx HR0.out.lt).cel (i := 0) rfl).1 ((HR0.out.below hx HR0.out.lt).cel (i := 1) rfl).1) (And.intro (And.intro ((HR2.out.below hx HR2.out.lt).cel (i := 0) rfl).1 ((HR2.out.below hx HR2.out.lt).cel (i := 1) rfl).1) (And.intro ((HR2.out.below hx HR2.out.lt).cel (i := 2) rfl).1 (And.intro ((HR2.out.below hx HR2.out.lt).cel (i := 3) rfl).1 ((HR2.out.below hx HR2.out.lt).cel (i := 4) rfl).1))))
  have hwb2 := HAL.out.size
  have HSH := Lib.hid (fun i hi l hl => shift_succ x (matL a ls) (S := S) (i := i) hi (l := l) hl)
  have HSZ := Lib.hid (shift_zero x (matL a ls) S)
  have HSA := Lib.hid (shift_all x (matL a ls) (S := S) (by rw [matL_len, HS.out]; exact HN.out))
  have HSL := Lib.hid (shift_len x (matL a ls) S)
  clear HST
  generalize stF ns (matL a ls) k S = R at *
  have HFR : Hid (R = shiftS x (matL a ls) S) := HF
  generalize shiftS x (matL a ls) S = Sh at *
  have hst : ∃ i : Nat, i ≤ ls.length ∧ Value.int .i64 0 = .int .i64 (i : Int) ∧ Hid (BRow w1 g (upTo Sh (i + 1)) ∧ Below W3.heap.size W3 w1) :=
    ⟨0, by omega, rfl, by rw [HSZ.out, HS.out]; exact HRW.out, HB1.out⟩
  have HST := Lib.hid hst
  clear hst HF HSZ
  go_wp2_with fail
  go_loopw [17] (fun v wr => ∃ i : Nat, i ≤ ls.length ∧ v = .int .i64 (i : Int) ∧ Hid (BRow wr g (upTo Sh (i + 1)) ∧ Below W3.heap.size W3 wr)) (fun v _ => ls.length - (intOf v).toNat)
  case atStart => exact HST.out
  case round =>
    clear HST u0 v0 q0 q1 q2 hgl hgw HRW
    obtain ⟨i, hi, rfl, hT⟩ := hrel
    have hgl := hT.out.1.lt
    have hsw : W3.heap.size ≤ wr.heap.size := hT.out.2.size
    have hwr := HAL.out.trans (hT.out.2.mono HAL.out.size)
    by_cases hlt : i < ls.length
    · obtain ⟨bk, ok, eB, _, hbk, hck, hkk⟩ := ints_at HE.out.lets hlt
      obtain ⟨q, hq, hnum, hru, hof⟩ := letter_at HE.out.ok (HE.out.isl _ (List.getElem_mem hlt))
      have hml : (matL a ls)[i]? = some a.lets[q] := by
        unfold matL
        rw [List.getElem?_map, List.getElem?_eq_getElem hlt]
        simp only [Option.map_some, hof]
      have hstep := HSH.out i (by rw [HS.out]; omega) _ hml
      have hlk := Lib.hid (rtakes_any A1 A2 c1 c2 0 a x (.slice B x.kids.length cc) ls[i] q hq (wr.drewN 1) (HE.out.on (below_drewN hwr 1)).al (kin_i32 hkk) hnum hru h0 h1 h2 h3)
      have HKC := Lib.hid (fun (wx : World) (hx : Below W3.heap.size W3 wx) => (Cel.keep (Kp.of_below hx) (Nat.zero_le _) (show bk < W3.heap.size by omega) (Cel.keep (Kp.of_below HAL.out) (Nat.zero_le _) hbk hck)).1)
      generalize takesB x a.lets[q] = Y at *
      generalize ls[i] = r at *
      obtain ⟨s0, _⟩ := (HGS.out.below hwr).cel (i := i) (by rw [HS.out]; omega)
      obtain ⟨_, o0⟩ := hT.out.1.cel (i := i + 1) (by rw [upTo_len, HSL.out, HS.out]; omega)
      have HNX : Hid (∀ w5, Below (wr.drewN 1).heap.size (wr.drewN 1) w5 → Hid (BRow (w5.setCell ⟨g, i + 1, none⟩ (.bool (S.getD i false && Y))) g (upTo Sh (i + 1 + 1)) ∧ Below W3.heap.size W3 (w5.setCell ⟨g, i + 1, none⟩ (.bool (S.getD i false && Y))))) := fun w5 h5 => by
        have h6 : Below wr.heap.size wr w5 := (below_drewN (Below.refl _ _) 1).trans h5
        refine ⟨?_, (hT.out.2.trans (h6.mono hsw)).setCell hg _⟩
        rw [hstep]
        exact (hT.out.1.below h6).set_ (i + 1) _
      have HCE : Hid (∀ w5, Below (wr.drewN 1).heap.size (wr.drewN 1) w5 → Cel w5 g (i + 1) (.bool ((upTo Sh (i + 1)).getD (i + 1) false)) ∧ g < w5.heap.size ∧ Below W3.heap.size W3 w5) := fun w5 h5 => by
        have h6 : Below wr.heap.size wr w5 := (below_drewN (Below.refl _ _) 1).trans h5
        exact ⟨(hT.out.1.below h6).cel (by rw [upTo_len, HSL.out, HS.out]; omega), (hT.out.1.below h6).lt, hT.out.2.trans (h6.mono hsw)⟩
      have HKP : Hid (∀ (w5 : World) (b o : Nat), b < W3.heap.size → (w5.setCell ⟨g, i + 1, none⟩ (.bool Y)).cell? ⟨b, o, none⟩ = w5.cell? ⟨b, o, none⟩) := fun w5 b o h => World.cell?_of_block (a := ⟨b, o, none⟩) (Below.heap_setCell w5 ⟨g, i + 1, none⟩ _ b (by show b ≠ g; omega))
      have B0 : w.heap.size < W3.heap.size := HR0.out.lt
      have B2 : w.heap.size + 1 + 1 < W3.heap.size := HR2.out.lt
      have B3 : bk < W3.heap.size := by omega
      have B4 : gs < W3.heap.size := by omega
      have j3 : (i : Int) < (ls.length : Int) := by omega
      have j4 : 0 ≤ (i : Int) := by omega
      have j5 : (i : Int) + 1 < (n : Int) := by omega
      have j6 : (i : Int) < (n : Int) := by omega
      have hbk2 : bk < wr.heap.size := by omega
      have hgw : gs < wr.heap.size := by omega
      have d0 := (hboxes.out wr hT.out.2).1.1
      have d1 := (hboxes.out wr hT.out.2).1.2
      have d2 := (hboxes.out wr hT.out.2).2.1.1
      have d3 := (hboxes.out wr hT.out.2).2.1.2
      have d4 := (hboxes.out wr hT.out.2).2.2.1
      have d5 := (hboxes.out wr hT.out.2).2.2.2.1
      have d6 := (hboxes.out wr hT.out.2).2.2.2.2
      have d7 := HKC.out wr hT.out.2
      subst eB
      have hstep2 := Lib.hid hstep
      clear hck hstep hml hof hru hnum hwr
      have i1 : IntKind.i64.wrap ((i : Int) + 1) = (i : Int) + 1 := IntWalk.i64_in _ (by omega)
      have i2 : 0 ≤ (i : Int) + 1 := by omega
      have i3 : ((i : Int) + 1).toNat = i + 1 := by omega
      generalize S.getD i false = z at *
      cases z with
      | true =>
        rw [Bool.true_and] at HNX
        go_upto_region 7 with (fail)
        go_region_held3 (fun w' => w'.cell? ⟨w.heap.size, 0, none⟩ = some (.slice A1 a.feats.length c1) ∧ w'.cell? ⟨w.heap.size, 1, none⟩ = some (.slice A2 a.lets.length c2) ∧ w'.cell? ⟨w.heap.size + 1 + 1, 0, none⟩ = some (.int .u8 x.kind) ∧ w'.cell? ⟨w.heap.size + 1 + 1, 1, none⟩ = some (.int .i32 x.rune) ∧ w'.cell? ⟨w.heap.size + 1 + 1, 2, none⟩ = some (.int .u32 x.plus) ∧ w'.cell? ⟨w.heap.size + 1 + 1, 3, none⟩ = some (.int .u32 x.minus) ∧ w'.cell? ⟨w.heap.size + 1 + 1, 4, none⟩ = some (.slice B x.kids.length cc) ∧ w'.cell? ⟨bk, ok + i, none⟩ = some (.int .i32 r) ∧ w'.cell? ⟨gs, i, none⟩ = some (.bool true)) ((first | go_keep | exact ⟨(HKP.out w5 _ _ B0).trans k0, (HKP.out w5 _ _ B0).trans k1, (HKP.out w5 _ _ B2).trans k2, (HKP.out w5 _ _ B2).trans k3, (HKP.out w5 _ _ B2).trans k4, (HKP.out w5 _ _ B2).trans k5, (HKP.out w5 _ _ B2).trans k6, (HKP.out w5 _ _ B3).trans k7, (HKP.out w5 _ _ B4).trans k8⟩))
          ((go_at_call 128; refine hlk.out.mono ?_; rintro e w5 ⟨rfl, h7⟩; have HX := Lib.hid (HCE.out w5 h7); have HN7 := Lib.hid (HNX.out w5 h7); have k0 := (hboxes.out w5 HX.out.2.2).1.1; have k1 := (hboxes.out w5 HX.out.2.2).1.2; have k2 := (hboxes.out w5 HX.out.2.2).2.1.1; have k3 := (hboxes.out w5 HX.out.2.2).2.1.2; have k4 := (hboxes.out w5 HX.out.2.2).2.2.1; have k5 := (hboxes.out w5 HX.out.2.2).2.2.2.1; have k6 := (hboxes.out w5 HX.out.2.2).2.2.2.2; have k7 := HKC.out w5 HX.out.2.2; have k8 := (Cel.keep (Kp.of_below (h7.mono (show gs + 1 ≤ (wr.drewN 1).heap.size from hgw))) (Nat.zero_le _) (Nat.lt_succ_self gs) (show Cel (wr.drewN 1) gs i (.bool true) from ⟨s0, ‹_›⟩)).1; have k9 := HX.out.1.2; have k10 := HX.out.2.1; have k11 := HX.out.1.1))
        have HFN := Lib.hid HN7.out
        clear HNX HN7 HX hlk HCE k0 k1 k2 k3 k4 k5 k6 k7 k8 k9 k10 k11 i1 i2 i3
        go_wp2_with fail
        exact ⟨⟨i + 1, by omega, by go_num, HFN.out.out⟩, by simp [intOf]; omega⟩
      | false =>
        rw [Bool.false_and] at HNX hstep2
        have HN7 := Lib.hid (HNX.out _ (Below.refl _ _))
        have k9 := (HCE.out _ (Below.refl _ _)).1.2
        have k11 := (HCE.out _ (Below.refl _ _)).1.1
        have hz2 : (upTo Sh (i + 1)).set (i + 1) false = upTo Sh (i + 1) := by
          refine List.ext_getElem (by rw [List.length_set]) fun q h1 h2 => ?_
          rw [List.getElem_set, upTo_at]
          split
          · rename_i e
            subst e
            simp
          · rfl
        have HZ2 := Lib.hid hz2
        have HCG : Hid (∀ wx, StW W3 g (upTo Sh (i + 1)) wx → wx.cell? ⟨gs, i, none⟩ = some (.bool false) ∧ wx.cell? ⟨g, i + 1, none⟩ = some (.bool false) ∧ wx.frozen? ⟨g, i + 1, none⟩ = false ∧ wx.setCell ⟨g, i + 1, none⟩ (.bool false) = wx) := fun wx hx => by
          have h1 := hx.1.cel (i := i + 1) (by rw [upTo_len, HSL.out, HS.out]; omega)
          have h2 : (upTo Sh (i + 1)).getD (i + 1) false = false := by
            unfold upTo
            rw [List.getD_eq_getElem?_getD, List.getElem?_map]
            cases h : (List.range Sh.length)[i + 1]? with
            | none => rfl
            | some q =>
              have := List.getElem?_eq_some_iff.1 h
              obtain ⟨h3, h4⟩ := this
              rw [List.getElem_range] at h4
              subst h4
              simp
          rw [h2] at h1
          have h5 : wx.cell? ⟨gs, i, none⟩ = wr.cell? ⟨gs, i, none⟩ := ((bcell hx.2).1 gs i (show gs < W3.heap.size by omega)).trans ((bcell hT.out.2).1 gs i (show gs < W3.heap.size by omega)).symm
          exact ⟨h5.trans s0, h1.1, h1.2, setCell_same hx.1 (by rw [List.getElem?_map, List.getElem?_eq_getElem (by rw [upTo_len, HSL.out, HS.out]; omega)]; rw [List.getD_eq_getElem?_getD, List.getElem?_eq_getElem (by rw [upTo_len, HSL.out, HS.out]; omega)] at h2; simp only [Option.getD_some] at h2; rw [h2]; rfl)⟩
        have hC : StW W3 g (upTo Sh (i + 1)) wr.drew := ⟨hT.out.1.drew, below_drewN hT.out.2 1⟩
        clear hz2
        go_upto_region 7 with (fail)
        refine wp_region_class (fun wx => StW W3 g (upTo Sh (i + 1)) wx) (by kernel_rfl) (by kernel_rfl) hC ?_
        repeat (first
          | go_big_quiet_skip
          | (go_big_quiet_want; go_big_quiet_op; first
              | go_big_quiet_on
              | (apply Exists.intro
                 refine ⟨fun wx hx => ?_, ?_⟩
                 · (first
                    | exact rfl
                    | (have e1 := (HCG.out wx hx).1; simp only [e1, Result.andThen]; exact ⟨trivial, rfl⟩)
                    | (have e2 := (HCG.out wx hx).2; simp only [e2.1, e2.2.1, e2.2.2, Bool.false_eq_true, if_false, Result.andThen]; first | exact ⟨trivial, rfl⟩ | exact ⟨rfl, rfl⟩))
                 go_big_quiet_on)))
        refine wpQuiet_nil ?_
        intro w5 hq
        have hfin : BRow w5 g (upTo Sh (i + 1 + 1)) ∧ Below W3.heap.size W3 w5 := by
          refine ⟨?_, hq.2⟩
          rw [hstep2.out, HZ2.out]
          exact hq.1
        have HFIN := Lib.hid hfin
        clear i1 i2 i3 hfin hq HN7 HNX HCE HCG hC k9 k11
        go_wp2_with fail
        exact ⟨⟨i + 1, by omega, by go_num, HFIN.out⟩, by simp [intOf]; omega⟩
    · obtain rfl : i = ls.length := by omega
      have hfin : BRow wr g R := by
        have := hT.out.1
        rw [show ls.length = (matL a ls).length from (matL_len a ls).symm, HSA.out] at this
        rw [HFR.out]
        exact this
      have HFIN := Lib.hid hfin
      clear hfin
      go_wp2_with fail
      go_ret
      exact ⟨g, rfl, by omega, HFIN.out, hwr⟩
end
end Go.Proofs.YtimhlnndobfehaaGreatDoor
namespace Go.Proofs.YtimhlnndobfehaaGreatDoor
open Go.RowKit
open Go.Lib (Utf8Tabs)
set_option linter.unusedVariables false

section
variable {A1 A2 An AD : Option Addr} {c1 c2 cn cl : Nat} {a : Al} {ns : List Nd} {ls : List Int}
theorem rsteps_all (hns : NodesOk ns) (hkids : Kids ns) : ∀ (f k : Nat), ns.length - k ≤ f → k < ns.length → StepOk A1 A2 An AD c1 c2 cn cl a ns ls k
  | 0, k, hf, hk => by omega
  | f + 1, k, hf, hk => by
    have hx : ns[k]? = some ns[k] := List.getElem?_eq_getElem hk
    have H : ∀ c ∈ ns[k].kids, StepOk A1 A2 An AD c1 c2 cn cl a ns ls c.toNat := fun c hc => by
      have := hkids k _ hx c hc
      exact rsteps_all hns hkids f c.toNat (by omega) (by omega)
    have hno := (hns k _ hx).1
    rw [nodeOk_eq, Bool.and_eq_true] at hno
    have har := hno.1
    unfold arOk at har
    by_cases k6 : ns[k].kind = 6
    · exact rsteps_seq hk k6 H
    by_cases k7 : ns[k].kind = 7
    · exact rsteps_or hk k7 H
    rw [if_neg (by omega)] at har
    by_cases k89 : ns[k].kind = 8 ∨ ns[k].kind = 9
    · rw [if_pos k89, decide_eq_true_eq] at har
      rcases k89 with k8 | k9
      · exact rsteps_star hk k8 har H
      · exact rsteps_opt hk k9 har H
    rw [if_neg k89] at har
    by_cases k15 : 1 ≤ ns[k].kind ∧ ns[k].kind ≤ 5
    · by_cases k1 : ns[k].kind = 1
      · exact rsteps_empty hk k1
      by_cases k5 : ns[k].kind = 5
      · exact rsteps_edge hk k5
      exact rsteps_leaf hk (by omega)
    · rw [if_neg k15] at har
      cases har
/-- The places from a place. -/
def fromS (ns : List Nd) (L : List Lt) (i : Nat) : List Bool := stF ns L 0 (singleS (L.length + 1) i)
theorem fromS_len (ns : List Nd) (L : List Lt) (i : Nat) : (fromS ns L i).length = L.length + 1 := stF_len (single_len _ _)
theorem mem_from {ns : List Nd} {L : List Lt} {i j : Nat} : j ∈ endsL ns L 0 i ↔ (fromS ns L i).getD j false = true := by
  unfold endsL
  rw [List.mem_filter, decide_eq_true_eq, List.mem_range, on_getD]
  exact ⟨fun h => h.2, fun h => ⟨by have := on_lt h; rw [← fromS_len ns L i]; exact this, h⟩⟩
set_option maxHeartbeats 4000000 in
set_option maxRecDepth 100000 in
theorem rfrom_any (hns : NodesOk ns) (hpos : 1 ≤ ns.length) {i : Nat} (hi : i ≤ ls.length) {w : World} (hE : StE A1 A2 An AD a ns ls w) :
    Calls Tryz.prog 64 #[.agg #[.slice A1 a.feats.length c1, .slice A2 a.lets.length c2], .agg #[.slice An ns.length cn], .slice AD ls.length cl, .int .i64 (i : Int)] w (SetOut (ls.length + 1) (fromS ns (matL a ls) i) w) := by
  obtain ⟨n, hn⟩ : ∃ n, n = ls.length + 1 := ⟨_, rfl⟩
  have hal : Below w.heap.size w ((w.alloc (.cells #[.slice A1 a.feats.length c1, .slice A2 a.lets.length c2] 25)).alloc (.cells #[.slice An ns.length cn] 28)) := ((Below.refl _ _).alloc (Nat.le_refl _) _).alloc (by simp) _
  have hr0 := (Row.new w 25 [.slice A1 a.feats.length c1, .slice A2 a.lets.length c2]).alloc (.cells #[.slice An ns.length cn] 28)
  have hq0 := Row.new (w.alloc (.cells #[.slice A1 a.feats.length c1, .slice A2 a.lets.length c2] 25)) 28 [.slice An ns.length cn]
  have hsz : (w.alloc (.cells #[.slice A1 a.feats.length c1, .slice A2 a.lets.length c2] 25)).heap.size = w.heap.size + 1 := by simp
  rw [hsz] at hq0
  clear hsz
  have hl64 := hE.len
  have hnone := rnone_any n (by omega) ((w.alloc (.cells #[.slice A1 a.feats.length c1, .slice A2 a.lets.length c2] 25)).alloc (.cells #[.slice An ns.length cn] 28))
  rw [show ((n : Nat) : Int) = (ls.length : Int) + 1 by omega] at hnone
  have HN := Lib.hid hn
  have HNO := Lib.hid hnone
  have HST := Lib.hid (rsteps_all (A1 := A1) (A2 := A2) (An := An) (AD := AD) (c1 := c1) (c2 := c2) (cn := cn) (cl := cl) (a := a) (ls := ls) hns hE.kids ns.length 0 (by omega) hpos)
  have HE := Lib.hid hE
  have HAL := Lib.hid hal
  have HR0 := Lib.hid hr0
  have HQ0 := Lib.hid hq0
  have hin : i < n := by omega
  have hin2 : (i : Int) < (n : Int) := by omega
  have hF : fromS ns (matL a ls) i = stF ns (matL a ls) 0 ((noneS n).set i true) := by unfold fromS singleS; rw [matL_len, hn]
  have HF := Lib.hid hF
  rw [← hn]
  clear hnone hn hE hal hr0 hq0 hF
  generalize fromS ns (matL a ls) i = R at *
  go_enter Tryz.func64, Tryz.ntmps64
  go_wp2_with fail
  refine HNO.out.mono ?_
  rintro e w1 ⟨g, rfl, hg, hrow, hb1⟩
  have hgl := hrow.lt
  obtain ⟨_, hfz⟩ := hrow.cel (i := i) (by rw [none_len]; exact hin)
  have hbs : Below w.heap.size w (w1.setCell ⟨g, i, none⟩ (.bool true)) := (HAL.out.trans (hb1.mono HAL.out.size)).setCell (by have := HAL.out.size; show w.heap.size ≤ g; omega) _
  have hc0 : ∀ {b : Nat}, b < ((w.alloc (.cells #[.slice A1 a.feats.length c1, .slice A2 a.lets.length c2] 25)).alloc (.cells #[.slice An ns.length cn] 28)).heap.size → b ≠ g := fun h => by omega
  have hne0 : w.heap.size ≠ g := hc0 HR0.out.lt
  have hne1 : w.heap.size + 1 ≠ g := hc0 HQ0.out.lt
  obtain ⟨y0, _⟩ := (HR0.out.below hb1 HR0.out.lt).cel (i := 0) rfl
  obtain ⟨y1, _⟩ := (HR0.out.below hb1 HR0.out.lt).cel (i := 1) rfl
  obtain ⟨z0, _⟩ := (HQ0.out.below hb1 HQ0.out.lt).cel (i := 0) rfl
  have l0 := (HR0.out.below hb1 HR0.out.lt).lt
  have l1 := (HQ0.out.below hb1 HQ0.out.lt).lt
  have HCALL := Lib.hid (HST.out ((noneS n).set i true) g (w1.setCell ⟨g, i, none⟩ (.bool true)) n HN.out (by rw [List.length_set, none_len]) (HE.out.on hbs) (hrow.set_ i true))
  have HBS := Lib.hid hbs
  clear hrow hb1 hc0 hbs hg
  go_wp2_with fail
  refine HCALL.out.mono ?_
  rintro e w2 ⟨g2, rfl, hg2, hrow2, hb2⟩
  have HFN : Hid (SetOut n R w (.returned (.slice (some ⟨g2, 0, none⟩) n n)) w2) := ⟨g2, rfl, by have := HBS.out.size; omega, by rw [HF.out]; exact hrow2, HBS.out.trans (hb2.mono HBS.out.size)⟩
  clear hg2 hrow2 hb2
  go_wp2_with fail
  go_ret
  exact HFN.out
end
end Go.Proofs.YtimhlnndobfehaaGreatDoor
