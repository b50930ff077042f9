/- MatchSpans: for every alphabet, pattern and word, First and All give what the document gives, with the same errors; the pattern stays. Conditions: unicode/utf8's two tables are as their text lays them (the card ties them). -/
import Derived.Test.YtimhlnndobfehaaGreatDoorMs01
import Derived.Test.YtimhlnndobfehaaGreatDoorMs02
import Derived.Test.YtimhlnndobfehaaGreatDoorMs03
import Derived.Test.YtimhlnndobfehaaGreatDoorMs07
import Derived.Test.YtimhlnndobfehaaGreatDoorCards
import Derived.Test.YtimhlnndobfehaaGreatDoorTie
import Derived.Test.YtimhlnndobfehaaGreatDoorMd01
import Derived.Test.YtimhlnndobfehaaGreatDoorMd37
namespace Go.Proofs.YtimhlnndobfehaaGreatDoor
open Go.RowKit
open Go.Lib (Utf8Tabs)
set_option linter.unusedVariables false

set_option maxHeartbeats 8000000 in
set_option maxRecDepth 100000 in
theorem spans_walk (A1 A2 An : Option Addr) (c1 c2 cn : Nat) (a : Al) (ns : List Nd) (s : ByteArray) (w : World) (hin : AlIn w 0 w.heap.size A1 A2 a) (hT : Utf8Tabs 0 1 w) (hns : Sl 5 vNd w 0 w.heap.size An ns) (hm : ns.length ≤ 9223372036854775807) (hkb : ∀ x ∈ ns, x.kids.length * 8 ≤ 140737488355328) (hs : s.size ≤ maxLen) :
    Calls Tryz.prog 5 #[.agg #[.slice A1 a.feats.length c1, .slice A2 a.lets.length c2], .agg #[.slice An ns.length cn], .string s] w fun e w' => e = .returned (.bool true) ∧ Below w.heap.size w w' := by
  have hs0 : M1St A1 A2 An c1 c2 cn a ns w _ := M1St.new hin hT hns
  have HAW := Lib.hid (fun (wx : World) (h : M1St A1 A2 An c1 c2 cn a ns w wx) => alive_any wx h.tabs)
  have HM := Lib.hid (fun (wx : World) => much_any An ns.length cn s wx hm hs)
  have HMN : Hid (muchB ns.length s.size = false → ns.length ≤ 100000) := fun h => by
    unfold muchB at h
    rw [decide_eq_false_iff_not] at h
    omega
  have HTW := Lib.hid (fun (wx : World) (h : M1St A1 A2 An c1 c2 cn a ns w wx) (hn : ns.length ≤ 100000) => twin5_any An cn 0 wx.heap.size ns wx hn hkb (Nat.le_refl _) h.l)
  have HKP := Lib.hid (fun (Aq : Option Addr) (cq b : Nat) (wx : World) (h : TuSt A1 A2 An Aq c1 c2 cn cq b a ns ns w wx) => kept_yes (c := cq) (c' := cn) hm (Nat.le_refl _) (Nat.le_refl _) h.q h.m.l)
  have HFI := Lib.hid (fun (Aq : Option Addr) (cq b : Nat) (wx : World) (h : TuSt A1 A2 An Aq c1 c2 cn cq b a ns ns w wx) => first_op A1 A2 Aq c1 c2 cq 0 a ns s wx h.m.al h.m.tabs h.q hm hs)
  have HAL := Lib.hid (fun (Aq : Option Addr) (cq b : Nat) (wx : World) (h : TuSt A1 A2 An Aq c1 c2 cn cq b a ns ns w wx) => all_op A1 A2 Aq c1 c2 cq 0 a ns s wx h.m.al h.m.tabs h.q hm hs)
  have HRF := Lib.hid (fun (Aq : Option Addr) (cq b : Nat) (wx : World) (h : TuSt A1 A2 An Aq c1 c2 cn cq b a ns ns w wx) => rfirst_any A1 A2 An c1 c2 cn a ns s wx h.m.al h.m.tabs h.m.l hm hs)
  have HRA := Lib.hid (fun (Aq : Option Addr) (cq b : Nat) (wx : World) (h : TuSt A1 A2 An Aq c1 c2 cn cq b a ns ns w wx) => rall_any A1 A2 An c1 c2 cn a ns s wx h.m.al h.m.tabs h.m.l hm hs)
  have HLN := Lib.hid (allM_small a ns s)
  generalize firM a ns s = F at *
  generalize allM a ns s = G at *
  obtain ⟨F1, F2⟩ := F
  obtain ⟨G1, G2⟩ := G
  simp only at HLN
  clear hin hT hns
  have haw := Lib.hid (HAW.out _ hs0)
  have HS0 := Lib.hid hs0
  clear hs0
  go_enter Tryz.func5, Tryz.ntmps5
  go_wp2_with fail
  refine haw.out.mono ?_
  rintro e0 w1 ⟨rfl, hb1⟩
  have hs1 := HS0.out.on hb1
  have HS1 := Lib.hid hs1
  obtain ⟨p1, _⟩ := hs1.r1.cel (i := 0) rfl
  have HBW1 := Lib.hid hs1.below
  clear HS0 haw HAW hb1 hs1
  have hm1 := Lib.hid (HM.out w1)
  cases h1 : muchB ns.length s.size with
  | true =>
    rw [h1] at hm1
    clear h1
    go_wp2_with fail
    refine hm1.out.mono ?_
    rintro e w2 ⟨rfl, hb2⟩
    have HF := Lib.hid (HBW1.out.trans (hb2.mono HBW1.out.size))
    clear hb2
    go_wp2_with fail
    go_ret
    exact ⟨rfl, HF.out⟩
  | false =>
    rw [h1] at hm1
    have hn5 := HMN.out h1
    clear h1
    go_wp2_with fail
    refine hm1.out.mono ?_
    rintro e w2 ⟨rfl, hb2⟩
    have hs2 := HS1.out.on hb2
    have HS2 := Lib.hid hs2
    obtain ⟨p2, _⟩ := hs2.r1.cel (i := 0) rfl
    have l2 := hs2.r1.lt
    have ht2 := Lib.hid (HTW.out w2 hs2 hn5)
    clear hs2 hb2 HS1 hm1 p1 HBW1 HMN HM HTW
    go_wp2_with fail
    refine ht2.out.mono ?_
    rintro e w5 ⟨v, rfl, hpr⟩
    obtain ⟨Aq, cq, rfl, hcq, hq5, hb5⟩ := patRes_sl hpr
    have hb6 : Below w5.heap.size w5 (w5.alloc (.cells #[.slice Aq ns.length cq] 28)) := (Below.refl _ _).alloc (Nat.le_refl _) _
    have hts : TuSt A1 A2 An Aq c1 c2 cn cq w5.heap.size a ns ns w (w5.alloc (.cells #[.slice Aq ns.length cq] 28)) :=
      ⟨(HS2.out.on hb5).on hb6, (hq5.below vNd_good hb6 (Nat.le_refl _)).wide vNd_good (Nat.zero_le _) hb6.size, Row.new w5 _ _⟩
    obtain ⟨w6, hw6⟩ : ∃ w6, w6 = w5.alloc (.cells #[.slice Aq ns.length cq] 28) := ⟨_, rfl⟩
    obtain ⟨bq, hbq⟩ : ∃ bq, bq = w5.heap.size := ⟨_, rfl⟩
    rw [← hw6, ← hbq] at hts
    have HS6 := Lib.hid hts
    clear hpr hq5 hb5 hb6 hts HS2 ht2 p2 l2
    go_upto_region 7 with (fail)
    rw [← hw6, ← hbq]
    clear hw6 hbq
    have hs6 := HS6.out
    obtain ⟨a6, _⟩ := hs6.m.r0.cel (i := 0) rfl
    obtain ⟨d6, _⟩ := hs6.m.r0.cel (i := 1) rfl
    obtain ⟨q6, _⟩ := hs6.r2.cel (i := 0) rfl
    have l6 := hs6.m.r1.lt
    have m6 := hs6.r2.lt
    have hc6 := Lib.hid (HFI.out Aq cq bq w6 hs6)
    clear hs6
    go_wp2_with fail
    refine hc6.out.mono ?_
    rintro e w7 ⟨rfl, hb7⟩
    have HS7 := Lib.hid (HS6.out.on hb7)
    clear hb7 hc6 a6 d6 q6 l6 m6
    simp only
    have hbx7 : Below w7.heap.size w7 (w7.alloc (.cells #[.int .i64 ((F1.getD (0, 0)).1 : Int), .int .i64 ((F1.getD (0, 0)).2 : Int)] 51)) := (Below.refl _ _).alloc (Nat.le_refl _) _
    have hrw7 := Row.new w7 51 [.int .i64 ((F1.getD (0, 0)).1 : Int), .int .i64 ((F1.getD (0, 0)).2 : Int)]
    have hs8 := HS7.out.on hbx7
    obtain ⟨w8, hw8⟩ : ∃ w8, w8 = w7.alloc (.cells #[.int .i64 ((F1.getD (0, 0)).1 : Int), .int .i64 ((F1.getD (0, 0)).2 : Int)] 51) := ⟨_, rfl⟩
    obtain ⟨b8, hb8⟩ : ∃ b8, b8 = w7.heap.size := ⟨_, rfl⟩
    rw [← hw8, ← hb8] at hrw7
    rw [← hw8] at hs8
    have HS8 := Lib.hid hs8
    have HR8 := Lib.hid hrw7
    clear hs8 hrw7 hbx7 HS7
    go_upto_region 8 with (fail)
    rw [← hw8, ← hb8]
    clear hw8 hb8
    have hs8 := HS8.out
    obtain ⟨a8, _⟩ := hs8.m.r0.cel (i := 0) rfl
    obtain ⟨d8, _⟩ := hs8.m.r0.cel (i := 1) rfl
    obtain ⟨q8, _⟩ := hs8.r2.cel (i := 0) rfl
    have l8 := hs8.m.r1.lt
    have m8 := hs8.r2.lt
    have hc8 := Lib.hid (HAL.out Aq cq bq w8 hs8)
    clear hs8
    go_wp2_with fail
    refine hc8.out.mono ?_
    rintro e w9 ⟨A9, c9, rfl, hown9, hb9⟩
    have HS9 := Lib.hid (HS8.out.on hb9)
    have HO9 := Lib.hid hown9
    have HR9 := Lib.hid (HR8.out.below hb9 HR8.out.lt)
    clear hb9 hc8 a8 d8 q8 l8 m8 hown9 HS8 HR8
    simp only
    have hs9 := HS9.out
    obtain ⟨a9, _⟩ := hs9.m.r0.cel (i := 0) rfl
    obtain ⟨d9, _⟩ := hs9.m.r0.cel (i := 1) rfl
    obtain ⟨q9, _⟩ := hs9.m.r1.cel (i := 0) rfl
    have l9 := hs9.m.r1.lt
    have m9 := hs9.r2.lt
    have hc9 := Lib.hid (HRF.out Aq cq bq w9 hs9)
    clear hs9
    go_wp2_with fail
    refine hc9.out.mono ?_
    rintro e w10 ⟨rfl, hb10⟩
    have HS10 := Lib.hid (HS9.out.on hb10)
    have HO10 := Lib.hid (own_below HO9.out hb10)
    have HR10 := Lib.hid (HR9.out.below hb10 HR9.out.lt)
    clear hb10 hc9 a9 d9 q9 l9 m9 HS9 HO9 HR9
    simp only
    have hbx10 : Below w10.heap.size w10 (w10.alloc (.cells #[.int .i64 ((F1.getD (0, 0)).1 : Int), .int .i64 ((F1.getD (0, 0)).2 : Int)] 51)) := (Below.refl _ _).alloc (Nat.le_refl _) _
    have hrw10 := Row.new w10 51 [.int .i64 ((F1.getD (0, 0)).1 : Int), .int .i64 ((F1.getD (0, 0)).2 : Int)]
    have hs11 := HS10.out.on hbx10
    have hr11 := HR10.out.below hbx10 HR10.out.lt
    have ho11 := own_below HO10.out hbx10
    obtain ⟨w11, hw11⟩ : ∃ w11, w11 = w10.alloc (.cells #[.int .i64 ((F1.getD (0, 0)).1 : Int), .int .i64 ((F1.getD (0, 0)).2 : Int)] 51) := ⟨_, rfl⟩
    obtain ⟨b11, hb11⟩ : ∃ b11, b11 = w10.heap.size := ⟨_, rfl⟩
    rw [← hw11, ← hb11] at hrw10
    rw [← hw11] at hs11 hr11 ho11
    have HS11 := Lib.hid hs11
    have HR11 := Lib.hid hr11
    have HT11 := Lib.hid hrw10
    have HO11 := Lib.hid ho11
    clear hs11 hr11 ho11 hrw10 hbx10 HS10 HR10 HO10
    go_upto_region 10 with (fail)
    rw [← hw11, ← hb11]
    clear hw11 hb11
    have hs11 := HS11.out
    obtain ⟨a11, _⟩ := hs11.m.r0.cel (i := 0) rfl
    obtain ⟨d11, _⟩ := hs11.m.r0.cel (i := 1) rfl
    obtain ⟨q11, _⟩ := hs11.m.r1.cel (i := 0) rfl
    have l11 := hs11.m.r1.lt
    have m11 := hs11.r2.lt
    have hc11 := Lib.hid (HRA.out Aq cq bq w11 hs11)
    clear hs11
    go_wp2_with fail
    refine hc11.out.mono ?_
    rintro e w12 ⟨A12, c12, rfl, hown12, hb12⟩
    have HS12 := Lib.hid (HS11.out.on hb12)
    have HO12 := Lib.hid (own_below HO11.out hb12)
    have HP12 := Lib.hid hown12
    have hr12 := HR11.out.below hb12 HR11.out.lt
    have ht12 := HT11.out.below hb12 HT11.out.lt
    clear hb12 hc11 a11 d11 q11 l11 m11 hown12 HS11 HR11 HT11 HO11
    simp only
    obtain ⟨x0, _⟩ := hr12.cel (i := 0) rfl
    obtain ⟨x1, _⟩ := hr12.cel (i := 1) rfl
    obtain ⟨y0, _⟩ := ht12.cel (i := 0) rfl
    obtain ⟨y1, _⟩ := ht12.cel (i := 1) rfl
    have lx := hr12.lt
    have ly := ht12.lt
    have hsm := Lib.hid (rsame_yes A9 A12 c9 c12 _ _ G1 w12 HO12.out HP12.out HLN.out)
    have HSF := Lib.hid HS12.out.m.below
    clear hr12 ht12 HO12 HP12
    generalize (F1.getD (0, 0)).1 = u at *
    generalize (F1.getD (0, 0)).2 = z at *
    go_wp2_with fail
    refine hsm.out.mono ?_
    rintro e w13 ⟨rfl, hb13⟩
    have hs13 := HS12.out.on hb13
    have HS13 := Lib.hid hs13
    obtain ⟨p13, _⟩ := hs13.m.r1.cel (i := 0) rfl
    obtain ⟨q13, _⟩ := hs13.r2.cel (i := 0) rfl
    have l13 := hs13.m.r1.lt
    have m13 := hs13.r2.lt
    have hk13 := Lib.hid (HKP.out Aq cq bq w13 hs13)
    clear hs13 hb13 hsm x0 x1 y0 y1 lx ly HS12
    go_wp2_with fail
    refine hk13.out.mono ?_
    rintro e w14 ⟨rfl, hb14⟩
    have HF := Lib.hid (HS13.out.on hb14).m.below
    clear hb14 hk13 HS13 p13 q13
    go_wp2_with fail
    go_ret
    exact ⟨retb_of (by simp), HF.out⟩
end Go.Proofs.YtimhlnndobfehaaGreatDoor
namespace Go.Proofs.YtimhlnndobfehaaGreatDoor.matchSpans
open Go.ChangeShapes Go.WideShapes Go.ChangeAt Go.RowKit
set_option linter.unusedVariables false

theorem pat_kids {u : List Nd} (h : tPat.Q u) : ∀ x ∈ u, x.kids.length * 8 ≤ 140737488355328 := fun x hx => by
  have h1 := (h.2 x hx).2.2.2.2.1
  rw [show reachBytes = 140737488351232 by decide] at h1
  omega
set_option maxRecDepth 100000 in
theorem contract (H : Type) (enc : TypeId × Value → H) (W : World) (base : Nat) (args : Array Value) (ds gs : List (DataW H)) (before : List MemPlace)
    (hval : ∀ (j : Nat) t v, Tryz.f5.params[j]? = some t → args[j]? = some v → Value.okWide Tryz.prog W .any base t v)
    (hW : DataW.Whole enc Tryz.prog Tryz.f5.params.toList Rows.matchSpansSpec.vars false W args.toList ds gs before) (hL : laidMetH Tryz.prog utf8List W)
    (hz : (DataW.weightsEach Tryz.prog (Tryz.f5.params.toList ++ (OpenSpec.ofChange Rows.matchSpansSpec).bare.plain.varTypes Tryz.prog) (ds ++ gs)).all (· ≤ reachBytes) = true) :
    Calls Tryz.prog 5 args W fun e W' => ∃ v, e = .returned v ∧ Rows.matchSpansSpec.post enc Tryz.prog Tryz.f5 false true false false W args v W' := by
  have hW' := hW
  have hfr := free_of_whole hW
  obtain ⟨p, q, hA0, hV, rfl, hfz, hnd⟩ := hW
  have hA : DataW.TrodAll enc Tryz.prog W 0 (fun _ => true) true Tryz.f5.params.toList args.toList ds p := hA0
  rw [Tryz.params5] at hA hval hz
  obtain ⟨v0, vs0, d0, ds0, p0, q0, hargs, rfl, rfl, h0, r0⟩ := trodAll_cons hA
  obtain ⟨v1, vs1, d1, ds1, p1, q1, rfl, rfl, rfl, h1, r1⟩ := trodAll_cons r0
  obtain ⟨v2, vs2, d2, ds2, p2, q2, rfl, rfl, rfl, h2, r2⟩ := trodAll_cons r1
  obtain ⟨rfl, rfl, rfl⟩ := trodAll_nil r2
  obtain rfl : args = #[v0, v1, v2] := by cases args; simp_all
  obtain ⟨rfl, rfl⟩ := trodVars_none hV
  have hvt : (OpenSpec.ofChange Rows.matchSpansSpec).bare.plain.varTypes Tryz.prog = [] := rfl
  rw [hvt] at hz
  have hz' : ∀ n ∈ DataW.weightsEach Tryz.prog [25, 28, 9] [d0, d1, d2], n ≤ reachBytes := by
    intro n hn
    have := List.all_eq_true.1 hz n (by simpa using hn)
    simpa using this
  obtain ⟨cs0, a, rfl, hva, _, _⟩ := (opens_Al (enc := enc) (w := W)).struct_arg Tryz.underlying25 (hval 0 25 v0 rfl rfl) h0 hfr.left.left
  obtain ⟨A1a, c1a, A2a, c2a, hcs0, ha⟩ := al_cells hva
  obtain rfl : cs0 = #[.slice A1a a.feats.length c1a, .slice A2a a.lets.length c2a] := by cases cs0; simp_all
  obtain ⟨cs1, u, rfl, hvu, _, hqu⟩ := (opens_Pat (enc := enc) (w := W)).struct_arg Tryz.underlying28 (hval 1 28 v1 rfl rfl) h1 hfr.left.right.left
  have hku := pat_kids (hqu (fun n hn => hz' n (weights_each 1 rfl rfl hn)))
  obtain ⟨Au, cu, hcs1, hlcu, hcmu, hu⟩ := hvu
  obtain rfl : cs1 = #[.slice Au u.length cu] := by cases cs1; simp_all
  obtain ⟨x, rfl, hx, _, _⟩ := Opens.str_arg Tryz.underlying9 (hval 2 9 v2 rfl rfl) h2
  refine (spans_walk A1a A2a Au c1a c2a cu a u x W ha (tabs_laid hL) hu (by unfold maxLen at hcmu; omega) hku hx).mono fun e W' ⟨he, hb⟩ => ?_
  subst he
  exact ⟨_, rfl, post_true laidOut (by rw [Tryz.params5]; intro t ht; simp only [List.mem_cons, List.not_mem_nil, or_false] at ht; rcases ht with rfl | rfl | rfl <;> exact ⟨by kernel_rfl, of_decide_eq_true (by kernel_rfl)⟩) (by kernel_rfl) Tryz.underlying4 rfl ⟨rfl, rfl, rfl⟩ hW' hb⟩

theorem reads (os : Os) {H : Type} (enc : TypeId × Value → H) : ∃ places, DataW.whole enc Tryz.prog ((laidWorld os).forCall (fun _ _ => 0) ⟨#[], #[.agg #[.slice none 0 0, .slice none 0 0], .agg #[.slice none 0 0], .string ⟨#[]⟩], []⟩).memory Tryz.f5.params.toList Rows.matchSpansSpec.vars false #[Value.agg #[.slice none 0 0, .slice none 0 0], .agg #[.slice none 0 0], .string ⟨#[]⟩].toList 8 = some ([.agg [.nil, .nil], .agg [.nil], .lit (.string [])], [], places) :=
  ⟨[], by kernel_rfl⟩

set_option maxRecDepth 100000 in
theorem lifted (os : Os) (started : os.Started) (H : Type) (enc : TypeId × Value → H) (F : Stop.Interp) :
    ReturnsInHanded {} Tryz.checked os 5 .any ((OpenSpec.ofChange Rows.matchSpansSpec).preRow enc Tryz.prog Tryz.f5 Rows.matchSpansRow.domain false Rows.matchSpansRow.laid) (((OpenSpec.ofChange Rows.matchSpansSpec).at F).post enc Tryz.prog Tryz.f5 false true false false) := by
  obtain ⟨places, hx⟩ := reads os enc
  refine returnsInHanded_of_row (C := Tryz.checked) (s := OpenSpec.ofChange Rows.matchSpansSpec) own started (by kernel_rfl) Tryz.func5
    (witness_row_at (enc := enc) (C := Tryz.checked) false (laidWorld os) #[.agg #[.slice none 0 0, .slice none 0 0], .agg #[.slice none 0 0], .string ⟨#[]⟩] rfl (by kernel_rfl) (by kernel_rfl) (by kernel_rfl)
      (OpenSpec.preRow_of_cond 8 hx (by kernel_rfl) (fun k hk => by cases hk) (by kernel_rfl) (laid_met os _))) ?_
  intro W base args ds gs before hval hW _ _ hz hL _ _
  exact contract H enc W base args ds gs before hval hW hL hz

theorem said : Rows.MatchSpansSaid :=
  OpenClaim.holds_of_cond 5 Tryz.f5 rfl rfl rfl rfl rfl rfl rfl ⟨rfl, rfl, rfl, rfl, rfl⟩ rfl rfl rfl rfl rfl (by kernel_rfl) Tryz.func5 (by kernel_rfl)
    (of_decide_eq_true (by kernel_rfl)) (by unfold Func.isWrapper; first | (rw [if_pos (by decide +kernel)]; kernel_rfl) | (rw [if_neg (by decide +kernel)]; exact ⟨rfl, rfl⟩))
    (fun os started H enc _ F => by rw [OpenClaim.pre_eq_preRow]; exact lifted os started H enc F)

/-- No parameter wants a stand-in; whether the program looks. -/
theorem plain (f : FuncId) (fn : Func) (hf : Tryz.pinned.checked.prog.funcNamed "cognate/cognatelaw05.MatchSpans" = some f) (hfn : Tryz.pinned.checked.prog.funcs[f]? = some fn) :
    true = Tryz.pinned.checked.prog.looks [] ∧ ∀ (j : Nat) t, fn.params[j]? = some t → Tryz.pinned.checked.prog.wantsStandIn t = false := by
  obtain rfl : f = 5 := Option.some.inj ((show Tryz.prog.funcNamed "cognate/cognatelaw05.MatchSpans" = some 5 by kernel_rfl).symm.trans hf) |>.symm
  obtain rfl : fn = Tryz.f5 := (Option.some.inj (Tryz.func5.symm.trans hfn)).symm
  refine ⟨by kernel_rfl, fun j t ht => ?_⟩
  rw [Tryz.params5] at ht
  have hm := Array.mem_of_getElem? ht
  simp only [List.mem_toArray, List.mem_cons, List.not_mem_nil, or_false] at hm
  rcases hm with rfl | rfl | rfl
  · exact (show Tryz.prog.wantsStandIn 25 = false by kernel_rfl)
  · exact (show Tryz.prog.wantsStandIn 28 = false by kernel_rfl)
  · exact (show Tryz.prog.wantsStandIn 9 = false by kernel_rfl)

theorem proved : Rows.MatchSpansCardSaid :=
  Claim7.holds_tied_plain_at .later [] _ _ _ _ said (fun _ h => by cases h) (by kernel_rfl) (fun _ h => by cases h) matchSpans_row_tie rfl ⟨rfl, rfl⟩ (by kernel_rfl) rfl plain (by kernel_rfl)
#print axioms proved
end Go.Proofs.YtimhlnndobfehaaGreatDoor.matchSpans
