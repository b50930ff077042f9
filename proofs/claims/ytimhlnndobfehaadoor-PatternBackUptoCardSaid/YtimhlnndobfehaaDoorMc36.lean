/- What the document's examples say of patterns in words. -/
import Derived.Test.YtimhlnndobfehaaDoorMc35
namespace Go.Proofs.YtimhlnndobfehaaDoor
open Go.RowKit
open Go.Lib (Utf8Tabs)
set_option linter.unusedVariables false

structure ASt (W : World) (p q b c : Nat) (w : World) : Prop where
  r1 : Row w p 25 [.slice (some ⟨b, 0, none⟩) 1 1, .slice (some ⟨b + 1, 0, none⟩) 4 4]
  r2 : Row w q 28 [.slice (some ⟨c, 0, none⟩) 4 4]
  al : AlIn w 0 w.heap.size (some ⟨b, 0, none⟩) (some ⟨b + 1, 0, none⟩) sampleA
  fo : Sl 5 vNd w 0 w.heap.size (some ⟨c, 0, none⟩) followsN
  tabs : Utf8Tabs 0 1 w
  below : Below W.heap.size W w
theorem ASt.on {W w w' : World} {p q b c : Nat} (h : ASt W p q b c w) (hb : Below w.heap.size w w') : ASt W p q b c w' :=
  ⟨h.r1.below hb h.r1.lt, h.r2.below hb h.r2.lt, h.al.on hb, (h.fo.below vNd_good hb (Nat.le_refl _)).wide vNd_good (Nat.le_refl _) hb.size, Utf8Tabs_below h.tabs hb, h.below.trans (hb.mono h.below.size)⟩
/-- One node alone. -/
theorem one_node {w : World} {g : Nat} {x : Nd} (h : Row w g 44 (ndCells x (.slice none 0 0))) (hk : kinNd x) (h0 : x.kids = []) : Sl 5 vNd w 0 w.heap.size (some ⟨g, 0, none⟩) [x] := by
  have h' : Row w g 44 (flat [(x, .slice none 0 0)]) := by rw [flat_one]; exact h
  refine row_nodes h' (Nat.zero_le _) h.lt fun i y u hu => ?_
  match i, hu with
  | 0, hu =>
    obtain ⟨rfl, rfl⟩ := Prod.mk.inj (Option.some.inj hu)
    rw [h0]
    exact ⟨hk, none, 0, rfl, by decide, by decide, Sl.nil _⟩
set_option maxHeartbeats 8000000 in
set_option maxRecDepth 100000 in
theorem alive_any (w : World) (hT : Utf8Tabs 0 1 w) : Calls Tryd.prog 24 #[] w fun e w' => e = .returned (.bool true) ∧ Below w.heap.size w w' := by
  have HT := Lib.hid hT
  clear hT
  go_enter Tryd.func24, Tryd.ntmps24
  go_wp2_with fail
  refine (sample_any w).mono ?_
  rintro e w0 ⟨b, rfl, hin, hb0⟩
  have hbA : Below w0.heap.size w0 (w0.alloc (.cells #[.slice (some ⟨b, 0, none⟩) 1 1, .slice (some ⟨b + 1, 0, none⟩) 4 4] 25)) := (Below.refl _ _).alloc (Nat.le_refl _) _
  have hrA := Row.new w0 25 [.slice (some ⟨b, 0, none⟩) 1 1, .slice (some ⟨b + 1, 0, none⟩) 4 4]
  have hF := Lib.hid (follows_any (w0.alloc (.cells #[.slice (some ⟨b, 0, none⟩) 1 1, .slice (some ⟨b + 1, 0, none⟩) 4 4] 25)))
  have HIN := Lib.hid (hin.on hbA)
  have HB := Lib.hid (hb0.trans (hbA.mono hb0.size))
  have HRA := Lib.hid hrA
  clear hin hb0 hbA hrA
  go_wp2_with fail
  refine hF.out.mono ?_
  rintro e w1 ⟨c, rfl, hfo, hb1⟩
  have hbP : Below w1.heap.size w1 (w1.alloc (.cells #[.slice (some ⟨c, 0, none⟩) 4 4] 28)) := (Below.refl _ _).alloc (Nat.le_refl _) _
  have hbA : Below (w0.alloc (.cells #[.slice (some ⟨b, 0, none⟩) 1 1, .slice (some ⟨b + 1, 0, none⟩) 4 4] 25)).heap.size (w0.alloc (.cells #[.slice (some ⟨b, 0, none⟩) 1 1, .slice (some ⟨b + 1, 0, none⟩) 4 4] 25)) (w1.alloc (.cells #[.slice (some ⟨c, 0, none⟩) 4 4] 28)) := hb1.trans (hbP.mono hb1.size)
  have hs2 : ASt w w0.heap.size w1.heap.size b c (w1.alloc (.cells #[.slice (some ⟨c, 0, none⟩) 4 4] 28)) :=
    ⟨HRA.out.below hbA HRA.out.lt, Row.new w1 28 _, HIN.out.on hbA, (hfo.below vNd_good hbP (Nat.le_refl _)).wide vNd_good (Nat.le_refl _) hbP.size, Utf8Tabs_below HT.out (HB.out.trans (hbA.mono HB.out.size)), HB.out.trans (hbA.mono HB.out.size)⟩
  obtain ⟨p, hp⟩ : ∃ p, p = w0.heap.size := ⟨_, rfl⟩
  obtain ⟨q, hq⟩ : ∃ q, q = w1.heap.size := ⟨_, rfl⟩
  obtain ⟨w2, hw2⟩ : ∃ w2, w2 = w1.alloc (.cells #[.slice (some ⟨c, 0, none⟩) 4 4] 28) := ⟨_, rfl⟩
  rw [← hw2, ← hp, ← hq] at hs2
  have H1 : Hid (∀ wx : World, ASt w p q b c wx → Calls Tryd.prog 29 #[.agg #[.slice (some ⟨b, 0, none⟩) 1 1, .slice (some ⟨b + 1, 0, none⟩) 4 4], .agg #[.slice (some ⟨c, 0, none⟩) 4 4], .string ⟨#[97, 112, 116]⟩] wx (BoOut (true, 0) wx)) := fun wx h => by rw [← al_1]; exact whole_any _ _ _ 1 4 4 0 sampleA followsN ⟨#[97, 112, 116]⟩ wx h.al h.tabs h.fo (by decide) (by decide)
  have H2 : Hid (∀ wx : World, ASt w p q b c wx → Calls Tryd.prog 29 #[.agg #[.slice (some ⟨b, 0, none⟩) 1 1, .slice (some ⟨b + 1, 0, none⟩) 4 4], .agg #[.slice (some ⟨c, 0, none⟩) 4 4], .string ⟨#[97, 112, 116, 97]⟩] wx (BoOut (false, 0) wx)) := fun wx h => by rw [← al_2]; exact whole_any _ _ _ 1 4 4 0 sampleA followsN ⟨#[97, 112, 116, 97]⟩ wx h.al h.tabs h.fo (by decide) (by decide)
  have H3 : Hid (∀ wx : World, ASt w p q b c wx → Calls Tryd.prog 27 #[.agg #[.slice (some ⟨b, 0, none⟩) 1 1, .slice (some ⟨b + 1, 0, none⟩) 4 4], .agg #[.slice (some ⟨c, 0, none⟩) 4 4], .string ⟨#[97, 112, 116, 97]⟩, .int .i64 0] wx (LiOut ([1, 2, 3], 0) wx)) := fun wx h => by rw [← al_3]; exact ends_op _ _ _ 1 4 4 0 sampleA followsN ⟨#[97, 112, 116, 97]⟩ 0 wx h.al h.tabs h.fo (by decide) (by decide)
  have H4 : Hid (∀ wx : World, ASt w p q b c wx → Calls Tryd.prog 30 #[.agg #[.slice (some ⟨b, 0, none⟩) 1 1, .slice (some ⟨b + 1, 0, none⟩) 4 4], .agg #[.slice (some ⟨c, 0, none⟩) 4 4], .string ⟨#[97, 112, 116, 97]⟩, .int .i64 3] wx (LiOut ([0], 0) wx)) := fun wx h => by rw [← al_4]; exact begins_op _ _ _ 1 4 4 0 sampleA followsN ⟨#[97, 112, 116, 97]⟩ 3 wx h.al h.tabs h.fo (by decide) (by decide)
  have H5 : Hid (∀ wx : World, ASt w p q b c wx → Calls Tryd.prog 36 #[.agg #[.slice (some ⟨b, 0, none⟩) 1 1, .slice (some ⟨b + 1, 0, none⟩) 4 4], .agg #[.slice (some ⟨c, 0, none⟩) 4 4], .string ⟨#[112, 116, 97, 112, 116, 97]⟩] wx (FirOut (some (2, 5), 0) wx)) := fun wx h => by rw [← al_5]; exact first_op _ _ _ 1 4 4 0 sampleA followsN ⟨#[112, 116, 97, 112, 116, 97]⟩ wx h.al h.tabs h.fo (by decide) (by decide)
  have H6 : Hid (∀ wx : World, ASt w p q b c wx → Calls Tryd.prog 32 #[.agg #[.slice (some ⟨b, 0, none⟩) 1 1, .slice (some ⟨b + 1, 0, none⟩) 4 4], .agg #[.slice (some ⟨c, 0, none⟩) 4 4], .string ⟨#[112, 116, 97, 112, 116, 97]⟩] wx (SpsOut ([(2, 5), (5, 6)], 0) wx)) := fun wx h => by rw [← al_6]; exact all_op _ _ _ 1 4 4 0 sampleA followsN ⟨#[112, 116, 97, 112, 116, 97]⟩ wx h.al h.tabs h.fo (by decide) (by decide)
  have H7 : Hid (∀ (g k : Nat) (wx : World), ASt w p q b c wx → Sl 5 vNd wx 0 wx.heap.size (some ⟨g, 0, none⟩) vowN → Sl 5 vNd wx 0 wx.heap.size (some ⟨k, 0, none⟩) conN → Calls Tryd.prog 31 #[.agg #[.slice (some ⟨b, 0, none⟩) 1 1, .slice (some ⟨b + 1, 0, none⟩) 4 4], .agg #[.slice (some ⟨g, 0, none⟩) 1 1], .agg #[.slice (some ⟨k, 0, none⟩) 1 1], .string ⟨#[97, 112, 97]⟩, .int .i64 1, .int .i64 1] wx (BoOut (true, 0) wx)) := fun g k wx h hv hc => by rw [← al_7]; exact between_any _ _ _ _ 1 4 1 1 0 sampleA vowN conN ⟨#[97, 112, 97]⟩ 1 1 wx h.al h.tabs hv hc (by decide) (by decide) (by decide)
  have H8 : Hid (∀ (g : Nat) (wx : World), ASt w p q b c wx → Sl 5 vNd wx 0 wx.heap.size (some ⟨g, 0, none⟩) vowN → Calls Tryd.prog 29 #[.agg #[.slice (some ⟨b, 0, none⟩) 1 1, .slice (some ⟨b + 1, 0, none⟩) 4 4], .agg #[.slice (some ⟨g, 0, none⟩) 1 1], .string ⟨#[120]⟩] wx (BoOut (false, 5) wx)) := fun g wx h hv => by rw [← al_8]; exact whole_any _ _ _ 1 4 1 0 sampleA vowN ⟨#[120]⟩ wx h.al h.tabs hv (by decide) (by decide)
  obtain ⟨a2, _⟩ := hs2.r1.cel (i := 0) rfl
  obtain ⟨d2, _⟩ := hs2.r1.cel (i := 1) rfl
  obtain ⟨f2, _⟩ := hs2.r2.cel (i := 0) rfl
  have l2 := hs2.r1.lt
  have k2 := hs2.r2.lt
  clear hF HIN HB HRA hfo hb1 hbP hbA HT
  subst hp hq
  go_upto_region 3 with (fail)
  rw [← hw2]
  generalize w0.heap.size = p at *
  generalize w1.heap.size = q at *
  clear hw2
  go_wp2_with fail
  refine (H1.out _ hs2).mono ?_
  rintro e w3 ⟨rfl, hb3⟩
  have hs3 := hs2.on hb3
  obtain ⟨a3, _⟩ := hs3.r1.cel (i := 0) rfl
  obtain ⟨d3, _⟩ := hs3.r1.cel (i := 1) rfl
  obtain ⟨f3, _⟩ := hs3.r2.cel (i := 0) rfl
  have l3 := hs3.r1.lt
  have k3 := hs3.r2.lt
  clear hs2 a2 d2 f2 l2 k2 hb3
  go_wp2_with fail
  refine (H2.out _ hs3).mono ?_
  rintro e w4 ⟨rfl, hb4⟩
  have hs4 := hs3.on hb4
  obtain ⟨a4, _⟩ := hs4.r1.cel (i := 0) rfl
  obtain ⟨d4, _⟩ := hs4.r1.cel (i := 1) rfl
  obtain ⟨f4, _⟩ := hs4.r2.cel (i := 0) rfl
  have l4 := hs4.r1.lt
  have k4 := hs4.r2.lt
  clear hs3 a3 d3 f3 l3 k3 hb4
  go_wp2_with fail
  refine (H3.out _ hs4).mono ?_
  rintro e w5 ⟨A3, c3, rfl, ho3, hb5⟩
  have hs5 := hs4.on hb5
  have OL_5 := Lib.hid ho3
  obtain ⟨a5, _⟩ := hs5.r1.cel (i := 0) rfl
  obtain ⟨d5, _⟩ := hs5.r1.cel (i := 1) rfl
  obtain ⟨f5, _⟩ := hs5.r2.cel (i := 0) rfl
  have l5 := hs5.r1.lt
  have k5 := hs5.r2.lt
  clear hs4 a4 d4 f4 l4 k4 hb5 ho3
  go_wp2_with fail
  refine (H4.out _ hs5).mono ?_
  rintro e w6 ⟨A4, c4, rfl, ho4, hb6⟩
  have hs6 := hs5.on hb6
  have OL_6 := Lib.hid (own_below OL_5.out hb6)
  have OM_6 := Lib.hid ho4
  obtain ⟨a6, _⟩ := hs6.r1.cel (i := 0) rfl
  obtain ⟨d6, _⟩ := hs6.r1.cel (i := 1) rfl
  obtain ⟨f6, _⟩ := hs6.r2.cel (i := 0) rfl
  have l6 := hs6.r1.lt
  have k6 := hs6.r2.lt
  clear hs5 a5 d5 f5 l5 k5 hb6 OL_5 ho4
  go_wp2_with fail
  refine (H5.out _ hs6).mono ?_
  rintro e w7 ⟨rfl, hb7⟩
  have hs7 := hs6.on hb7
  have OL_7 := Lib.hid (own_below OL_6.out hb7)
  have OM_7 := Lib.hid (own_below OM_6.out hb7)
  obtain ⟨a7, _⟩ := hs7.r1.cel (i := 0) rfl
  obtain ⟨d7, _⟩ := hs7.r1.cel (i := 1) rfl
  obtain ⟨f7, _⟩ := hs7.r2.cel (i := 0) rfl
  have l7 := hs7.r1.lt
  have k7 := hs7.r2.lt
  clear hs6 a6 d6 f6 l6 k6 hb7 OL_6 OM_6
  have hbF : Below w7.heap.size w7 (w7.alloc (.cells #[.int .i64 2, .int .i64 5] 62)) := (Below.refl _ _).alloc (Nat.le_refl _) _
  have hsF := hs7.on hbF
  have hrF := Row.new w7 62 [.int .i64 2, .int .i64 5]
  obtain ⟨aF, _⟩ := hsF.r1.cel (i := 0) rfl
  obtain ⟨dF, _⟩ := hsF.r1.cel (i := 1) rfl
  obtain ⟨fF, _⟩ := hsF.r2.cel (i := 0) rfl
  have lF := hsF.r1.lt
  have kF := hsF.r2.lt
  have HRF := Lib.hid hrF
  have OLF := Lib.hid (own_below OL_7.out hbF)
  have OMF := Lib.hid (own_below OM_7.out hbF)
  have HSF := Lib.hid (H6.out _ hsF)
  have HASF := Lib.hid hsF
  clear hs7 a7 d7 f7 l7 k7 hrF hsF hbF OL_7 OM_7
  simp only [Option.getD_some, Option.isSome_some]
  go_wp2_with fail
  refine HSF.out.mono ?_
  rintro e w8 ⟨A6, c6, rfl, ho6, hb8⟩
  have hs8 := HASF.out.on hb8
  have OL8 := Lib.hid (own_below OLF.out hb8)
  have OM8 := Lib.hid (own_below OMF.out hb8)
  have RF8 := Lib.hid (HRF.out.below hb8 HRF.out.lt)
  have OS8 := Lib.hid ho6
  have hbV : Below w8.heap.size w8 ((((w8.alloc (.cells #[.int .u8 3, .int .i32 0, .int .u32 1, .int .u32 0, .slice none 0 0] 44)).alloc (.cells #[.slice (some ⟨w8.heap.size, 0, none⟩) 1 1] 28)).alloc (.cells #[.int .u8 3, .int .i32 0, .int .u32 0, .int .u32 1, .slice none 0 0] 44)).alloc (.cells #[.slice (some ⟨w8.heap.size + 1 + 1, 0, none⟩) 1 1] 28)) :=
    ((((Below.refl _ _).alloc (Nat.le_refl _) _).alloc (by simp) _).alloc (by simp; omega) _).alloc (by simp; omega) _
  have rv : Row ((((w8.alloc (.cells #[.int .u8 3, .int .i32 0, .int .u32 1, .int .u32 0, .slice none 0 0] 44)).alloc (.cells #[.slice (some ⟨w8.heap.size, 0, none⟩) 1 1] 28)).alloc (.cells #[.int .u8 3, .int .i32 0, .int .u32 0, .int .u32 1, .slice none 0 0] 44)).alloc (.cells #[.slice (some ⟨w8.heap.size + 1 + 1, 0, none⟩) 1 1] 28)) w8.heap.size 44 [.int .u8 3, .int .i32 0, .int .u32 1, .int .u32 0, .slice none 0 0] := (((Row.new w8 44 _).alloc _).alloc _).alloc _
  have rpv : Row ((((w8.alloc (.cells #[.int .u8 3, .int .i32 0, .int .u32 1, .int .u32 0, .slice none 0 0] 44)).alloc (.cells #[.slice (some ⟨w8.heap.size, 0, none⟩) 1 1] 28)).alloc (.cells #[.int .u8 3, .int .i32 0, .int .u32 0, .int .u32 1, .slice none 0 0] 44)).alloc (.cells #[.slice (some ⟨w8.heap.size + 1 + 1, 0, none⟩) 1 1] 28)) (w8.heap.size + 1) 28 [.slice (some ⟨w8.heap.size, 0, none⟩) 1 1] := by
    have := ((Row.new (w8.alloc (.cells #[.int .u8 3, .int .i32 0, .int .u32 1, .int .u32 0, .slice none 0 0] 44)) 28 [.slice (some ⟨w8.heap.size, 0, none⟩) 1 1]).alloc (.cells #[.int .u8 3, .int .i32 0, .int .u32 0, .int .u32 1, .slice none 0 0] 44)).alloc (.cells #[.slice (some ⟨w8.heap.size + 1 + 1, 0, none⟩) 1 1] 28)
    simpa using this
  have rc : Row ((((w8.alloc (.cells #[.int .u8 3, .int .i32 0, .int .u32 1, .int .u32 0, .slice none 0 0] 44)).alloc (.cells #[.slice (some ⟨w8.heap.size, 0, none⟩) 1 1] 28)).alloc (.cells #[.int .u8 3, .int .i32 0, .int .u32 0, .int .u32 1, .slice none 0 0] 44)).alloc (.cells #[.slice (some ⟨w8.heap.size + 1 + 1, 0, none⟩) 1 1] 28)) (w8.heap.size + 1 + 1) 44 [.int .u8 3, .int .i32 0, .int .u32 0, .int .u32 1, .slice none 0 0] := by
    have := (Row.new ((w8.alloc (.cells #[.int .u8 3, .int .i32 0, .int .u32 1, .int .u32 0, .slice none 0 0] 44)).alloc (.cells #[.slice (some ⟨w8.heap.size, 0, none⟩) 1 1] 28)) 44 [.int .u8 3, .int .i32 0, .int .u32 0, .int .u32 1, .slice none 0 0]).alloc (.cells #[.slice (some ⟨w8.heap.size + 1 + 1, 0, none⟩) 1 1] 28)
    simpa using this
  have rpc : Row ((((w8.alloc (.cells #[.int .u8 3, .int .i32 0, .int .u32 1, .int .u32 0, .slice none 0 0] 44)).alloc (.cells #[.slice (some ⟨w8.heap.size, 0, none⟩) 1 1] 28)).alloc (.cells #[.int .u8 3, .int .i32 0, .int .u32 0, .int .u32 1, .slice none 0 0] 44)).alloc (.cells #[.slice (some ⟨w8.heap.size + 1 + 1, 0, none⟩) 1 1] 28)) (w8.heap.size + 1 + 1 + 1) 28 [.slice (some ⟨w8.heap.size + 1 + 1, 0, none⟩) 1 1] := by
    have := Row.new (((w8.alloc (.cells #[.int .u8 3, .int .i32 0, .int .u32 1, .int .u32 0, .slice none 0 0] 44)).alloc (.cells #[.slice (some ⟨w8.heap.size, 0, none⟩) 1 1] 28)).alloc (.cells #[.int .u8 3, .int .i32 0, .int .u32 0, .int .u32 1, .slice none 0 0] 44)) 28 [.slice (some ⟨w8.heap.size + 1 + 1, 0, none⟩) 1 1]
    simpa using this
  obtain ⟨w9, hw9⟩ : ∃ w9, w9 = ((((w8.alloc (.cells #[.int .u8 3, .int .i32 0, .int .u32 1, .int .u32 0, .slice none 0 0] 44)).alloc (.cells #[.slice (some ⟨w8.heap.size, 0, none⟩) 1 1] 28)).alloc (.cells #[.int .u8 3, .int .i32 0, .int .u32 0, .int .u32 1, .slice none 0 0] 44)).alloc (.cells #[.slice (some ⟨w8.heap.size + 1 + 1, 0, none⟩) 1 1] 28)) := ⟨_, rfl⟩
  rw [← hw9] at hbV rv rpv rc rpc
  have hs9 := hs8.on hbV
  have sv := one_node (x := ⟨3, 0, 1, 0, []⟩) rv (kinNd_of (by decide)) rfl
  have sc := one_node (x := ⟨3, 0, 0, 1, []⟩) rc (kinNd_of (by decide)) rfl
  have OL9 := Lib.hid (own_below OL8.out hbV)
  have OM9 := Lib.hid (own_below OM8.out hbV)
  have RF9 := Lib.hid (RF8.out.below hbV RF8.out.lt)
  have OS9 := Lib.hid (own_below OS8.out hbV)
  have HV9 := Lib.hid (H7.out _ _ _ hs9 sv sc)
  have HSV := Lib.hid sv
  have HS9 := Lib.hid hs9
  have HRPV := Lib.hid rpv
  obtain ⟨a9, _⟩ := hs9.r1.cel (i := 0) rfl
  obtain ⟨d9, _⟩ := hs9.r1.cel (i := 1) rfl
  obtain ⟨g9, _⟩ := rpv.cel (i := 0) rfl
  obtain ⟨k9, _⟩ := rpc.cel (i := 0) rfl
  have l9 := hs9.r1.lt
  have m9 := rpc.lt
  clear hs8 OL8 OM8 RF8 OS8 OLF OMF HRF HASF HSF ho6 hb8 hbV rv rpv rc rpc sv sc hs9 aF dF fF lF kF
  go_upto_region 11 with (fail)
  rw [← hw9]
  generalize w8.heap.size = z at *
  clear hw9
  go_wp2_with fail
  refine HV9.out.mono ?_
  rintro e w10 ⟨rfl, hb10⟩
  have hs10 := HS9.out.on hb10
  have sv10 := (HSV.out.below vNd_good hb10 (Nat.le_refl _)).wide vNd_good (Nat.le_refl _) hb10.size
  have HW := Lib.hid (H8.out _ _ hs10 sv10)
  have hp10 := HRPV.out.below hb10 HRPV.out.lt
  have OL10 := Lib.hid (own_below OL9.out hb10)
  have OM10 := Lib.hid (own_below OM9.out hb10)
  have RF10 := Lib.hid (RF9.out.below hb10 RF9.out.lt)
  have OS10 := Lib.hid (own_below OS9.out hb10)
  have HS10 := Lib.hid hs10
  obtain ⟨a10, _⟩ := hs10.r1.cel (i := 0) rfl
  obtain ⟨d10, _⟩ := hs10.r1.cel (i := 1) rfl
  obtain ⟨g10, _⟩ := hp10.cel (i := 0) rfl
  have l10 := hs10.r1.lt
  have m10 := hp10.lt
  clear hs10 sv10 hp10 HV9 HSV HS9 HRPV OL9 OM9 RF9 OS9 a9 d9 g9 k9 l9 m9 hb10
  go_wp2_with fail
  refine HW.out.mono ?_
  rintro e w11 ⟨rfl, hb11⟩
  have ol := own_below OL10.out hb11
  have om := own_below OM10.out hb11
  have rf := RF10.out.below hb11 RF10.out.lt
  have os := own_below OS10.out hb11
  have HB := Lib.hid (HS10.out.below.trans (hb11.mono HS10.out.below.size))
  obtain ⟨gl, _, e1, _, _, _, hl1⟩ := own_pos ol (by decide)
  injection e1 with e1 _ e2
  subst e1 e2
  obtain ⟨gm, _, e1, _, _, _, hl2⟩ := own_pos om (by decide)
  injection e1 with e1 _ e2
  subst e1 e2
  obtain ⟨gs, _, e1, _, _, _, hl3⟩ := own_pos os (by decide)
  injection e1 with e1 _ e2
  subst e1 e2
  obtain ⟨y0, _⟩ := own_cel ol (j := 0) (u := .int .i64 1) rfl
  obtain ⟨y1, _⟩ := own_cel ol (j := 2) (u := .int .i64 3) rfl
  obtain ⟨y2, _⟩ := own_cel om (j := 0) (u := .int .i64 0) rfl
  obtain ⟨y3, _⟩ := own_cel os (j := 2) (u := .int .i64 5) rfl
  obtain ⟨y4, _⟩ := own_cel os (j := 3) (u := .int .i64 6) rfl
  obtain ⟨y5, _⟩ := rf.cel (i := 0) rfl
  obtain ⟨y6, _⟩ := rf.cel (i := 1) rfl
  have hl4 := rf.lt
  clear ol om rf os HW OL10 OM10 RF10 OS10 HS10 a10 d10 g10 l10 m10 hb11 H1 H2 H3 H4 H5 H6 H7 H8
  go_wp2_with fail
  go_ret
  exact ⟨rfl, HB.out⟩
end Go.Proofs.YtimhlnndobfehaaDoor
