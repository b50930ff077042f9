/- WordParts: the walk, where both words may be. -/
import Derived.Test.YtfjccjjdgbkbiaaDoorWp20
import Derived.Test.YtfjccjjdgbkbiaaDoorWp29
namespace Go.Proofs.YtfjccjjdgbkbiaaDoor
open Go.RowKit
open Go.Lib (Utf8Tabs)
set_option linter.unusedVariables false

/-- Two strings in an array of a call's own. -/
theorem two_strs (w : World) (x y : ByteArray) (hx : x.size ≤ maxLen) (hy : y.size ≤ maxLen) :
    Sl 1 vStr (w.alloc (.cells #[.string x, .string y] 9)) 0 (w.alloc (.cells #[.string x, .string y] 9)).heap.size (some ⟨w.heap.size, 0, none⟩) [x, y] :=
  (Row.new w 9 [.string x, .string y]).sl (V := vStr) rfl (Nat.zero_le _) (by simp) (fun i z v hz hv => by
    match i, hz, hv with
    | 0, hz, hv => simp at hz hv; subst hz hv; exact ⟨rfl, hx⟩
    | 1, hz, hv => simp at hz hv; subst hz hv; exact ⟨rfl, hy⟩)

set_option maxHeartbeats 8000000 in
set_option maxRecDepth 100000 in
theorem parts_core (A1 A2 : Option Addr) (c1 c2 : Nat) (a : Al) (s v u x P B Z p1 p2 : ByteArray) (l m : List Int) (n : Nat) (cut : Int) (w : World) (hs0 : LSt A1 A2 c1 c2 a w (w.alloc (.cells #[.slice A1 a.feats.length c1, .slice A2 a.lets.length c2] 25)))
    (hkl : ∀ z ∈ l, kin .i32 z) (hl64 : l.length ≤ 64) (hm64 : m.length ≤ 64) (hnl : n ≤ l.length) (hnm : n ≤ m.length) (hst : ∀ (h1 : n < l.length) (h2 : n < m.length), l[n] ≠ m[n]) (hcut : i64 cut)
    (HAW : Hid (∀ wx : World, LSt A1 A2 c1 c2 a w wx → Calls Tryd.prog 9 #[] wx fun e w' => e = .returned (.bool true) ∧ Below wx.heap.size wx w'))
    (HL1 : Hid (∀ wx : World, LSt A1 A2 c1 c2 a w wx → Calls Tryd.prog 10 #[.agg #[.slice A1 a.feats.length c1, .slice A2 a.lets.length c2], .string s] wx (ReadOut (l, 0) wx)))
    (HL2 : Hid (∀ wx : World, LSt A1 A2 c1 c2 a w wx → Calls Tryd.prog 10 #[.agg #[.slice A1 a.feats.length c1, .slice A2 a.lets.length c2], .string v] wx (ReadOut (m, 0) wx)))
    (HTx : Hid (∀ (L : Option Addr) (c : Nat) (wx : World), LSt A1 A2 c1 c2 a w wx → Sl 1 (vInt .i32) wx 0 wx.heap.size L l → Calls Tryd.prog 12 #[.agg #[.slice A1 a.feats.length c1, .slice A2 a.lets.length c2], .slice L l.length c] wx (StrOut (s, 0) wx)))
    (HU1 : Hid (∀ wx : World, LSt A1 A2 c1 c2 a w wx → Calls Tryd.prog 16 #[.agg #[.slice A1 a.feats.length c1, .slice A2 a.lets.length c2], .string s] wx (StrOut (u, 0) wx)))
    (HU2 : Hid (∀ wx : World, LSt A1 A2 c1 c2 a w wx → Calls Tryd.prog 16 #[.agg #[.slice A1 a.feats.length c1, .slice A2 a.lets.length c2], .string v] wx (StrOut (x, 0) wx)))
    (HU3 : Hid (∀ wx : World, LSt A1 A2 c1 c2 a w wx → Calls Tryd.prog 16 #[.agg #[.slice A1 a.feats.length c1, .slice A2 a.lets.length c2], .string u] wx (StrOut (s, 0) wx)))
    (HC : Hid (∀ wx : World, LSt A1 A2 c1 c2 a w wx → Calls Tryd.prog 27 #[.agg #[.slice A1 a.feats.length c1, .slice A2 a.lets.length c2], .string s, .string v] wx (fun e w' => e = .returned (.tuple #[.int .i64 (n : Int), .int .i64 0]) ∧ Below wx.heap.size wx w')))
    (HP1 : Hid (∀ wx : World, LSt A1 A2 c1 c2 a w wx → Calls Tryd.prog 14 #[.agg #[.slice A1 a.feats.length c1, .slice A2 a.lets.length c2], .string s, .int .i64 0, .int .i64 (n : Int)] wx (StrOut (P, 0) wx)))
    (HP2 : Hid (∀ wx : World, LSt A1 A2 c1 c2 a w wx → Calls Tryd.prog 14 #[.agg #[.slice A1 a.feats.length c1, .slice A2 a.lets.length c2], .string v, .int .i64 0, .int .i64 (n : Int)] wx (StrOut (P, 0) wx)))
    (HJ1 : Hid (∀ wx : World, LSt A1 A2 c1 c2 a w wx → Calls Tryd.prog 28 #[.agg #[.slice A1 a.feats.length c1, .slice A2 a.lets.length c2], .slice (some ⟨wx.heap.size, 0, none⟩) 2 2] (wx.alloc (.cells #[.string s, .string v] 9)) (StrOut (B, 0) (wx.alloc (.cells #[.string s, .string v] 9)))))
    (HU4 : Hid (∀ wx : World, LSt A1 A2 c1 c2 a w wx → l.length + m.length ≤ 64 → Calls Tryd.prog 16 #[.agg #[.slice A1 a.feats.length c1, .slice A2 a.lets.length c2], .string B] wx (StrOut (Z, 0) wx)))
    (HJ2 : Hid (∀ wx : World, LSt A1 A2 c1 c2 a w wx → l.length + m.length ≤ 64 → Calls Tryd.prog 28 #[.agg #[.slice A1 a.feats.length c1, .slice A2 a.lets.length c2], .slice (some ⟨wx.heap.size, 0, none⟩) 2 2] (wx.alloc (.cells #[.string x, .string u] 9)) (StrOut (Z, 0) (wx.alloc (.cells #[.string x, .string u] 9)))))
    (HP3 : Hid (∀ wx : World, LSt A1 A2 c1 c2 a w wx → 0 ≤ cut → cut ≤ (l.length : Int) → Calls Tryd.prog 14 #[.agg #[.slice A1 a.feats.length c1, .slice A2 a.lets.length c2], .string s, .int .i64 0, .int .i64 cut] wx (StrOut (p1, 0) wx)))
    (HP4 : Hid (∀ wx : World, LSt A1 A2 c1 c2 a w wx → 0 ≤ cut → cut ≤ (l.length : Int) → Calls Tryd.prog 14 #[.agg #[.slice A1 a.feats.length c1, .slice A2 a.lets.length c2], .string s, .int .i64 cut, .int .i64 (l.length : Int)] wx (StrOut (p2, 0) wx)))
    (HJ3 : Hid (∀ wx : World, LSt A1 A2 c1 c2 a w wx → 0 ≤ cut → cut ≤ (l.length : Int) → Calls Tryd.prog 28 #[.agg #[.slice A1 a.feats.length c1, .slice A2 a.lets.length c2], .slice (some ⟨wx.heap.size, 0, none⟩) 2 2] (wx.alloc (.cells #[.string p1, .string p2] 9)) (StrOut (s, 0) (wx.alloc (.cells #[.string p1, .string p2] 9)))))
    : Calls Tryd.prog 5 #[.agg #[.slice A1 a.feats.length c1, .slice A2 a.lets.length c2], .string s, .string v, .int .i64 cut] w fun e w' => e = .returned (.bool true) ∧ Below w.heap.size w w' := by
  have HK := Lib.hid hkl
  have HSTOP := Lib.hid hst
  have t1 : (s.toList != s.toList) = false := by simp
  have t2 : (P.toList != P.toList) = false := by simp
  have t3 : (Z.toList != Z.toList) = false := by simp
  have t4 : (s.toList == s.toList) = true := by simp
  unfold i64 at hcut
  clear hkl hst
  go_enter Tryd.func5, Tryd.ntmps5
  go_wp2_with fail
  refine (HAW.out _ hs0).mono ?_
  rintro e w1 ⟨rfl, hb1⟩
  have hs1 := hs0.on hb1
  obtain ⟨ha1, _⟩ := hs1.row.cel (i := 0) rfl
  obtain ⟨hq1, _⟩ := hs1.row.cel (i := 1) rfl
  have hl1 := hs1.row.lt
  clear hs0 hb1 
  go_wp2_with fail
  refine (HL1.out _ hs1).mono ?_
  rintro e w2 ⟨X, cx, rfl, hx2, hb2⟩
  have hs2 := hs1.on hb2
  obtain ⟨ha2, _⟩ := hs2.row.cel (i := 0) rfl
  obtain ⟨hq2, _⟩ := hs2.row.cel (i := 1) rfl
  have hl2 := hs2.row.lt
  clear hs1 ha1 hq1 hl1 
  go_wp2_with fail
  refine (HL2.out _ hs2).mono ?_
  rintro e w3 ⟨Y, cy, rfl, hy3, hb3⟩
  have hs3 := hs2.on hb3
  obtain ⟨ha3, _⟩ := hs3.row.cel (i := 0) rfl
  obtain ⟨hq3, _⟩ := hs3.row.cel (i := 1) rfl
  have hl3 := hs3.row.lt
  clear hs2 ha2 hq2 hl2 
  have hx3 := own_below hx2 hb3
  have hsl := (runes_slice hx3 HK.out).wide (vInt_good _) (Nat.zero_le _) (Nat.le_refl _)
  have HX3 := Lib.hid hx3
  have HY3 := Lib.hid hy3
  have HSL := Lib.hid hsl
  clear hx2 hx3 hy3 hsl hb2 hb3 HK
  simp only at HX3 HY3
  go_wp2_with fail
  refine (HTx.out X cx _ hs3 HSL.out).mono ?_
  rintro e w4 ⟨rfl, hb4⟩
  have hs4 := hs3.on hb4
  obtain ⟨ha4, _⟩ := hs4.row.cel (i := 0) rfl
  obtain ⟨hq4, _⟩ := hs4.row.cel (i := 1) rfl
  have hl4 := hs4.row.lt
  have HB4 := Lib.hid (hb4)
  clear hs3 ha3 hq3 hl3 hb4 
  go_wp2_with fail
  refine (HU1.out _ hs4).mono ?_
  rintro e w5 ⟨rfl, hb5⟩
  have hs5 := hs4.on hb5
  obtain ⟨ha5, _⟩ := hs5.row.cel (i := 0) rfl
  obtain ⟨hq5, _⟩ := hs5.row.cel (i := 1) rfl
  have hl5 := hs5.row.lt
  have HB5 := Lib.hid (HB4.out.trans (hb5.mono HB4.out.size))
  clear hs4 ha4 hq4 hl4 hb5 HB4
  go_wp2_with fail
  refine (HU2.out _ hs5).mono ?_
  rintro e w6 ⟨rfl, hb6⟩
  have hs6 := hs5.on hb6
  obtain ⟨ha6, _⟩ := hs6.row.cel (i := 0) rfl
  obtain ⟨hq6, _⟩ := hs6.row.cel (i := 1) rfl
  have hl6 := hs6.row.lt
  have HB6 := Lib.hid (HB5.out.trans (hb6.mono HB5.out.size))
  clear hs5 ha5 hq5 hl5 hb6 HB5
  go_wp2_with fail
  refine (HU3.out _ hs6).mono ?_
  rintro e w7 ⟨rfl, hb7⟩
  have hs7 := hs6.on hb7
  obtain ⟨ha7, _⟩ := hs7.row.cel (i := 0) rfl
  obtain ⟨hq7, _⟩ := hs7.row.cel (i := 1) rfl
  have hl7 := hs7.row.lt
  have HB7 := Lib.hid (HB6.out.trans (hb7.mono HB6.out.size))
  clear hs6 ha6 hq6 hl6 hb7 HB6
  go_wp2_with fail
  refine (HC.out _ hs7).mono ?_
  rintro e w8 ⟨rfl, hb8⟩
  have hs8 := hs7.on hb8
  obtain ⟨ha8, _⟩ := hs8.row.cel (i := 0) rfl
  obtain ⟨hq8, _⟩ := hs8.row.cel (i := 1) rfl
  have hl8 := hs8.row.lt
  have HB8 := Lib.hid (HB7.out.trans (hb8.mono HB7.out.size))
  clear hs7 ha7 hq7 hl7 hb8 HB7
  go_wp2_with fail
  refine (HP1.out _ hs8).mono ?_
  rintro e w9 ⟨rfl, hb9⟩
  have hs9 := hs8.on hb9
  obtain ⟨ha9, _⟩ := hs9.row.cel (i := 0) rfl
  obtain ⟨hq9, _⟩ := hs9.row.cel (i := 1) rfl
  have hl9 := hs9.row.lt
  have HB9 := Lib.hid (HB8.out.trans (hb9.mono HB8.out.size))
  clear hs8 ha8 hq8 hl8 hb9 HB8
  go_wp2_with fail
  refine (HP2.out _ hs9).mono ?_
  rintro e w10 ⟨rfl, hb10⟩
  have hs10 := hs9.on hb10
  obtain ⟨ha10, _⟩ := hs10.row.cel (i := 0) rfl
  obtain ⟨hq10, _⟩ := hs10.row.cel (i := 1) rfl
  have hl10 := hs10.row.lt
  have HB10 := Lib.hid (HB9.out.trans (hb10.mono HB9.out.size))
  clear hs9 ha9 hq9 hl9 hb10 HB9
  have hx := own_below HX3.out HB10.out
  have hy := own_below HY3.out HB10.out
  have tri : (n < l.length ∧ n < m.length) ∨ (n < l.length ∧ m.length ≤ n) ∨ l.length ≤ n := by omega
  clear HX3 HY3 HSL HTx HU1 HU2 HU3 HL1 HL2 HC HP1 HP2
  rcases tri with ⟨k1, k2⟩ | ⟨k1, k2⟩ | k1
  focus
    obtain ⟨g1, e1, _, hg1, ⟨x0, y0⟩⟩ := own_rune hx k1
    obtain ⟨g2, e2, _, hg2, ⟨x1, y1⟩⟩ := own_rune hy k2
    subst e1 e2
    have hne : (l[n] == m[n]) = false := by rw [beq_eq_false_iff_ne]; exact HSTOP.out k1 k2
    generalize l[n] = z1 at *
    generalize m[n] = z2 at *
    have j1 : 0 ≤ (n : Int) := by omega
    have j2 : (n : Int) < (l.length : Int) := by omega
    have j3 : (n : Int) < (m.length : Int) := by omega
    have d1 : decide ((n : Int) < (l.length : Int)) = true := decide_eq_true j2
    have d2 : decide ((n : Int) < (m.length : Int)) = true := decide_eq_true j3
    clear hx hy HSTOP
    go_wp2_with fail
    go_quiet (fail)
    clear x0 y0 x1 y1 hne j1 j2 j3 d1 d2 k1 k2 hg1 hg2
  rotate_left
  focus
    have d1 : decide (n < l.length) = true := decide_eq_true (by omega)
    have d2 : decide (n < m.length) = false := decide_eq_false (by omega)
    clear hx hy HSTOP
    go_wp2_with fail
    go_quiet (fail)
    clear d1 d2 k1 k2
  rotate_left
  focus
    have d1 : decide (n < l.length) = false := decide_eq_false (by omega)
    clear hx hy HSTOP
    go_wp2_with fail
    go_quiet (fail)
    clear d1 k1
  all_goals
    go_wp2_with fail
    have hd := hs10.on (below_drewN (Below.refl _ _) nq)
    refine (HJ1.out _ hd).mono ?_
    rintro e w11 ⟨rfl, hb11⟩
    have hs11 := (hd.on ((Below.refl _ _).alloc (Nat.le_refl _) _)).on hb11
    obtain ⟨ha11, _⟩ := hs11.row.cel (i := 0) rfl
    obtain ⟨hq11, _⟩ := hs11.row.cel (i := 1) rfl
    have hl11 := hs11.row.lt
    clear hs10 ha10 hq10 hl10 hb11 hd HJ1 HB10
    by_cases hsm : l.length + m.length ≤ 64
    · have hsmI : (l.length : Int) + (m.length : Int) ≤ 64 := by omega
      go_wp2_with fail
      refine (HU4.out _ hs11 hsm).mono ?_
      rintro e w12 ⟨rfl, hb12⟩
      have hs12 := hs11.on hb12
      obtain ⟨ha12, _⟩ := hs12.row.cel (i := 0) rfl
      obtain ⟨hq12, _⟩ := hs12.row.cel (i := 1) rfl
      have hl12 := hs12.row.lt
      clear hs11 ha11 hq11 hl11 hb12
      go_wp2_with fail
      refine (HJ2.out _ hs12 hsm).mono ?_
      rintro e w13 ⟨rfl, hb13⟩
      have hs13 := (hs12.on ((Below.refl _ _).alloc (Nat.le_refl _) _)).on hb13
      obtain ⟨ha13, _⟩ := hs13.row.cel (i := 0) rfl
      obtain ⟨hq13, _⟩ := hs13.row.cel (i := 1) rfl
      have hl13 := hs13.row.lt
      clear hs12 ha12 hq12 hl12 hb13 hsm HU4 HJ2
      by_cases hc1 : cut < 0
      · have HB := Lib.hid hs13.below
        go_wp2_with fail
        go_ret
        exact ⟨rfl, HB.out⟩
      · have hc1 : 0 ≤ cut := by omega
        by_cases hc2 : (l.length : Int) < cut
        · have HB := Lib.hid hs13.below
          go_wp2_with fail
          go_ret
          exact ⟨rfl, HB.out⟩
        · have hc2 : cut ≤ (l.length : Int) := by omega
          go_wp2_with fail
          refine (HP3.out _ hs13 hc1 hc2).mono ?_
          rintro e w14 ⟨rfl, hb14⟩
          have hs14 := hs13.on hb14
          obtain ⟨ha14, _⟩ := hs14.row.cel (i := 0) rfl
          obtain ⟨hq14, _⟩ := hs14.row.cel (i := 1) rfl
          have hl14 := hs14.row.lt
          clear hs13 ha13 hq13 hl13 hb14
          go_wp2_with fail
          refine (HP4.out _ hs14 hc1 hc2).mono ?_
          rintro e w15 ⟨rfl, hb15⟩
          have hs15 := hs14.on hb15
          obtain ⟨ha15, _⟩ := hs15.row.cel (i := 0) rfl
          obtain ⟨hq15, _⟩ := hs15.row.cel (i := 1) rfl
          have hl15 := hs15.row.lt
          clear hs14 ha14 hq14 hl14 hb15
          go_wp2_with fail
          refine (HJ3.out _ hs15 hc1 hc2).mono ?_
          rintro e w16 ⟨rfl, hb16⟩
          have hs16 := (hs15.on ((Below.refl _ _).alloc (Nat.le_refl _) _)).on hb16
          obtain ⟨ha16, _⟩ := hs16.row.cel (i := 0) rfl
          obtain ⟨hq16, _⟩ := hs16.row.cel (i := 1) rfl
          have hl16 := hs16.row.lt
          clear hs15 ha15 hq15 hl15 hb16
          have HB := Lib.hid hs16.below
          clear hs16
          go_wp2_with fail
          go_ret
          exact ⟨rfl, HB.out⟩
    · have hsmI : ¬ (l.length : Int) + (m.length : Int) ≤ 64 := by omega
      clear hsm HU4 HJ2
      by_cases hc1 : cut < 0
      · have HB := Lib.hid hs11.below
        go_wp2_with fail
        go_ret
        exact ⟨rfl, HB.out⟩
      · have hc1 : 0 ≤ cut := by omega
        by_cases hc2 : (l.length : Int) < cut
        · have HB := Lib.hid hs11.below
          go_wp2_with fail
          go_ret
          exact ⟨rfl, HB.out⟩
        · have hc2 : cut ≤ (l.length : Int) := by omega
          go_wp2_with fail
          refine (HP3.out _ hs11 hc1 hc2).mono ?_
          rintro e w12 ⟨rfl, hb12⟩
          have hs12 := hs11.on hb12
          obtain ⟨ha12, _⟩ := hs12.row.cel (i := 0) rfl
          obtain ⟨hq12, _⟩ := hs12.row.cel (i := 1) rfl
          have hl12 := hs12.row.lt
          clear hs11 ha11 hq11 hl11 hb12
          go_wp2_with fail
          refine (HP4.out _ hs12 hc1 hc2).mono ?_
          rintro e w13 ⟨rfl, hb13⟩
          have hs13 := hs12.on hb13
          obtain ⟨ha13, _⟩ := hs13.row.cel (i := 0) rfl
          obtain ⟨hq13, _⟩ := hs13.row.cel (i := 1) rfl
          have hl13 := hs13.row.lt
          clear hs12 ha12 hq12 hl12 hb13
          go_wp2_with fail
          refine (HJ3.out _ hs13 hc1 hc2).mono ?_
          rintro e w14 ⟨rfl, hb14⟩
          have hs14 := (hs13.on ((Below.refl _ _).alloc (Nat.le_refl _) _)).on hb14
          obtain ⟨ha14, _⟩ := hs14.row.cel (i := 0) rfl
          obtain ⟨hq14, _⟩ := hs14.row.cel (i := 1) rfl
          have hl14 := hs14.row.lt
          clear hs13 ha13 hq13 hl13 hb14
          have HB := Lib.hid hs14.below
          clear hs14
          go_wp2_with fail
          go_ret
          exact ⟨rfl, HB.out⟩
end Go.Proofs.YtfjccjjdgbkbiaaDoor
