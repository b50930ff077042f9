/- WordRow: the walk, over named results. -/
import Derived.Test.YtfjccjjdgbkbiaaDoorWr25
import Derived.Test.YtfjccjjdgbkbiaaDoorWr26
namespace Go.Proofs.YtfjccjjdgbkbiaaDoor
open Go.RowKit
open Go.Lib (Utf8Tabs)
set_option linter.unusedVariables false

theorem blk_own {A : Option Addr} {k : Nat} (n c : Nat) (h : Blk A k) : (Value.slice A n c).ownBlock = some k := by
  obtain ⟨ad, rfl, rfl⟩ := h
  rfl
theorem Sl.pre {α : Type} {sz : Nat} {V : Rep α} {w : World} {lo hi : Nat} {A : Option Addr} {xs ys : List α} (h : Sl sz V w lo hi A (xs ++ ys)) : Sl sz V w lo hi A xs := fun hn => by
  obtain ⟨b, off, e, h1, h2, hc⟩ := h (by rw [List.length_append]; omega)
  exact ⟨b, off, e, h1, h2, fun i x hx => hc i x (by rw [List.getElem?_append_left (List.getElem?_eq_some_iff.1 hx).1]; exact hx)⟩
theorem strs_max {w : World} {lo hi : Nat} {A : Option Addr} {l : List ByteArray} (h : Sl 1 vStr w lo hi A l) : ∀ x ∈ l, x.size ≤ maxLen := fun x hx => by
  obtain ⟨i, hi', rfl⟩ := List.getElem_of_mem hx
  obtain ⟨_, _, _, _, _, _, h⟩ := strs_at h hi'
  exact h
def OwnM (l : List ByteArray) (base g c : Nat) (wx : World) : Prop := wx.ownsRow base 9 1 (.slice (some ⟨g, 0, none⟩) (l.length + 1) c) (l.length + 1) (strVs (l ++ [markB]))
theorem OwnM.sl {l : List ByteArray} {base g c : Nat} {wx : World} (h : OwnM l base g c wx) (hx : ∀ x ∈ l, x.size ≤ maxLen) : Sl 1 vStr wx 0 wx.heap.size (some ⟨g, 0, none⟩) l := by
  have e : l.length + 1 = (l ++ [markB]).length := by simp
  unfold OwnM at h
  rw [e] at h
  have := strs_slice h (fun x hm => by
    rcases List.mem_append.1 hm with hm | hm
    · exact hx x hm
    · rw [List.mem_singleton.1 hm]; decide)
  exact (this.pre).wide vStr_good (Nat.zero_le _) (Nat.le_refl _)
set_option maxHeartbeats 8000000 in
set_option maxRecDepth 100000 in
theorem row_core (A1 A2 AL : Option Addr) (c1 c2 cl : Nat) (a : Al) (x y : ByteArray) (l m : List ByteArray) (p e r f em ej : Int) (J : ByteArray) (w : World) (hs0 : LSt A1 A2 c1 c2 a w (w.alloc (.cells #[.slice A1 a.feats.length c1, .slice A2 a.lets.length c2] 25)))
    (hsl : Sl 1 vStr w 0 w.heap.size AL l) (hl : l.length ≤ 9223372036854775807) (h16 : l.length * 16 ≤ 140737488351232) (hm : m.length ≤ 4096) (HMS : Hid (∀ s ∈ m, s.size ≤ maxLen))
    (HAW : Hid (∀ wx : World, LSt A1 A2 c1 c2 a w wx → Calls Tryd.prog 9 #[] wx fun e w' => e = .returned (.bool true) ∧ Below wx.heap.size wx w'))
    (HC1 : Hid (∀ wx : World, LSt A1 A2 c1 c2 a w wx → Calls Tryd.prog 30 #[.agg #[.slice A1 a.feats.length c1, .slice A2 a.lets.length c2], .string x, .string y] wx (IntOut (p, e) wx)))
    (HC2 : Hid (∀ wx : World, LSt A1 A2 c1 c2 a w wx → Calls Tryd.prog 34 #[.agg #[.slice A1 a.feats.length c1, .slice A2 a.lets.length c2], .string x, .string y] wx (IntOut (p, e) wx)))
    (HC3 : Hid (∀ wx : World, LSt A1 A2 c1 c2 a w wx → Calls Tryd.prog 27 #[.agg #[.slice A1 a.feats.length c1, .slice A2 a.lets.length c2], .string x, .string y] wx (IntOut (r, f) wx)))
    (HC4 : Hid (∀ wx : World, LSt A1 A2 c1 c2 a w wx → Calls Tryd.prog 35 #[.agg #[.slice A1 a.feats.length c1, .slice A2 a.lets.length c2], .string x, .string y] wx (IntOut (r, f) wx)))
    (HS1 : Hid (∀ (B : Option Addr) (d : Nat) (wx : World), LSt A1 A2 c1 c2 a w wx → Sl 1 vStr wx 0 wx.heap.size B l → Calls Tryd.prog 31 #[.agg #[.slice A1 a.feats.length c1, .slice A2 a.lets.length c2], .slice B l.length d] wx (StrsOut (m, em) wx)))
    (HS2 : Hid (∀ (B : Option Addr) (d : Nat) (wx : World), LSt A1 A2 c1 c2 a w wx → Sl 1 vStr wx 0 wx.heap.size B l → Calls Tryd.prog 36 #[.agg #[.slice A1 a.feats.length c1, .slice A2 a.lets.length c2], .slice B l.length d] wx (StrsOut (m, em) wx)))
    (HJ1 : Hid (∀ (B : Option Addr) (d : Nat) (wx : World), LSt A1 A2 c1 c2 a w wx → Sl 1 vStr wx 0 wx.heap.size B l → Calls Tryd.prog 28 #[.agg #[.slice A1 a.feats.length c1, .slice A2 a.lets.length c2], .slice B l.length d] wx (StrOut (J, ej) wx)))
    (HJ2 : Hid (∀ (B : Option Addr) (d : Nat) (wx : World), LSt A1 A2 c1 c2 a w wx → Sl 1 vStr wx 0 wx.heap.size B l → Calls Tryd.prog 37 #[.agg #[.slice A1 a.feats.length c1, .slice A2 a.lets.length c2], .slice B l.length d] wx (StrOut (J, ej) wx)))
    : Calls Tryd.prog 8 #[.agg #[.slice A1 a.feats.length c1, .slice A2 a.lets.length c2], .string x, .string y, .slice AL l.length cl] w fun e w' => e = .returned (.bool true) ∧ Below w.heap.size w w' := by
  have HSL := Lib.hid hsl
  clear hsl
  go_enter Tryd.func8, Tryd.ntmps8
  go_wp2_with fail
  refine (HAW.out _ hs0).mono ?_
  rintro e0 w1 ⟨rfl, hb1⟩
  have hs1 := hs0.on hb1
  clear hs0 hb1 HAW
  have HSM := Lib.hid (strs_max HSL.out)
  go_upto_region 4 with (fail)
  by_cases hbig : 200 < l.length ∧ l.length ≤ 4096
  · have HB := Lib.hid hs1.below
    have h2 : (200 : Int) < (l.length : Int) := by omega
    have h3 : (l.length : Int) ≤ 4096 := by omega
    clear hs1
    go_wp2_with fail
    go_ret
    exact ⟨rfl, HB.out⟩
  go_cut [40] (fun v wc => v = .bool false ∧ wc = w1)
  case first =>
    by_cases h200 : 200 < l.length
    · have h2 : (200 : Int) < (l.length : Int) := by omega
      have h3 : ¬ (l.length : Int) ≤ 4096 := by omega
      go_wp2_with fail
      go_meet
      case rel => exact ⟨rfl, rfl⟩
    · have h2 : ¬ (200 : Int) < (l.length : Int) := by omega
      go_wp2_with fail
      go_meet
      case rel => exact ⟨rfl, rfl⟩
  case rest =>
  obtain ⟨rfl, rfl⟩ := hcut
  have HLENT := Lib.hid (lent_any AL cl 0 l _ (hs1.slice HSL.out) h16 (Nat.zero_le _))
  go_wp2_with fail
  refine HLENT.out.mono ?_
  rintro e0 w2 ⟨g, c, rfl, hc, hown2, hb2⟩
  have hs2 := hs1.on hb2
  have HM2 : Hid (OwnM l wc.heap.size g c w2) := hown2
  clear hown2 hs1 HLENT hb2
  obtain ⟨a2, _⟩ := hs2.row.cel (i := 0) rfl
  obtain ⟨q2, _⟩ := hs2.row.cel (i := 1) rfl
  have l2 := hs2.row.lt
  go_wp2_with fail
  refine (HC1.out _ hs2).mono ?_
  rintro e0 w3 ⟨rfl, hb3⟩
  have hs3 := hs2.on hb3
  have HM3 : Hid (OwnM l wc.heap.size g c w3) := own_below HM2.out hb3
  obtain ⟨a3, _⟩ := hs3.row.cel (i := 0) rfl
  obtain ⟨q3, _⟩ := hs3.row.cel (i := 1) rfl
  have l3 := hs3.row.lt
  clear hs2 a2 q2 l2 HM2 hb3
  go_wp2_with fail
  refine (HC2.out _ hs3).mono ?_
  rintro e0 w4 ⟨rfl, hb4⟩
  have hs4 := hs3.on hb4
  have HM4 : Hid (OwnM l wc.heap.size g c w4) := own_below HM3.out hb4
  obtain ⟨a4, _⟩ := hs4.row.cel (i := 0) rfl
  obtain ⟨q4, _⟩ := hs4.row.cel (i := 1) rfl
  have l4 := hs4.row.lt
  clear hs3 a3 q3 l3 HM3 hb4
  go_wp2_with fail
  refine (HC3.out _ hs4).mono ?_
  rintro e0 w5 ⟨rfl, hb5⟩
  have hs5 := hs4.on hb5
  have HM5 : Hid (OwnM l wc.heap.size g c w5) := own_below HM4.out hb5
  obtain ⟨a5, _⟩ := hs5.row.cel (i := 0) rfl
  obtain ⟨q5, _⟩ := hs5.row.cel (i := 1) rfl
  have l5 := hs5.row.lt
  clear hs4 a4 q4 l4 HM4 hb5
  go_wp2_with fail
  refine (HC4.out _ hs5).mono ?_
  rintro e0 w6 ⟨rfl, hb6⟩
  have hs6 := hs5.on hb6
  have HM6 : Hid (OwnM l wc.heap.size g c w6) := own_below HM5.out hb6
  obtain ⟨a6, _⟩ := hs6.row.cel (i := 0) rfl
  obtain ⟨q6, _⟩ := hs6.row.cel (i := 1) rfl
  have l6 := hs6.row.lt
  clear hs5 a5 q5 l5 HM5 hb6 HC1 HC2 HC3 HC4
  have HST6 := Lib.hid hs6
  go_wp2_with fail
  refine (HS1.out _ _ _ hs6 (HM6.out.sl HSM.out)).mono ?_
  rintro e0 w7 ⟨S, cs, rfl, hS7, hb7⟩
  have hs7 := hs6.on hb7
  have HM7 : Hid (OwnM l wc.heap.size g c w7) := own_below HM6.out hb7
  obtain ⟨a7, _⟩ := hs7.row.cel (i := 0) rfl
  obtain ⟨q7, _⟩ := hs7.row.cel (i := 1) rfl
  have l7 := hs7.row.lt
  have HS7 := Lib.hid hS7
  have HB7 := Lib.hid hb7
  clear hs6 a6 q6 l6 hS7 hb7
  go_wp2_with fail
  refine (HS2.out _ _ _ hs7 (hs7.slice HSL.out)).mono ?_
  rintro e0 w8 ⟨R, cr, rfl, hR8, hb8⟩
  have hs8 := hs7.on hb8
  have HM8 : Hid (OwnM l wc.heap.size g c w8) := own_below HM7.out hb8
  have HS8 := Lib.hid (own_below HS7.out hb8)
  obtain ⟨a8, _⟩ := hs8.row.cel (i := 0) rfl
  obtain ⟨q8, _⟩ := hs8.row.cel (i := 1) rfl
  have l8 := hs8.row.lt
  have HR8 := Lib.hid hR8
  have HB8 := Lib.hid hb8
  clear hs7 a7 q7 l7 HM7 hR8 hb8
  go_wp2_with fail
  refine (HJ1.out _ _ _ hs8 (HM8.out.sl HSM.out)).mono ?_
  rintro e0 w9 ⟨rfl, hb9⟩
  have hs9 := hs8.on hb9
  have HM9 : Hid (OwnM l wc.heap.size g c w9) := own_below HM8.out hb9
  have HS9 := Lib.hid (own_below HS8.out hb9)
  have HR9 := Lib.hid (own_below HR8.out hb9)
  obtain ⟨a9, _⟩ := hs9.row.cel (i := 0) rfl
  obtain ⟨q9, _⟩ := hs9.row.cel (i := 1) rfl
  have l9 := hs9.row.lt
  have HB9 := Lib.hid hb9
  clear hs8 a8 q8 l8 HM8 HS8 HR8 hb9
  go_wp2_with fail
  refine (HJ2.out _ _ _ hs9 (hs9.slice HSL.out)).mono ?_
  rintro e0 w10 ⟨rfl, hb10⟩
  have hs10 := hs9.on hb10
  have HM10 : Hid (OwnM l wc.heap.size g c w10) := own_below HM9.out hb10
  have HS10 := Lib.hid (own_below HS9.out hb10)
  have HR10 := Lib.hid (own_below HR9.out hb10)
  obtain ⟨a10, _⟩ := hs10.row.cel (i := 0) rfl
  obtain ⟨q10, _⟩ := hs10.row.cel (i := 1) rfl
  have l10 := hs10.row.lt
  have HB10 := Lib.hid hb10
  clear hs9 a9 q9 l9 HM9 HS9 HR9 hb10 HJ1 HJ2 HS2
  have t1 : (e == e) = true := by simp
  have t2 : (f == f) = true := by simp
  have t3 : (em == em) = true := by simp
  have t4 : (ej == ej) = true := by simp
  have t5 : (p == p) = true := by simp
  have t6 : (r == r) = true := by simp
  have t7 : (J.toList == J.toList) = true := by simp
  have HST10 := Lib.hid hs10
  have HSW := Lib.hid (sameWords_yes S R cs cr _ _ _ _ m w10 (strs_slice HS10.out HMS.out) (strs_slice HR10.out HMS.out) (by omega))
  clear hs10
  go_wp2_with fail
  refine HSW.out.mono ?_
  rintro e0 w11' ⟨rfl, nd, rfl⟩
  go_wp2_with fail
  refine (spoilW_any _ S m.length cs _ _ (own_below HS10.out (below_drewN (Below.refl _ _) nd)) hm (Nat.le_trans HB7.out.size (Nat.le_trans HB8.out.size (Nat.le_trans HB9.out.size HB10.out.size)))).mono ?_
  rintro e0 w11 ⟨rfl, hF0⟩
  have hF : Fr (Blk S) w10 w11 := (Fr.of_below (S := Blk S) (below_drewN (Below.refl _ w10) nd)).trans hF0 (fun _ _ h => h)
  have hge : ∀ k, Blk S k → w6.heap.size ≤ k := fun k hk => (HS10.out.lt k (blk_own _ _ hk)).1
  have z7 := HB7.out.size
  have z8 := HB8.out.size
  have z9 := HB9.out.size
  have z10 := HB10.out.size
  have hB11 : Below w6.heap.size w6 w11 := (((HB7.out.trans (HB8.out.mono z7)).trans (HB9.out.mono (by omega))).trans (HB10.out.mono (by omega))).trans (hF.below hge (by omega))
  have hs11 := HST6.out.on hB11
  have HM11 : Hid (OwnM l wc.heap.size g c w11) := own_fr HM10.out hF (fun k hk hb => by
    have h1 := (HM6.out.lt k hk).2
    have h2 := hge k hb
    omega)
  have HR11 := Lib.hid (own_fr HR10.out hF (fun k hk hb => by
    have h1 := (HR10.out.lt k hk).1
    have h2 := (HS7.out.lt k (blk_own _ _ hb)).2
    omega))
  obtain ⟨a11, _⟩ := hs11.row.cel (i := 0) rfl
  obtain ⟨q11, _⟩ := hs11.row.cel (i := 1) rfl
  have l11 := hs11.row.lt
  clear hB11 hge hF hF0 z7 z8 z9 z10 t1 t2 t3 t4 t5 t6 t7 a10 q10 l10 HS10 HR10 HM10 HM6 HB7 HB8 HB9 HB10 HSW
  go_wp2_with fail
  refine (HS1.out _ _ _ hs11 (HM11.out.sl HSM.out)).mono ?_
  rintro e0 w12 ⟨G, cg, rfl, hG12, hb12⟩
  have hs12 := hs11.on hb12
  have hM12 : OwnM l wc.heap.size g c w12 := own_below HM11.out hb12
  have hR12 := own_below HR11.out hb12
  have HST12 := Lib.hid hs12
  have hlt := (hM12.lt g rfl).2
  obtain ⟨m0, m1⟩ := own_cel (show w12.ownsRow _ _ 1 (.slice (some ⟨g, 0, none⟩) (l.length + 1) c) _ _ from hM12) (j := l.length) (u := .string markB) (by unfold strVs; simp)
  have HK1 := Lib.hid (fun (wx : World) (hx : Below w12.heap.size w12 wx) => sameWords_yes (some ⟨g, 0, none⟩) AL c cl _ _ _ _ l wx (OwnM.sl (own_below hM12 hx) HSM.out) ((hs12.on hx).slice HSL.out) hl)
  have HK2 := Lib.hid (fun (wx : World) (hx : Below w12.heap.size w12 wx) => sameWords_yes G R cg cr _ _ _ _ m wx (strs_slice (own_below hG12 hx) HMS.out) (strs_slice (own_below hR12 hx) HMS.out) (by omega))
  have k1 : (l.length : Int) + 1 ≤ (c : Int) := by omega
  have k2 : l.length + 1 ≤ c := hc
  have k3 : (l.length : Int) < (l.length : Int) + 1 := by omega
  have k4 : 0 ≤ (l.length : Int) := by omega
  have k5 : l.length < l.length + 1 := by omega
  have k6 : (markB.toList == markB.toList) = true := by simp
  unfold markB at m0
  clear hM12 hR12 hs12 hs11 hG12 hb12 HS1
  go_wp2_with fail
  refine (HK1.out _ (Below.refl _ _)).mono ?_
  rintro e0 w13 ⟨rfl, n1, rfl⟩
  have HK3 := Lib.hid (HK2.out _ (below_drewN (Below.refl w12.heap.size w12) n1))
  clear HK1 HK2
  go_wp2_with fail
  refine HK3.out.mono ?_
  rintro e0 w14 ⟨rfl, n2, rfl⟩
  go_wp2_with fail
  go_ret
  exact ⟨rfl, below_drewN HST12.out.below (n1 + n2)⟩
end Go.Proofs.YtfjccjjdgbkbiaaDoor
