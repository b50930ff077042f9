/- WordOrder: the walk, over named results. -/
import Derived.Test.YtfjccjjdgbkbiaaDoorWr17
import Derived.Test.YtfjccjjdgbkbiaaDoorWr24
namespace Go.Proofs.YtfjccjjdgbkbiaaDoor
open Go.RowKit
open Go.Lib (Utf8Tabs)
set_option linter.unusedVariables false

theorem LSt.slice {A1 A2 AL : Option Addr} {c1 c2 : Nat} {a : Al} {W wx : World} {l : List ByteArray} (h : LSt A1 A2 c1 c2 a W wx) (hs : Sl 1 vStr W 0 W.heap.size AL l) : Sl 1 vStr wx 0 wx.heap.size AL l :=
  (hs.below vStr_good h.below (Nat.le_refl _)).wide vStr_good (Nat.le_refl _) h.below.size
theorem own_str {w : World} {base c k : Nat} {A : Option Addr} {l : List ByteArray} (h : w.ownsRow base 9 1 (.slice A l.length c) l.length (strVs l)) (hk : k < l.length) :
    ∃ g, A = some ⟨g, 0, none⟩ ∧ base ≤ g ∧ g < w.heap.size ∧ Cel w g k (.string l[k]) := by
  obtain ⟨g, c', e, _, _, h1, h2⟩ := own_pos h (by omega)
  injection e with e1 _ e2
  subst e1 e2
  exact ⟨g, rfl, h1, h2, own_cel h (by unfold strVs; rw [List.getElem?_map, List.getElem?_eq_getElem hk]; rfl)⟩
set_option maxHeartbeats 8000000 in
set_option maxRecDepth 100000 in
theorem order_core (A1 A2 AL : Option Addr) (c1 c2 cl : Nat) (a : Al) (x y z : ByteArray) (l m : List ByteArray) (p q r s e f g h em : Int) (w : World) (hs0 : LSt A1 A2 c1 c2 a w (w.alloc (.cells #[.slice A1 a.feats.length c1, .slice A2 a.lets.length c2] 25)))
    (hsl : Sl 1 vStr w 0 w.heap.size AL l) (hl : l.length ≤ 9223372036854775807) (hm : m.length ≤ 4096)
    (h10 : (e = 0 ∧ f = 0 ∧ q = - p ∧ (p = -1 ∨ p = 0 ∨ p = 1) ∧ (p = 0 ↔ x = y)) ∨ (e ≠ 0 ∧ f ≠ 0 ∧ p = 0 ∧ q = 0))
    (h12 : e = 0 → g = 0 → h = 0 → (p = -1 ∨ p = 0 ∨ p = 1) ∧ (r = -1 ∨ r = 0 ∨ r = 1) ∧ (s = -1 ∨ s = 0 ∨ s = 1) ∧ (p ≤ 0 → r ≤ 0 → s ≤ 0 ∧ (s = 0 → p = 0 ∧ r = 0)))
    (HAW : Hid (∀ wx : World, LSt A1 A2 c1 c2 a w wx → Calls Tryd.prog 9 #[] wx fun e w' => e = .returned (.bool true) ∧ Below wx.heap.size wx w'))
    (HC1 : Hid (∀ wx : World, LSt A1 A2 c1 c2 a w wx → Calls Tryd.prog 30 #[.agg #[.slice A1 a.feats.length c1, .slice A2 a.lets.length c2], .string x, .string y] wx (IntOut (p, e) wx)))
    (HC2 : Hid (∀ wx : World, LSt A1 A2 c1 c2 a w wx → Calls Tryd.prog 30 #[.agg #[.slice A1 a.feats.length c1, .slice A2 a.lets.length c2], .string y, .string x] wx (IntOut (q, f) wx)))
    (HC3 : Hid (∀ wx : World, LSt A1 A2 c1 c2 a w wx → Calls Tryd.prog 30 #[.agg #[.slice A1 a.feats.length c1, .slice A2 a.lets.length c2], .string y, .string z] wx (IntOut (r, g) wx)))
    (HC4 : Hid (∀ wx : World, LSt A1 A2 c1 c2 a w wx → Calls Tryd.prog 30 #[.agg #[.slice A1 a.feats.length c1, .slice A2 a.lets.length c2], .string x, .string z] wx (IntOut (s, h) wx)))
    (HS1 : Hid (∀ wx : World, LSt A1 A2 c1 c2 a w wx → Calls Tryd.prog 31 #[.agg #[.slice A1 a.feats.length c1, .slice A2 a.lets.length c2], .slice AL l.length cl] wx (StrsOut (m, em) wx)))
    (HS2 : Hid (em = 0 → ∀ (B : Option Addr) (d : Nat) (wx : World), LSt A1 A2 c1 c2 a w wx → Sl 1 vStr wx 0 wx.heap.size B m → Calls Tryd.prog 31 #[.agg #[.slice A1 a.feats.length c1, .slice A2 a.lets.length c2], .slice B m.length d] wx (StrsOut (m, 0) wx)))
    (HN : Hid (em = 0 → ∀ (i : Nat) (hi : i + 1 < m.length), ∀ wx : World, LSt A1 A2 c1 c2 a w wx → Calls Tryd.prog 30 #[.agg #[.slice A1 a.feats.length c1, .slice A2 a.lets.length c2], .string m[i], .string m[i + 1]] wx (IntOut (-1, 0) wx)))
    (HA1 : Hid (em = 0 → ∀ s ∈ m, s ∈ l)) (HA2 : Hid (em = 0 → ∀ s ∈ l, s ∈ m)) (HMS : Hid (∀ s ∈ m, s.size ≤ maxLen)) (HME : Hid (em ≠ 0 → m = []))
    : Calls Tryd.prog 7 #[.agg #[.slice A1 a.feats.length c1, .slice A2 a.lets.length c2], .string x, .string y, .string z, .slice AL l.length cl] w fun e w' => e = .returned (.bool true) ∧ Below w.heap.size w w' := by
  have H10 := Lib.hid h10
  have H12 := Lib.hid h12
  have HSL := Lib.hid hsl
  clear h10 h12 hsl
  go_enter Tryd.func7, Tryd.ntmps7
  go_wp2_with fail
  refine (HAW.out _ hs0).mono ?_
  rintro e0 w1 ⟨rfl, hb1⟩
  have hs1 := hs0.on hb1
  obtain ⟨ha1, _⟩ := hs1.row.cel (i := 0) rfl
  obtain ⟨hq1, _⟩ := hs1.row.cel (i := 1) rfl
  have hl1 := hs1.row.lt
  clear hs0 hb1 HAW
  by_cases h200 : 200 < l.length
  · have HB := Lib.hid hs1.below
    have h2 : (200 : Int) < (l.length : Int) := by omega
    clear hs1 ha1 hq1
    go_wp2_with fail
    go_ret
    exact ⟨rfl, HB.out⟩
  have h2 : ¬ (200 : Int) < (l.length : Int) := by omega
  go_wp2_with fail
  refine (HC1.out _ hs1).mono ?_
  rintro e0 w2 ⟨rfl, hb2⟩
  have hs2 := hs1.on hb2
  obtain ⟨ha2, _⟩ := hs2.row.cel (i := 0) rfl
  obtain ⟨hq2, _⟩ := hs2.row.cel (i := 1) rfl
  have hl2 := hs2.row.lt
  clear hs1 ha1 hq1 hl1 hb2 HC1
  go_wp2_with fail
  refine (HC2.out _ hs2).mono ?_
  rintro e0 w3 ⟨rfl, hb3⟩
  have hs3 := hs2.on hb3
  obtain ⟨ha3, _⟩ := hs3.row.cel (i := 0) rfl
  obtain ⟨hq3, _⟩ := hs3.row.cel (i := 1) rfl
  have hl3 := hs3.row.lt
  clear hs2 ha2 hq2 hl2 hb3 HC2
  go_wp2_with fail
  refine (HC3.out _ hs3).mono ?_
  rintro e0 w4 ⟨rfl, hb4⟩
  have hs4 := hs3.on hb4
  obtain ⟨ha4, _⟩ := hs4.row.cel (i := 0) rfl
  obtain ⟨hq4, _⟩ := hs4.row.cel (i := 1) rfl
  have hl4 := hs4.row.lt
  clear hs3 ha3 hq3 hl3 hb4 HC3
  go_wp2_with fail
  refine (HC4.out _ hs4).mono ?_
  rintro e0 w5 ⟨rfl, hb5⟩
  have hs5 := hs4.on hb5
  obtain ⟨ha5, _⟩ := hs5.row.cel (i := 0) rfl
  obtain ⟨hq5, _⟩ := hs5.row.cel (i := 1) rfl
  have hl5 := hs5.row.lt
  clear hs4 ha4 hq4 hl4 hb5 HC4
  go_upto_region 10 with (fail)
  go_cut [91] (fun b wc => b = .bool false ∧ w5 = wc)
  case first =>
    as_aux_lemma =>
      rcases H10.out with ⟨rfl, rfl, rfl, hp, hxy⟩ | ⟨he, hf, rfl, rfl⟩
      · rcases hp with rfl | rfl | rfl
        · have hne : x ≠ y := fun h => by have := hxy.2 h; omega
          have hxn := str_ne hne
          clear hxy hne
          go_wp2_with fail
          go_meet
          case rel => exact ⟨rfl, rfl⟩
        · have hxy := hxy.1 rfl
          subst hxy
          have hxn : (x.toList == x.toList) = true := by simp
          go_wp2_with fail
          go_meet
          case rel => exact ⟨rfl, rfl⟩
        · have hne : x ≠ y := fun h => by have := hxy.2 h; omega
          have hxn := str_ne hne
          clear hxy hne
          go_wp2_with fail
          go_meet
          case rel => exact ⟨rfl, rfl⟩
      · have k1 : (e == 0) = false := by rw [beq_eq_false_iff_ne]; exact he
        have k2 : (f == 0) = false := by rw [beq_eq_false_iff_ne]; exact hf
        clear he hf
        go_wp2_with fail
        go_meet
        case rel => exact ⟨rfl, rfl⟩
  case rest =>
  obtain ⟨rfl, rfl⟩ := hcut
  go_upto_region 12 with (fail)
  go_cut [125] (fun b wc => b = .bool false ∧ w5 = wc)
  case first =>
    as_aux_lemma =>
      by_cases he : e = 0
      · by_cases hg : g = 0
        · by_cases hh : h = 0
          · obtain ⟨hp, hr, hss, himp⟩ := H12.out he hg hh
            subst he hg hh
            clear H10 H12
            by_cases h1 : p ≤ 0
            · by_cases h2 : r ≤ 0
              · obtain ⟨h3, h4⟩ := himp h1 h2
                by_cases h5 : s = 0
                · obtain ⟨rfl, rfl⟩ := h4 h5
                  subst h5
                  clear himp h1 h2 h3 h4 hp hr hss
                  go_wp2_with fail
                  go_meet
                  case rel => exact ⟨rfl, rfl⟩
                · have k1 : (s == 0) = false := by rw [beq_eq_false_iff_ne]; exact h5
                  have k2 : ¬ 0 < s := by omega
                  clear himp h3 h4 hp hr hss h5
                  go_wp2_with fail
                  go_meet
                  case rel => exact ⟨rfl, rfl⟩
              · clear himp hp hr hss
                go_wp2_with fail
                go_meet
                case rel => exact ⟨rfl, rfl⟩
            · clear himp hp hr hss
              go_wp2_with fail
              go_meet
              case rel => exact ⟨rfl, rfl⟩
          · have k1 : (h == 0) = false := by rw [beq_eq_false_iff_ne]; exact hh
            subst he hg
            clear hh H10 H12
            go_wp2_with fail
            go_meet
            case rel => exact ⟨rfl, rfl⟩
        · have k1 : (g == 0) = false := by rw [beq_eq_false_iff_ne]; exact hg
          subst he
          clear hg H10 H12
          go_wp2_with fail
          go_meet
          case rel => exact ⟨rfl, rfl⟩
      · have k1 : (e == 0) = false := by rw [beq_eq_false_iff_ne]; exact he
        clear he H10 H12
        go_wp2_with fail
        go_meet
        case rel => exact ⟨rfl, rfl⟩
  case rest =>
  obtain ⟨rfl, rfl⟩ := hcut
  clear H10 H12
  go_wp2_with fail
  refine (HS1.out _ hs5).mono ?_
  rintro e0 w6 ⟨X, cx, rfl, hx6, hb6⟩
  have hs6 := hs5.on hb6
  obtain ⟨ha6, _⟩ := hs6.row.cel (i := 0) rfl
  obtain ⟨hq6, _⟩ := hs6.row.cel (i := 1) rfl
  have hl6 := hs6.row.lt
  clear hs5 ha5 hq5 hl5 hb6 HS1
  simp only at hx6
  by_cases hem : em = 0
  · subst hem
    have hn := HN.out rfl
    have ha1 := HA1.out rfl
    have ha2 := HA2.out rfl
    have hs2 := HS2.out rfl
    have HN2 := Lib.hid hn
    have HA12 := Lib.hid ha1
    have HA22 := Lib.hid ha2
    have HS22 := Lib.hid hs2
    have HX := Lib.hid hx6
    have HS6 := Lib.hid hs6
    clear hn ha1 ha2 hs2 HN HA1 HA2 HS2 HME hx6
    go_wp2_with fail
    go_loopw [21] (fun i wr => ∃ k : Nat, k ≤ m.length ∧ i = .int .i64 (k : Int) ∧ Hid (Below w6.heap.size w6 wr)) (fun i _ => m.length - (intOf i).toNat)
    case atStart => exact ⟨0, by omega, rfl, Below.refl _ _⟩
    case round =>
      obtain ⟨k, hk, rfl, hB⟩ := hrel
      have hxr := own_below HX.out hB.out
      have hsr := HS6.out.on hB.out
      by_cases hlt : k < m.length
      · have hsx := strs_slice hxr HMS.out
        obtain ⟨g1, eX, _, hg1, hcx⟩ := own_str hxr hlt
        have hmem : m[k] ∈ l := HA12.out _ (List.getElem_mem hlt)
        have HAM := Lib.hid (fun (wx : World) (hx : Below wr.heap.size wr wx) => among_yes AL cl 0 wx.heap.size l m[k] wx ((hsr.on hx).slice HSL.out) hl hmem)
        have j1 : (k : Int) < (m.length : Int) := by omega
        have j2 : 0 ≤ (k : Int) := by omega
        have HCX := Lib.hid (fun (wx : World) (hx : Below wr.heap.size wr wx) => (Cel.keep (Kp.of_below hx) (Nat.zero_le _) hg1 hcx).1)
        rcases Nat.eq_zero_or_pos k with hk0 | hk0
        · subst hk0
          have hcx0 := HCX.out _ (Below.refl _ _)
          have hram := Lib.hid (HAM.out _ (Below.refl _ _))
          subst eX
          generalize m[0] = s0 at *
          clear hxr hsr hsx hcx HCX HAM
          go_wp2_with fail
          refine hram.out.mono ?_
          rintro e0 w7 ⟨rfl, rfl⟩
          go_wp2_with fail
          exact ⟨⟨0 + 1, by omega, by go_num, hB⟩, by simp [intOf]; omega⟩
        · obtain ⟨kp, rfl⟩ : ∃ kp, k = kp + 1 := ⟨k - 1, by omega⟩
          obtain ⟨g2, eX2, _, hg2, hcx2⟩ := own_str hxr (show kp < m.length by omega)
          have hgg : g2 = g1 := by rw [eX] at eX2; injection eX2 with h; injection h with h; exact h.symm
          subst hgg
          have HCX2 := Lib.hid (fun (wx : World) (hx : Below wr.heap.size wr wx) => (Cel.keep (Kp.of_below hx) (Nat.zero_le _) hg2 hcx2).1)
          have HC := Lib.hid (fun (wx : World) (hx : Below wr.heap.size wr wx) => And.intro ((hsr.on hx).row.cel (i := 0) rfl).1 ((hsr.on hx).row.cel (i := 1) rfl).1)
          have K1 : Hid (∀ wx, Below wr.heap.size wr wx → Calls Tryd.prog 30 #[.agg #[.slice A1 a.feats.length c1, .slice A2 a.lets.length c2], .string m[kp], .string m[kp + 1]] wx fun e w' => e = .returned (.tuple #[.int .i64 (-1), .int .i64 0]) ∧ Below wr.heap.size wr w') := by
            intro wx hx
            refine (HN2.out kp hlt wx (hsr.on hx)).mono ?_
            rintro e w' ⟨rfl, hy⟩
            exact ⟨rfl, hx.trans (hy.mono hx.size)⟩
          have hw : IntKind.i64.wrap (((kp + 1 : Nat) : Int) - 1) = (kp : Int) := by rw [show (((kp + 1 : Nat) : Int) - 1) = (kp : Int) by omega]; exact IntWalk.i64_in _ (by omega)
          have j3 : (kp : Int) < (m.length : Int) := by omega
          have j4 : 0 ≤ (kp : Int) := by omega
          have j5 : 0 < ((kp + 1 : Nat) : Int) := by omega
          have hd : Below wr.heap.size wr wr.drew := below_drewN (Below.refl _ _) 1
          subst eX
          generalize m[kp + 1] = s1 at *
          generalize m[kp] = s0 at *
          clear hxr hsr hsx hcx hcx2
          go_upto_region 21 with (fail)
          refine wp_region_class (fun wx => Below wr.heap.size wr wx) (by kernel_rfl) (by kernel_rfl) hd ?_
          repeat (first
            | go_big_quiet_skip
            | (go_big_quiet_want; go_big_quiet_op; first
                | go_big_quiet_on
                | (apply Exists.intro
                   refine ⟨fun wx hx => ?_, ?_⟩
                   · (first
                      | exact rfl
                      | (have e1 := (HC.out wx hx).1; have e2 := (HC.out wx hx).2; simp only [e1, e2, Result.andThen]; exact ⟨trivial, rfl⟩)
                      | (have e3 := HCX2.out wx hx; simp only [e3, Result.andThen]; exact ⟨trivial, rfl⟩)
                      | (have e3 := HCX.out wx hx; simp only [e3, Result.andThen]; exact ⟨trivial, rfl⟩)
                      | (go_at_call 30; with_reducible exact K1.out wx hx))
                   go_big_quiet_on)))
          refine wpQuiet_nil ?_
          intro w7 hq
          have hcx0 := HCX.out _ hq
          have hram := Lib.hid (HAM.out _ hq)
          have HB7 := Lib.hid (hB.out.trans (hq.mono hB.out.size))
          have hg7 : g2 < w7.heap.size := by have := hq.size; omega
          clear HC K1 HCX HCX2 hw j3 j4 j5 hd hq HAM hB
          go_wp2_with fail
          refine hram.out.mono ?_
          rintro e0 w8 ⟨rfl, rfl⟩
          go_wp2_with fail
          exact ⟨⟨kp + 1 + 1, by omega, by go_num, HB7⟩, by simp [intOf]; omega⟩
      · obtain rfl : k = m.length := by omega
        have HXR := Lib.hid hxr
        have HSR := Lib.hid hsr
        have hsx := (strs_slice hxr HMS.out).wide vStr_good (Nat.zero_le _) (Nat.le_refl _)
        have hslr := hsr.slice HSL.out
        have HSX := Lib.hid hsx
        have hm9 : m.length ≤ 9223372036854775807 := by omega
        have hz0 : ¬ (m.length : Int) < (m.length : Int) := by omega
        clear hxr hsr hsx hB HX HS6 HN2 HA12
        go_wp2_with fail
        go_loop [24] (fun i => ∃ q : Nat, q ≤ l.length ∧ i = .int .i64 (q : Int)) (fun i => l.length - (intOf i).toNat)
        case atStart => exact ⟨0, by omega, rfl⟩
        case round =>
          obtain ⟨q, hq, rfl⟩ := hrel
          by_cases hlq : q < l.length
          · obtain ⟨b, off, rfl, _, _, ⟨x0, y0⟩, _⟩ := strs_at hslr hlq
            have hram := Lib.hid (among_yes X cx 0 wr.heap.size m l[q] wr HSX.out hm9 (HA22.out _ (List.getElem_mem hlq)))
            generalize l[q] = s0 at *
            have j1 : (q : Int) < (l.length : Int) := by omega
            have j2 : 0 ≤ (q : Int) := by omega
            clear hslr
            go_wp2_with fail
            refine hram.out.mono ?_
            rintro e0 w7 ⟨rfl, rfl⟩
            go_wp2_with fail
            exact ⟨⟨q + 1, by omega, by go_num⟩, by simp [intOf]; omega⟩
          · obtain rfl : q = l.length := by omega
            have hso := Lib.hid (HS22.out X cx wr HSR.out HSX.out)
            have hl7 := HSR.out.row.lt
            obtain ⟨ha7, _⟩ := HSR.out.row.cel (i := 0) rfl
            obtain ⟨hq7, _⟩ := HSR.out.row.cel (i := 1) rfl
            have hzz : ¬ (l.length : Int) < (l.length : Int) := by omega
            clear hslr HS22 HSX HA22 HSL ha6 hq6 hl6
            go_wp2_with fail
            refine hso.out.mono ?_
            rintro e0 w8 ⟨Y, cy, rfl, hy8, hb8⟩
            have hx8 := own_below HXR.out hb8
            have HY8 := Lib.hid hy8
            have HX8 := Lib.hid hx8
            have HS8 := Lib.hid (HSR.out.on hb8)
            have hmm : ((m.length : Int) != (m.length : Int)) = false := by simp
            clear hy8 hx8 hb8 HXR HSR ha7 hq7 hl7 hso
            go_wp2_with fail
            go_loopw [26] (fun i wr => ∃ q : Nat, q ≤ m.length ∧ i = .int .i64 (q : Int) ∧ Hid (Below w8.heap.size w8 wr)) (fun i _ => m.length - (intOf i).toNat)
            case atStart => exact ⟨0, by omega, rfl, Below.refl _ _⟩
            case round =>
              obtain ⟨wo, rfl⟩ : ∃ wo : World, wo = wr := ⟨_, rfl⟩
              obtain ⟨q, hq, rfl, hB⟩ := hrel
              by_cases hlq : q < m.length
              · obtain ⟨g1, rfl, _, hg1, ⟨x0, y0⟩⟩ := own_str (own_below HX8.out hB.out) hlq
                obtain ⟨g2, rfl, _, hg2, ⟨x1, y1⟩⟩ := own_str (own_below HY8.out hB.out) hlq
                have HBD := Lib.hid (fun n => below_drewN hB.out n)
                have j1 : (q : Int) < (m.length : Int) := by omega
                have j2 : 0 ≤ (q : Int) := by omega
                generalize m[q] = s0 at *
                have hd : (s0.toList != s0.toList) = false := by simp
                go_wp2_with fail
                go_quiet (fail)
                go_wp2_with fail
                exact ⟨⟨q + 1, by omega, by go_num, HBD.out _⟩, by simp [intOf]; omega⟩
              · obtain rfl : q = m.length := by omega
                have HB := Lib.hid (HS8.out.below.trans (hB.out.mono HS8.out.below.size))
                have hz1 : ¬ (m.length : Int) < (m.length : Int) := by omega
                go_wp2_with fail
                go_ret
                exact ⟨rfl, HB.out⟩
  · have hm0 := HME.out hem
    subst hm0
    have hne : (em != 0) = true := by rw [bne_iff_ne]; exact hem
    have HB := Lib.hid hs6.below
    clear hs6 ha6 hq6 hl6 hx6 HN HA1 HA2 HS2 HME hem HMS
    go_wp2_with fail
    go_ret
    exact ⟨rfl, HB.out⟩
end Go.Proofs.YtfjccjjdgbkbiaaDoor
