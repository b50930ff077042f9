/- WordRow: for every alphabet, two words and a list of words, which of the words is ahead, what both begin with, the row and the joined word are the answers of the document, or the errors are; the list stays; what is answered is written over. Conditions: unicode/utf8's two tables are as their text lays them (the card ties them). -/
import Derived.Test.YtfjccjjdgbkbiaaDoorWr35
import Derived.Test.YtfjccjjdgbkbiaaDoorWr33
import Derived.Test.YtfjccjjdgbkbiaaDoorWr23
import Derived.Test.YtfjccjjdgbkbiaaDoorWr25
import Derived.Test.YtfjccjjdgbkbiaaDoorWr34
import Derived.Test.YtfjccjjdgbkbiaaDoorWr27
import Derived.Test.YtfjccjjdgbkbiaaDoorWr05
import Derived.Test.YtfjccjjdgbkbiaaDoorWr01
import Derived.Test.YtfjccjjdgbkbiaaDoorCards
import Derived.Test.YtfjccjjdgbkbiaaDoorTie
namespace Go.Proofs.YtfjccjjdgbkbiaaDoor
open Go.RowKit
open Go.Lib (Utf8Tabs)
set_option linter.unusedVariables false

theorem words_of {a : Al} {l : List ByteArray} (h : (allS a l).2 = 0) : l = (allS a l).1.map encR ∧ ∀ X ∈ (allS a l).1, Lets a X := by
  obtain ⟨hok, hl4, hwords, hls⟩ := allS_zero h
  rw [hls]
  constructor
  · rw [List.map_map]
    conv => lhs; rw [← List.map_id l]
    exact List.map_congr_left fun s hs => (text_back (hwords s hs)).symm
  · intro X hX
    obtain ⟨s, hs, rfl⟩ := List.mem_map.1 hX
    exact (word_is (hwords s hs)).2.1
set_option maxHeartbeats 8000000 in
set_option maxRecDepth 100000 in
theorem rsort_any (A1 A2 AL : Option Addr) (c1 c2 cl lo : Nat) (a : Al) (l : List ByteArray) (w : World) (hin : AlIn w lo w.heap.size A1 A2 a) (hT : Utf8Tabs 0 1 w) (hsl : Sl 1 vStr w lo w.heap.size AL l) (hn : l.length ≤ 9223372036854775807) :
    Calls Tryd.prog 36 #[.agg #[.slice A1 a.feats.length c1, .slice A2 a.lets.length c2], .slice AL l.length cl] w (StrsOut ((sortS a l).1.map encR, (sortS a l).2) w) := by
  have hal : Below w.heap.size w (w.alloc (.cells #[.slice A1 a.feats.length c1, .slice A2 a.lets.length c2] 25)) := (Below.refl _ _).alloc (Nat.le_refl _) _
  have hr0 := Row.new w 25 [.slice A1 a.feats.length c1, .slice A2 a.lets.length c2]
  have hcall := Lib.hid (rlist_any A1 A2 AL c1 c2 cl lo a l _ (hin.on hal) (Utf8Tabs_below hT hal) ((hsl.below vStr_good hal (Nat.le_refl _)).wide vStr_good (Nat.le_refl _) hal.size) hn)
  have HS : Hid (sortS a l = if (allS a l).2 ≠ 0 then ([], (allS a l).2) else (rowR (rkA a) (allS a l).1, 0)) := rfl
  generalize sortS a l = J at *
  by_cases hE : (allS a l).2 = 0
  · obtain ⟨hok, hl4, _⟩ := allS_zero hE
    obtain ⟨hwl, hws⟩ := words_of hE
    have HJ : Hid (J = (rowR (rkA a) (allS a l).1, 0)) := by show _ = _; rw [HS.out, if_neg (by simp [hE])]
    rw [hE] at hcall
    generalize (allS a l).1 = ws at *
    have HROW := Lib.hid (fun (wx : World) (hb : Below w.heap.size w wx) => rrow_any A1 A2 AL c1 c2 cl lo a l ws wx (hin.on hb) ((hsl.below vStr_good hb (Nat.le_refl _)).wide vStr_good (Nat.le_refl _) hb.size) hl4 hok hws hwl)
    clear HS hE hok hwl hws
    generalize rowR (rkA a) ws = R at *
    go_enter Tryd.func36, Tryd.ntmps36
    go_wp2_with fail
    refine hcall.out.mono ?_
    rintro e w1 ⟨rfl, hb1⟩
    have hbw := hal.trans (hb1.mono (by simp))
    have hr1 := hr0.below hb1 hr0.lt
    obtain ⟨q0, _⟩ := hr1.cel (i := 0) rfl
    obtain ⟨q1, _⟩ := hr1.cel (i := 1) rfl
    have HB := Lib.hid hbw
    clear hb1 hal hcall hbw hr0 hr1
    go_wp2_with fail
    refine (HROW.out _ HB.out).mono ?_
    rintro e w2 ⟨A, c, rfl, hown, hb2⟩
    have hfin : StrsOut (J.1.map encR, J.2) w (.returned (.tuple #[.slice A R.length c, .int .i64 0])) w2 := by
      rw [HJ.out]
      refine ⟨A, c, by simp only [List.length_map], ?_, HB.out.trans (hb2.mono HB.out.size)⟩
      simp only [List.length_map]
      exact own_low hown HB.out.size
    have HFIN := Lib.hid hfin
    clear hfin hown hb2 q0 q1
    go_wp2_with fail
    go_ret2
    exact HFIN.out
  · have HFIN := Lib.hid (fun wx hb => StrsOut.no (W := w) (w' := wx) (show (J.1.map encR, J.2) = ([], (allS a l).2) by rw [HS.out, if_pos hE]; rfl) hb)
    generalize (allS a l).2 = E at *
    have hne : (E != 0) = true := by rw [bne_iff_ne]; exact hE
    clear HS hE
    go_enter Tryd.func36, Tryd.ntmps36
    go_wp2_with fail
    refine hcall.out.mono ?_
    rintro e w1 ⟨rfl, hb1⟩
    have HB := Lib.hid (hal.trans (hb1.mono (by simp)))
    clear hb1
    go_wp2_with fail
    go_ret2
    exact HFIN.out _ HB.out
end Go.Proofs.YtfjccjjdgbkbiaaDoor
namespace Go.Proofs.YtfjccjjdgbkbiaaDoor
open Go.RowKit
open Go.Lib (Utf8Tabs)
set_option linter.unusedVariables false

def TwoOut (r : List Int × List Int × Int) (W : World) (e : Ending) (w' : World) : Prop :=
  ∃ A c B d, e = .returned (.tuple #[.slice A r.1.length c, .slice B r.2.1.length d, .int .i64 r.2.2]) ∧ w'.ownsRow W.heap.size 21 1 (.slice A r.1.length c) r.1.length (runeVs r.1) ∧ w'.ownsRow W.heap.size 21 1 (.slice B r.2.1.length d) r.2.1.length (runeVs r.2.1) ∧ Below W.heap.size W w'
theorem TwoOut.no {r : List Int × List Int × Int} {E : Int} {W w' : World} (h : r = ([], [], E)) (hb : Below W.heap.size W w') : TwoOut r W (.returned (.tuple #[.slice none 0 0, .slice none 0 0, .int .i64 E])) w' := by
  subst h
  exact ⟨none, 0, none, 0, rfl, World.ownsRow_nil _ _ _ _, World.ownsRow_nil _ _ _ _, hb⟩
set_option maxHeartbeats 4000000 in
theorem two_any (A1 A2 : Option Addr) (c1 c2 lo : Nat) (a : Al) (x y : ByteArray) (w : World) (hin : AlIn w lo w.heap.size A1 A2 a) (hT : Utf8Tabs 0 1 w) (hx : x.size ≤ maxLen) (hy : y.size ≤ maxLen) :
    Calls Tryd.prog 63 #[.agg #[.slice A1 a.feats.length c1, .slice A2 a.lets.length c2], .string x, .string y] w (TwoOut (bothS a x y) w) := by
  have hal : Below w.heap.size w (w.alloc (.cells #[.slice A1 a.feats.length c1, .slice A2 a.lets.length c2] 25)) := (Below.refl _ _).alloc (Nat.le_refl _) _
  have hr0 := Row.new w 25 [.slice A1 a.feats.length c1, .slice A2 a.lets.length c2]
  have hcall := Lib.hid (rletters_any A1 A2 c1 c2 lo a x _ (hin.on hal) (Utf8Tabs_below hT hal) hx)
  have HY := Lib.hid (fun (wx : World) (hb : Below w.heap.size w wx) => rletters_any A1 A2 c1 c2 lo a y wx (hin.on hb) (Utf8Tabs_below hT hb) hy)
  have HL : Hid (bothS a x y = if (lettersS a x).2 ≠ 0 then ([], [], (lettersS a x).2) else if (lettersS a y).2 ≠ 0 then ([], [], (lettersS a y).2) else ((lettersS a x).1, (lettersS a y).1, 0)) := rfl
  generalize lettersS a x = R at *
  generalize lettersS a y = S at *
  generalize bothS a x y = BS at *
  obtain ⟨l, E⟩ := R
  obtain ⟨k, F⟩ := S
  go_enter Tryd.func63, Tryd.ntmps63
  go_wp2_with fail
  refine hcall.out.mono ?_
  rintro e w1 ⟨A, c, rfl, hown, hb1⟩
  have hbw := hal.trans (hb1.mono hal.size)
  have hr1 := hr0.below hb1 hr0.lt
  have hl1 := hr1.lt
  obtain ⟨q0, _⟩ := hr1.cel (i := 0) rfl
  obtain ⟨q1, _⟩ := hr1.cel (i := 1) rfl
  simp only at hown
  have hown1 := own_low hown (base := _) (lo := w.heap.size) (by simp)
  clear hcall hr0 hr1 hb1 hown
  by_cases hE : E = 0
  · subst hE
    have hc2 := Lib.hid (HY.out _ hbw)
    clear HY
    go_wp2_with fail
    refine hc2.out.mono ?_
    rintro e w2 ⟨B, d, rfl, hown2, hb2⟩
    have hbw2 := hbw.trans (hb2.mono hbw.size)
    simp only at hown2
    by_cases hF : F = 0
    · subst hF
      have hfin : TwoOut BS w (.returned (.tuple #[.slice A l.length c, .slice B k.length d, .int .i64 0])) w2 := by
        rw [show BS = (l, k, 0) by rw [HL.out]; simp]
        exact ⟨A, c, B, d, rfl, own_below hown1 hb2, own_low hown2 hbw.size, hbw2⟩
      have HFIN := Lib.hid hfin
      clear hfin hown1 hown2 hb2
      go_wp2_with fail
      go_ret3
      exact HFIN.out
    · have hne : (F != 0) = true := by rw [bne_iff_ne]; exact hF
      have HFIN := Lib.hid (TwoOut.no (r := BS) (E := F) (by rw [HL.out, if_neg (by simp), if_pos hF]) hbw2)
      clear hown1 hown2 hb2 hF
      go_wp2_with fail
      go_ret3
      exact HFIN.out
  · have hne : (E != 0) = true := by rw [bne_iff_ne]; exact hE
    have HFIN := Lib.hid (TwoOut.no (r := BS) (E := E) (by rw [HL.out, if_pos hE]) hbw)
    clear hown1 hE HY
    go_wp2_with fail
    go_ret3
    exact HFIN.out
theorem both_lets (a : Al) (x y : ByteArray) : ((bothS a x y).2.2 = 0 → alOk a = true) ∧ (∀ z ∈ (bothS a x y).1, isLet a z = true) ∧ ∀ z ∈ (bothS a x y).2.1, isLet a z = true := by
  unfold bothS
  by_cases h1 : (lettersS a x).2 = 0
  · rw [if_neg (by simp [h1])]
    by_cases h2 : (lettersS a y).2 = 0
    · rw [if_neg (by simp [h2])]
      exact ⟨fun _ => (word_is h1).1, fun z hz => (letters_isLet z hz).2, fun z hz => (letters_isLet z hz).2⟩
    · rw [if_pos h2]
      exact ⟨fun h => absurd h h2, fun z hz => by simp at hz, fun z hz => by simp at hz⟩
  · rw [if_pos h1]
    exact ⟨fun h => absurd h h1, fun z hz => by simp at hz, fun z hz => by simp at hz⟩
set_option maxHeartbeats 4000000 in
theorem rcmp_any (A1 A2 : Option Addr) (c1 c2 lo : Nat) (a : Al) (x y : ByteArray) (w : World) (hin : AlIn w lo w.heap.size A1 A2 a) (hT : Utf8Tabs 0 1 w) (hx : x.size ≤ maxLen) (hy : y.size ≤ maxLen) :
    Calls Tryd.prog 34 #[.agg #[.slice A1 a.feats.length c1, .slice A2 a.lets.length c2], .string x, .string y] w (IntOut (cmpS a x y) w) := by
  have hal : Below w.heap.size w (w.alloc (.cells #[.slice A1 a.feats.length c1, .slice A2 a.lets.length c2] 25)) := (Below.refl _ _).alloc (Nat.le_refl _) _
  have hr0 := Row.new w 25 [.slice A1 a.feats.length c1, .slice A2 a.lets.length c2]
  have hcall := Lib.hid (two_any A1 A2 c1 c2 lo a x y _ (hin.on hal) (Utf8Tabs_below hT hal) hx hy)
  have HL : Hid (cmpS a x y = if (bothS a x y).2.2 ≠ 0 then (0, (bothS a x y).2.2) else (cmpL (rkA a) (bothS a x y).1 (bothS a x y).2.1, 0)) := rfl
  have hbf := both_facts a x y
  have hkin := both_kin a x y
  have hlet := both_lets a x y
  generalize bothS a x y = R at *
  generalize cmpS a x y = C at *
  obtain ⟨l, k, E⟩ := R
  simp only at hbf hkin hlet
  have HKIN := Lib.hid hkin
  have HLET := Lib.hid hlet
  clear hkin hlet
  go_enter Tryd.func34, Tryd.ntmps34
  go_wp2_with fail
  refine hcall.out.mono ?_
  rintro e w1 ⟨A, c, B, d, rfl, hA, hB, hb1⟩
  have hbw := hal.trans (hb1.mono (by simp))
  have hr1 := hr0.below hb1 hr0.lt
  have hl1 := hr1.lt
  obtain ⟨q0, _⟩ := hr1.cel (i := 0) rfl
  obtain ⟨q1, _⟩ := hr1.cel (i := 1) rfl
  clear hcall hal hb1 hr0 hr1
  simp only at hA hB
  by_cases hE : E = 0
  · subst hE
    have HF : Hid (C = (cmpL (rkA a) l k, 0)) := by show _ = _; rw [HL.out]; simp
    have hcon := Lib.hid (rorder_any A1 A2 A B c1 c2 c d lo a l k w1 (hin.on hbw) (own_rat hA) (own_rat hB) HKIN.out.1 HKIN.out.2 (by omega) (by omega))
    rw [cmpL_num (HLET.out.1 rfl) HLET.out.2.1 HLET.out.2.2] at hcon
    generalize cmpL (rkA a) l k = z at *
    clear HL hA hB
    go_wp2_with fail
    refine hcon.out.mono ?_
    rintro e w2 ⟨rfl, hb2⟩
    have HFIN := Lib.hid (IntOut.mk' HF.out (hbw.trans (hb2.mono hbw.size)))
    clear hb2
    go_wp2_with fail
    go_ret2
    exact HFIN.out
  · have hne : (E != 0) = true := by rw [bne_iff_ne]; exact hE
    have HFIN := Lib.hid (IntOut.mk' (show C = (0, E) by rw [HL.out, if_pos hE]) hbw)
    clear hA hB hbw HL hE
    go_wp2_with fail
    go_ret2
    exact HFIN.out
set_option maxHeartbeats 4000000 in
set_option maxRecDepth 100000 in
theorem rcommon_any (A1 A2 : Option Addr) (c1 c2 lo : Nat) (a : Al) (x y : ByteArray) (w : World) (hin : AlIn w lo w.heap.size A1 A2 a) (hT : Utf8Tabs 0 1 w) (hx : x.size ≤ maxLen) (hy : y.size ≤ maxLen) :
    Calls Tryd.prog 35 #[.agg #[.slice A1 a.feats.length c1, .slice A2 a.lets.length c2], .string x, .string y] w fun e w' => e = .returned (.tuple #[.int .i64 ((commonS a x y).1 : Int), .int .i64 (commonS a x y).2]) ∧ Below w.heap.size w w' := by
  have hal : Below w.heap.size w (w.alloc (.cells #[.slice A1 a.feats.length c1, .slice A2 a.lets.length c2] 25)) := (Below.refl _ _).alloc (Nat.le_refl _) _
  have hcall := Lib.hid (two_any A1 A2 c1 c2 lo a x y _ (hin.on hal) (Utf8Tabs_below hT hal) hx hy)
  have HL : Hid (commonS a x y = if (bothS a x y).2.2 ≠ 0 then (0, (bothS a x y).2.2) else (commonN (bothS a x y).1 (bothS a x y).2.1, 0)) := rfl
  have hbf := both_facts a x y
  generalize bothS a x y = R at *
  generalize commonS a x y = C at *
  obtain ⟨l, k, E⟩ := R
  simp only at hbf HL
  go_enter Tryd.func35, Tryd.ntmps35
  go_wp2_with fail
  refine hcall.out.mono ?_
  rintro e w1 ⟨A, c, B, d, rfl, hA, hB, hb1⟩
  have hbw := hal.trans (hb1.mono (by simp))
  clear hcall hal hb1
  simp only at hA hB
  by_cases hE : E = 0
  · subst hE
    have HF : Hid (C = (commonN l k, 0)) := by show _ = _; rw [HL.out]; simp
    clear HL
    have HA := Lib.hid hA
    have HBB0 := Lib.hid hB
    clear hA hB
    go_wp2_with fail
    go_loopw [11] (fun i wr => ∃ n : Nat, n ≤ l.length ∧ n ≤ k.length ∧ i = .int .i64 (n : Int) ∧ Hid (commonN l k = n + commonN (l.drop n) (k.drop n)) ∧ Below w1.heap.size w1 wr) (fun i _ => l.length - (intOf i).toNat)
    case atStart => exact ⟨0, by omega, by omega, rfl, (by show _ = _; rw [List.drop_zero, List.drop_zero, Nat.zero_add]), Below.refl _ _⟩
    case round =>
      obtain ⟨wo, rfl⟩ : ∃ wo : World, wo = wr := ⟨_, rfl⟩
      obtain ⟨n, hn1, hn2, rfl, hc, hb⟩ := hrel
      have HD := Lib.hid (fun q => below_drewN hb q)
      by_cases hl1 : n < l.length
      · by_cases hl2 : n < k.length
        · obtain ⟨g, rfl, _, hg, ⟨x0, y0⟩⟩ := own_rune (own_below HA.out hb) hl1
          obtain ⟨g', rfl, _, hg', ⟨x1, y1⟩⟩ := own_rune (own_below HBB0.out hb) hl2
          have hst := commonN_step hl1 hl2
          generalize l[n] = u at *
          generalize k[n] = v at *
          have HS := Lib.hid hst
          clear hst hb
          have j1 : 0 ≤ (n : Int) := by omega
          have j2 : (n : Int) < (l.length : Int) := by omega
          have j3 : (n : Int) < (k.length : Int) := by omega
          by_cases he : u = v
          · subst he
            have HN : Hid (commonN l k = (n + 1) + commonN (l.drop (n + 1)) (k.drop (n + 1))) := by show _ = _; rw [hc.out, HS.out, if_pos rfl]; omega
            have he : (u == u) = true := by simp
            clear HS hc
            go_upto_region 5 with (fail)
            go_quiet (fail)
            go_wp2_with fail
            exact ⟨⟨n + 1, by omega, by omega, by go_num, HN, HD.out _⟩, by simp [intOf]; omega⟩
          · have HN : Hid (C = (n, 0)) := by show _ = _; rw [HF.out, hc.out, HS.out, if_neg he]; rfl
            have he' : (u == v) = false := by rw [beq_eq_false_iff_ne]; exact he
            have HBB := Lib.hid (fun q => hbw.trans ((HD.out q).mono hbw.size))
            clear HS hc he
            go_upto_region 5 with (fail)
            go_quiet (fail)
            go_wp2_with fail
            go_ret2
            exact ⟨by rw [HN.out]; rfl, HBB.out _⟩
        · have hce := commonN_end (l := l) (k := k) (n := n) (by omega)
          have HN : Hid (C = (n, 0)) := by show _ = _; rw [HF.out, hc.out, hce]; rfl
          have d1 : decide (n < l.length) = true := decide_eq_true hl1
          have d2 : decide (n < k.length) = false := decide_eq_false hl2
          have HBB := Lib.hid (fun q => hbw.trans ((HD.out q).mono hbw.size))
          clear hb hce hc
          go_upto_region 5 with (fail)
          go_quiet (fail)
          go_wp2_with fail
          go_ret2
          exact ⟨by rw [HN.out]; rfl, HBB.out _⟩
      · have hce := commonN_end (l := l) (k := k) (n := n) (by omega)
        have HN : Hid (C = (n, 0)) := by show _ = _; rw [HF.out, hc.out, hce]; rfl
        have d1 : decide (n < l.length) = false := decide_eq_false hl1
        have HBB := Lib.hid (fun q => hbw.trans ((HD.out q).mono hbw.size))
        clear hb hce hc
        go_upto_region 5 with (fail)
        go_quiet (fail)
        go_wp2_with fail
        go_ret2
        exact ⟨by rw [HN.out]; rfl, HBB.out _⟩
  · have HF : Hid (C = (0, E)) := by show _ = _; rw [HL.out, if_pos hE]
    have hne : (E != 0) = true := by rw [bne_iff_ne]; exact hE
    have HBB := Lib.hid hbw
    clear hA hB hbw HL hE
    go_wp2_with fail
    go_ret2
    exact ⟨by rw [HF.out]; rfl, HBB.out⟩
end Go.Proofs.YtfjccjjdgbkbiaaDoor
namespace Go.Proofs.YtfjccjjdgbkbiaaDoor
open Go.RowKit
open Go.Lib (Utf8Tabs)
set_option linter.unusedVariables false

theorem sortS_short (a : Al) (l : List ByteArray) : (sortS a l).1.length ≤ 4096 ∧ ∀ x ∈ (sortS a l).1, x.length ≤ 64 := by
  by_cases h : (sortS a l).2 = 0
  · obtain ⟨hl, hok, _, _, hs⟩ := sorted_facts h
    refine ⟨?_, fun x hx => (hl x hx).2⟩
    have h2 : (sortS a ((sortS a l).1.map encR)).2 = 0 := by rw [hs]
    have := (sort_zero h2).2.1
    rwa [List.length_map] at this
  · rw [sort_err h]
    exact ⟨by simp, fun x hx => by simp at hx⟩
theorem order_walk (A1 A2 AL : Option Addr) (c1 c2 cl : Nat) (a : Al) (x y z : ByteArray) (l : List ByteArray) (w : World) (hin : AlIn w 0 w.heap.size A1 A2 a) (hT : Utf8Tabs 0 1 w)
    (hx : x.size ≤ maxLen) (hy : y.size ≤ maxLen) (hz : z.size ≤ maxLen) (hsl : Sl 1 vStr w 0 w.heap.size AL l) (hl : l.length ≤ 9223372036854775807) :
    Calls Tryd.prog 7 #[.agg #[.slice A1 a.feats.length c1, .slice A2 a.lets.length c2], .string x, .string y, .string z, .slice AL l.length cl] w fun e w' => e = .returned (.bool true) ∧ Below w.heap.size w w' := by
  have hs0 := LSt.new A1 A2 c1 c2 a w hin hT
  have hsh := sortS_short a l
  have hms : ∀ s ∈ (sortS a l).1.map encR, s.size ≤ maxLen := fun s hs => by
    obtain ⟨q, hq, rfl⟩ := List.mem_map.1 hs
    exact encR_max (by have := hsh.2 q hq; omega)
  have hS : ∀ (l : List ByteArray) (B : Option Addr) (d : Nat), l.length ≤ 9223372036854775807 → ∀ wx : World, LSt A1 A2 c1 c2 a w wx → Sl 1 vStr wx 0 wx.heap.size B l → Calls Tryd.prog 31 #[.agg #[.slice A1 a.feats.length c1, .slice A2 a.lets.length c2], .slice B l.length d] wx (StrsOut ((sortS a l).1.map encR, (sortS a l).2) wx) :=
    fun l B d hn wx h hsx => sort_any A1 A2 B c1 c2 d 0 a l wx h.al h.tabs hsx hn
  refine order_core A1 A2 AL c1 c2 cl a x y z l ((sortS a l).1.map encR) (cmpS a x y).1 (cmpS a y x).1 (cmpS a y z).1 (cmpS a x z).1 (cmpS a x y).2 (cmpS a y x).2 (cmpS a y z).2 (cmpS a x z).2 (sortS a l).2 w hs0 hsl hl
    (by rw [List.length_map]; exact hsh.1) (order_two a x y) (order_three a x y z) (fun wx h => awake_any wx h.tabs) ?_ ?_ ?_ ?_ ?_ ?_ ?_ ?_ ?_ hms ?_
  · exact fun wx h => cmp_any A1 A2 c1 c2 0 a x y wx h.al h.tabs hx hy
  · exact fun wx h => cmp_any A1 A2 c1 c2 0 a y x wx h.al h.tabs hy hx
  · exact fun wx h => cmp_any A1 A2 c1 c2 0 a y z wx h.al h.tabs hy hz
  · exact fun wx h => cmp_any A1 A2 c1 c2 0 a x z wx h.al h.tabs hx hz
  · exact fun wx h => hS l AL cl hl wx h (h.slice hsl)
  · intro he B d wx h hsx
    obtain ⟨_, _, _, _, hs⟩ := sorted_facts he
    have := hS ((sortS a l).1.map encR) B d (by rw [List.length_map]; have := hsh.1; omega) wx h hsx
    rw [hs] at this
    exact this
  · intro he i hi wx h
    have hi' : i + 1 < (sortS a l).1.length := by simpa using hi
    have := cmp_any A1 A2 c1 c2 0 a ((sortS a l).1.map encR)[i] ((sortS a l).1.map encR)[i + 1] wx h.al h.tabs (hms _ (List.getElem_mem _)) (hms _ (List.getElem_mem _))
    rw [List.getElem_map, List.getElem_map, sorted_next he hi'] at this
    rw [List.getElem_map, List.getElem_map]
    exact this
  · exact fun he s hs => ((sorted_facts he).2.2.2.1 s).1 hs
  · exact fun he s hs => ((sorted_facts he).2.2.2.1 s).2 hs
  · exact fun he => by rw [sort_err he]; rfl
end Go.Proofs.YtfjccjjdgbkbiaaDoor
namespace Go.Proofs.YtfjccjjdgbkbiaaDoor
open Go.RowKit
open Go.Lib (Utf8Tabs)
set_option linter.unusedVariables false

theorem row_walk (A1 A2 AL : Option Addr) (c1 c2 cl : Nat) (a : Al) (x y : ByteArray) (l : List ByteArray) (w : World) (hin : AlIn w 0 w.heap.size A1 A2 a) (hT : Utf8Tabs 0 1 w)
    (hx : x.size ≤ maxLen) (hy : y.size ≤ maxLen) (hsl : Sl 1 vStr w 0 w.heap.size AL l) (h16 : l.length * 16 ≤ 140737488351232) :
    Calls Tryd.prog 8 #[.agg #[.slice A1 a.feats.length c1, .slice A2 a.lets.length c2], .string x, .string y, .slice AL l.length cl] w fun e w' => e = .returned (.bool true) ∧ Below w.heap.size w w' := by
  have hs0 := LSt.new A1 A2 c1 c2 a w hin hT
  have hsh := sortS_short a l
  have hl : l.length ≤ 9223372036854775807 := by omega
  have hms : ∀ s ∈ (sortS a l).1.map encR, s.size ≤ maxLen := fun s hs => by
    obtain ⟨q, hq, rfl⟩ := List.mem_map.1 hs
    exact encR_max (by have := hsh.2 q hq; omega)
  refine row_core A1 A2 AL c1 c2 cl a x y l ((sortS a l).1.map encR) (cmpS a x y).1 (cmpS a x y).2 (commonS a x y).1 (commonS a x y).2 (sortS a l).2 (joinW a l).2 (joinW a l).1 w hs0 hsl hl h16 (by rw [List.length_map]; exact hsh.1) hms
    (fun wx h => awake_any wx h.tabs) ?_ ?_ ?_ ?_ ?_ ?_ ?_ ?_
  · exact fun wx h => cmp_any A1 A2 c1 c2 0 a x y wx h.al h.tabs hx hy
  · exact fun wx h => rcmp_any A1 A2 c1 c2 0 a x y wx h.al h.tabs hx hy
  · exact fun wx h => common_any A1 A2 c1 c2 0 a x y wx h.al h.tabs hx hy
  · exact fun wx h => rcommon_any A1 A2 c1 c2 0 a x y wx h.al h.tabs hx hy
  · exact fun B d wx h hs => sort_any A1 A2 B c1 c2 d 0 a l wx h.al h.tabs hs hl
  · exact fun B d wx h hs => rsort_any A1 A2 B c1 c2 d 0 a l wx h.al h.tabs hs hl
  · exact fun B d wx h hs => joinW_any A1 A2 B c1 c2 d 0 a l wx h.al h.tabs hs hl
  · exact fun B d wx h hs => rjoinW_any A1 A2 B c1 c2 d 0 a l wx h.al h.tabs hs hl
end Go.Proofs.YtfjccjjdgbkbiaaDoor
namespace Go.Proofs.YtfjccjjdgbkbiaaDoor
open Go.ChangeShapes Go.WideShapes Go.RowKit
set_option linter.unusedVariables false

def tLt : Ty Lt := ⟨3, vLt, fun _ => 4, fun _ => True⟩
set_option maxRecDepth 100000 in
theorem opens_Lt {H : Type} {enc : TypeId × Value → H} {w : World} : Opens enc Tryd.prog w 84 tLt := by
  refine ⟨by kernel_rfl, vLt_good, fun {fuel cs x ps} h hf => ?_⟩
  obtain ⟨ys, n, _, hx, hlen, hyl, hfs⟩ := DataW.trod_struct Tryd.underlying84 h
  have hlen' : cs.length = 3 := hlen.trans (by kernel_rfl)
  match cs, hlen', ys, hyl with
  | [c0, c1, c2], _, [y0, y1, y2], _ =>
    simp only [Prod.mk.injEq] at hx
    obtain ⟨rfl, rfl⟩ := hx
    have g0 := hfs 0 _ rfl
    have g1 := hfs 1 _ rfl
    have g2 := hfs 2 _ rfl
    have o0 := (opens_int Tryd.underlying21 (by kernel_rfl) : Opens enc Tryd.prog w _ _)
    have e0 : Tryd.prog.cellsOf _ = 1 := o0.size
    obtain ⟨a0, ⟨p0, k0⟩, _, m0, _⟩ := o0.cells (cs := [c0]) (x := y0.1) (ps := y0.2) (by simpa [e0] using g0) (fun b o hm => hf b o (List.mem_flatMap.2 ⟨y0, by simp, hm⟩))
    have o1 := (opens_int Tryd.underlying38 (by kernel_rfl) : Opens enc Tryd.prog w _ _)
    have e1 : Tryd.prog.cellsOf _ = 1 := o1.size
    obtain ⟨a1, ⟨p1, k1⟩, _, m1, _⟩ := o1.cells (cs := [c1]) (x := y1.1) (ps := y1.2) (by simpa [e1] using g1) (fun b o hm => hf b o (List.mem_flatMap.2 ⟨y1, by simp, hm⟩))
    obtain ⟨a2, ⟨p2, k2⟩, _, m2, _⟩ := o1.cells (cs := [c2]) (x := y2.1) (ps := y2.2) (by simpa [e1] using g2) (fun b o hm => hf b o (List.mem_flatMap.2 ⟨y2, by simp, hm⟩))
    have k1 := kin_u32 k1
    have k2 := kin_u32 k2
    have n1 : ((a1.toNat : Nat) : Int) = a1 := Int.toNat_of_nonneg k1.1
    have n2 : ((a2.toNat : Nat) : Int) = a2 := Int.toNat_of_nonneg k2.1
    simp only [List.cons.injEq, and_true] at p0 p1 p2
    refine ⟨⟨a0, a1.toNat, a2.toNat⟩, ⟨by rw [p0, p1, p2, n1, n2], k0, by show a1.toNat < _; omega, by show a2.toNat < _; omega⟩, rfl, ?_, fun _ => trivial⟩
    simp only [tLt, tInt, List.map_cons, List.map_nil, Rows.uptoBulk, Rows.uptoBulkAll] at m0 m1 m2 ⊢
    omega

def vAl : Rep Al := fun w lo hi cs x => ∃ c0 c1, cs = [c0, c1] ∧ vSl 1 vStr w lo hi [c0] x.feats ∧ vSl 3 vLt w lo hi [c1] x.lets
theorem vAl_good : vAl.Good :=
  ⟨fun k ⟨c0, c1, e, h0, h1⟩ => ⟨c0, c1, e, (vSl_good vStr_good).keep k h0, (vSl_good vLt_good).keep k h1⟩, fun a b ⟨c0, c1, e, h0, h1⟩ => ⟨c0, c1, e, (vSl_good vStr_good).wide a b h0, (vSl_good vLt_good).wide a b h1⟩⟩
def tAl : Ty Al := ⟨2, vAl, fun x => (tSl 16 tStr).m x.feats + (tSl 12 tLt).m x.lets + 1, fun x => (tSl 16 tStr).Q x.feats ∧ (tSl 12 tLt).Q x.lets⟩
set_option maxRecDepth 100000 in
theorem opens_Al {H : Type} {enc : TypeId × Value → H} {w : World} : Opens enc Tryd.prog w 25 tAl := by
  refine ⟨by kernel_rfl, vAl_good, fun {fuel cs x ps} h hf => ?_⟩
  obtain ⟨ys, n, _, hx, hlen, hyl, hfs⟩ := DataW.trod_struct Tryd.underlying25 h
  have hlen' : cs.length = 2 := hlen.trans (by kernel_rfl)
  match cs, hlen', ys, hyl with
  | [c0, c1], _, [y0, y1], _ =>
    simp only [Prod.mk.injEq] at hx
    obtain ⟨rfl, rfl⟩ := hx
    have g0 := hfs 0 _ rfl
    have g1 := hfs 1 _ rfl
    have o0 : Opens enc Tryd.prog w _ (tSl 16 tStr) := opens_slice Tryd.underlying22 (by kernel_rfl) (by kernel_rfl) (by decide) (opens_str Tryd.underlying9 (by kernel_rfl))
    have e0 : Tryd.prog.cellsOf _ = 1 := o0.size
    obtain ⟨a0, p0, _, m0, q0⟩ := o0.cells (cs := [c0]) (x := y0.1) (ps := y0.2) (by simpa [e0] using g0) (fun b o hm => hf b o (List.mem_flatMap.2 ⟨y0, by simp, hm⟩))
    have o1 : Opens enc Tryd.prog w _ (tSl 12 tLt) := opens_slice Tryd.underlying23 (by kernel_rfl) (by kernel_rfl) (by decide) opens_Lt
    have e1 : Tryd.prog.cellsOf _ = 1 := o1.size
    obtain ⟨a1, p1, _, m1, q1⟩ := o1.cells (cs := [c1]) (x := y1.1) (ps := y1.2) (by simpa [e1] using g1) (fun b o hm => hf b o (List.mem_flatMap.2 ⟨y1, by simp, hm⟩))
    refine ⟨⟨a0, a1⟩, ⟨c0, c1, rfl, p0, p1⟩, rfl, ?_, fun hq => ⟨q0 fun n hn => hq n (by simp only [DataW.weights, Tryd.underlying25]; exact weights_each 0 rfl rfl hn), q1 fun n hn => hq n (by simp only [DataW.weights, Tryd.underlying25]; exact weights_each 1 rfl rfl hn)⟩⟩
    simp only [tAl, List.map_cons, List.map_nil, Rows.uptoBulk, Rows.uptoBulkAll]
    omega
theorem al_cells {w : World} {lo hi : Nat} {cs : List Value} {x : Al} (h : vAl w lo hi cs x) :
    ∃ A1 c1 A2 c2, cs = [.slice A1 x.feats.length c1, .slice A2 x.lets.length c2] ∧ AlIn w lo hi A1 A2 x := by
  obtain ⟨s0, s1, rfl, ⟨A1, c1, e1, h1, h2, h3⟩, ⟨A2, c2, e2, h4, h5, h6⟩⟩ := h
  simp only [List.cons.injEq, and_true] at e1 e2
  unfold maxLen at h2 h5
  exact ⟨A1, c1, A2, c2, by rw [e1, e2], h3, h6, by omega, by omega⟩
end Go.Proofs.YtfjccjjdgbkbiaaDoor
namespace Go.Proofs.YtfjccjjdgbkbiaaDoor.wordRow
open Go.ChangeShapes Go.WideShapes Go.ChangeAt Go.RowKit
set_option linter.unusedVariables false

set_option maxRecDepth 100000 in
theorem contract (H : Type) (enc : TypeId × Value → H) (W : World) (base : Nat) (args : Array Value) (ds gs : List (DataW H)) (before : List MemPlace)
    (hval : ∀ (j : Nat) t v, Tryd.f8.params[j]? = some t → args[j]? = some v → Value.okWide Tryd.prog W .any base t v)
    (hW : DataW.Whole enc Tryd.prog Tryd.f8.params.toList Rows.wordRowSpec.vars false W args.toList ds gs before) (hL : laidMetH Tryd.prog utf8List W)
    (hz : (DataW.weightsEach Tryd.prog (Tryd.f8.params.toList ++ (OpenSpec.ofChange Rows.wordRowSpec).bare.plain.varTypes Tryd.prog) (ds ++ gs)).all (· ≤ reachBytes) = true) :
    Calls Tryd.prog 8 args W fun e W' => ∃ v, e = .returned v ∧ Rows.wordRowSpec.post enc Tryd.prog Tryd.f8 false true false false W args v W' := by
  have hW' := hW
  have hfr := free_of_whole hW
  obtain ⟨p, q, hA0, hV, rfl, hfz, hnd⟩ := hW
  have hA : DataW.TrodAll enc Tryd.prog W 0 (fun _ => true) true Tryd.f8.params.toList args.toList ds p := hA0
  rw [Tryd.params8] at hA hval hz
  obtain ⟨v0, vs0, d0, ds0, p0, q0, hargs, rfl, rfl, h0, r0⟩ := trodAll_cons hA
  obtain ⟨v1, vs1, d1, ds1, p1, q1, rfl, rfl, rfl, h1, r1⟩ := trodAll_cons r0
  obtain ⟨v2, vs2, d2, ds2, p2, q2, rfl, rfl, rfl, h2, r2⟩ := trodAll_cons r1
  obtain ⟨v3, vs3, d3, ds3, p3, q3, rfl, rfl, rfl, h3, r3⟩ := trodAll_cons r2
  obtain ⟨rfl, rfl, rfl⟩ := trodAll_nil r3
  obtain rfl : args = #[v0, v1, v2, v3] := by cases args; simp_all
  obtain ⟨rfl, rfl⟩ := trodVars_none hV
  have hvt : (OpenSpec.ofChange Rows.wordRowSpec).bare.plain.varTypes Tryd.prog = [] := rfl
  rw [hvt] at hz
  have hz' : ∀ n ∈ DataW.weightsEach Tryd.prog [25, 9, 9, 22] [d0, d1, d2, d3], n ≤ reachBytes := by
    intro n hn
    have := List.all_eq_true.1 hz n (by simpa using hn)
    simpa using this
  obtain ⟨cs0, a, rfl, hva, _, _⟩ := (opens_Al (enc := enc) (w := W)).struct_arg Tryd.underlying25 (hval 0 25 v0 rfl rfl) h0 hfr.left.left
  obtain ⟨A1a, c1a, A2a, c2a, hcs0, ha⟩ := al_cells hva
  obtain rfl : cs0 = #[.slice A1a a.feats.length c1a, .slice A2a a.lets.length c2a] := by cases cs0; simp_all
  obtain ⟨x, rfl, hx, _, _⟩ := Opens.str_arg Tryd.underlying9 (hval 1 9 v1 rfl rfl) h1
  obtain ⟨y, rfl, hy, _, _⟩ := Opens.str_arg Tryd.underlying9 (hval 2 9 v2 rfl rfl) h2
  have ho3 : Opens enc Tryd.prog W 22 (tSl 16 tStr) := opens_slice (enc := enc) (w := W) Tryd.underlying22 (by kernel_rfl) (by kernel_rfl) (by decide) (opens_str Tryd.underlying9 (by kernel_rfl))
  obtain ⟨Al, cl, l, rfl, hlcl, hcml, hl, _, hq3⟩ := ho3.slice_arg Tryd.underlying22 (hval 3 22 v3 rfl rfl) h3 hfr.left.right.right.right.left
  obtain ⟨hz3, _⟩ := hq3 (fun n hn => hz' n (weights_each 3 rfl rfl hn))
  rw [show reachBytes = 140737488351232 by decide] at hz3
  refine (row_walk A1a A2a Al c1a c2a cl a x y l W ha (tabs_laid hL) hx hy hl hz3).mono fun e W' ⟨he, hb⟩ => ?_
  subst he
  exact ⟨_, rfl, post_true laidOut (by rw [Tryd.params8]; intro t ht; simp only [List.mem_cons, List.not_mem_nil, or_false] at ht; rcases ht with rfl | rfl | rfl | rfl <;> exact ⟨by kernel_rfl, of_decide_eq_true (by kernel_rfl)⟩) (by kernel_rfl) Tryd.underlying4 rfl ⟨rfl, rfl, rfl⟩ hW' hb⟩

theorem reads (os : Os) {H : Type} (enc : TypeId × Value → H) : ∃ places, DataW.whole enc Tryd.prog ((laidWorld os).forCall (fun _ _ => 0) ⟨#[], #[.agg #[.slice none 0 0, .slice none 0 0], .string ⟨#[]⟩, .string ⟨#[]⟩, .slice none 0 0], []⟩).memory Tryd.f8.params.toList Rows.wordRowSpec.vars false #[Value.agg #[.slice none 0 0, .slice none 0 0], .string ⟨#[]⟩, .string ⟨#[]⟩, .slice none 0 0].toList 8 = some ([.agg [.nil, .nil], .lit (.string []), .lit (.string []), .nil], [], places) :=
  ⟨[], by kernel_rfl⟩

set_option maxRecDepth 100000 in
theorem lifted (os : Os) (started : os.Started) (H : Type) (enc : TypeId × Value → H) (F : Stop.Interp) :
    ReturnsInHanded {} Tryd.checked os 8 .any ((OpenSpec.ofChange Rows.wordRowSpec).preRow enc Tryd.prog Tryd.f8 Rows.wordRowRow.domain false Rows.wordRowRow.laid) (((OpenSpec.ofChange Rows.wordRowSpec).at F).post enc Tryd.prog Tryd.f8 false true false false) := by
  obtain ⟨places, hx⟩ := reads os enc
  refine returnsInHanded_of_row (C := Tryd.checked) (s := OpenSpec.ofChange Rows.wordRowSpec) own started (by kernel_rfl) Tryd.func8
    (witness_row_at (enc := enc) (C := Tryd.checked) false (laidWorld os) #[.agg #[.slice none 0 0, .slice none 0 0], .string ⟨#[]⟩, .string ⟨#[]⟩, .slice none 0 0] rfl (by kernel_rfl) (by kernel_rfl) (by kernel_rfl)
      (OpenSpec.preRow_of_cond 8 hx (by kernel_rfl) (fun k hk => by cases hk) (by kernel_rfl) (laid_met os _))) ?_
  intro W base args ds gs before hval hW _ _ hz hL _ _
  exact contract H enc W base args ds gs before hval hW hL hz

theorem said : Rows.WordRowSaid :=
  OpenClaim.holds_of_cond 8 Tryd.f8 rfl rfl rfl rfl rfl rfl rfl ⟨rfl, rfl, rfl, rfl, rfl⟩ rfl rfl rfl rfl rfl (by kernel_rfl) Tryd.func8 (by kernel_rfl)
    (of_decide_eq_true (by kernel_rfl)) (by unfold Func.isWrapper; first | (rw [if_pos (by decide +kernel)]; kernel_rfl) | (rw [if_neg (by decide +kernel)]; exact ⟨rfl, rfl⟩))
    (fun os started H enc _ F => by rw [OpenClaim.pre_eq_preRow]; exact lifted os started H enc F)

/-- No parameter wants a stand-in; the program's own looks are off. -/
theorem plain (f : FuncId) (fn : Func) (hf : Tryd.pinned.checked.prog.funcNamed "cognate/cognatelaw03.WordRow" = some f) (hfn : Tryd.pinned.checked.prog.funcs[f]? = some fn) :
    false = Tryd.pinned.checked.prog.looks [] ∧ ∀ (j : Nat) t, fn.params[j]? = some t → Tryd.pinned.checked.prog.wantsStandIn t = false := by
  obtain rfl : f = 8 := Option.some.inj ((show Tryd.prog.funcNamed "cognate/cognatelaw03.WordRow" = some 8 by kernel_rfl).symm.trans hf) |>.symm
  obtain rfl : fn = Tryd.f8 := (Option.some.inj (Tryd.func8.symm.trans hfn)).symm
  refine ⟨by kernel_rfl, fun j t ht => ?_⟩
  rw [Tryd.params8] at ht
  have hm := Array.mem_of_getElem? ht
  simp only [List.mem_toArray, List.mem_cons, List.not_mem_nil, or_false] at hm
  rcases hm with rfl | rfl | rfl | rfl
  · exact (show Tryd.prog.wantsStandIn 25 = false by kernel_rfl)
  · exact (show Tryd.prog.wantsStandIn 9 = false by kernel_rfl)
  · exact (show Tryd.prog.wantsStandIn 9 = false by kernel_rfl)
  · exact (show Tryd.prog.wantsStandIn 22 = false by kernel_rfl)

theorem proved : Rows.WordRowCardSaid :=
  Claim7.holds_tied_plain_at .later [] _ _ _ _ said (fun _ h => by cases h) (by kernel_rfl) (fun _ h => by cases h) wordRow_row_tie rfl ⟨rfl, rfl⟩ (by kernel_rfl) rfl plain (by kernel_rfl)
#print axioms proved
end Go.Proofs.YtfjccjjdgbkbiaaDoor.wordRow
