/- The document's Part, Turned, Text; SameRunes. The document's Text; SameRunes; the example that every statement on words opens with. -/
import Derived.Test.YtfjccjjdgbkbiaaDoorWr12
import Derived.Test.YtfjccjjdgbkbiaaDoorWr14
namespace Go.Proofs.YtfjccjjdgbkbiaaDoor
open Go.RowKit
open Go.Lib (Utf8Tabs)
set_option linter.unusedVariables false

set_option maxHeartbeats 4000000 in
set_option maxRecDepth 100000 in
theorem rpart_any (A1 A2 : Option Addr) (c1 c2 lo : Nat) (a : Al) (s : ByteArray) (f t : Int) (w : World) (hin : AlIn w lo w.heap.size A1 A2 a) (hT : Utf8Tabs 0 1 w) (hm : s.size ≤ maxLen) (hf : i64 f) (ht : i64 t) :
    Calls Tryd.prog 15 #[.agg #[.slice A1 a.feats.length c1, .slice A2 a.lets.length c2], .string s, .int .i64 f, .int .i64 t] w (StrOut (partW a s f t) w) := by
  have hal : Below w.heap.size w (w.alloc (.cells #[.slice A1 a.feats.length c1, .slice A2 a.lets.length c2] 25)) := (Below.refl _ _).alloc (Nat.le_refl _) _
  have hcall := Lib.hid (rletters_any A1 A2 c1 c2 lo a s _ (hin.on hal) (Utf8Tabs_below hT hal) hm)
  have hlen := letters_len a s
  have herr := letters_err a s
  have HT : Hid (partW a s f t = if (lettersS a s).2 ≠ 0 then (⟨#[]⟩, (lettersS a s).2) else if f < 0 ∨ t < f ∨ ((lettersS a s).1.length : Int) < t then (⟨#[]⟩, 2) else (encR (((lettersS a s).1.drop f.toNat).take (t.toNat - f.toNat)), 0)) := rfl
  obtain ⟨hf1, hf2⟩ := hf
  obtain ⟨ht1, ht2⟩ := ht
  generalize lettersS a s = R at *
  obtain ⟨l, E⟩ := R
  simp only at *
  rcases herr with h0 | ⟨h1, h2, h3⟩
  · subst h0
    by_cases hbad : f < 0 ∨ t < f ∨ (l.length : Int) < t
    · have HTT : Hid (partW a s f t = (⟨#[]⟩, 2)) := by show _ = _; rw [HT.out, if_neg (by simp), if_pos hbad]
      clear HT
      rcases (show f < 0 ∨ (0 ≤ f ∧ t < f) ∨ (0 ≤ f ∧ f ≤ t ∧ (l.length : Int) < t) by omega) with g1 | ⟨g1, g2⟩ | ⟨g1, g2, g3⟩
      all_goals
        clear hbad
        go_enter Tryd.func15, Tryd.ntmps15
        go_wp2_with fail
        refine hcall.out.mono ?_
        rintro e w1 ⟨A, c, rfl, hown, hb1⟩
        have HF := Lib.hid (StrOut.mk' HTT.out (hal.trans (hb1.mono (by simp))))
        clear hcall hown HTT
        go_wp2_with fail
        go_ret2
        exact HF.out
    · obtain ⟨f, rfl⟩ := Int.eq_ofNat_of_zero_le (show 0 ≤ f by omega)
      obtain ⟨t, rfl⟩ := Int.eq_ofNat_of_zero_le (show 0 ≤ t by omega)
      have g2 : f ≤ t := by omega
      have g3 : t ≤ l.length := by omega
      have HTT : Hid (partW a s f t = (encR ((l.drop f).take (t - f)), 0)) := by show _ = _; rw [HT.out, if_neg (by simp), if_neg hbad]; rfl
      clear HT hbad
      have d1 : ¬ ((t : Int) < (f : Int)) := by omega
      have d2 : ¬ ((l.length : Int) < (t : Int)) := by omega
      go_enter Tryd.func15, Tryd.ntmps15
      go_wp2_with fail
      refine hcall.out.mono ?_
      rintro e w1 ⟨A, c, rfl, hown, hb1⟩
      have HF := Lib.hid (StrOut.mk' HTT.out (hal.trans (hb1.mono (by simp))))
      obtain ⟨_, _, e0, hlc, hcm⟩ := own_form hown
      injection e0 with e01 _ e02
      subst e01 e02
      have hlc : l.length ≤ c := hlc
      by_cases htf : t = f
      · subst htf
        have hx : encR ((l.drop t).take (t - t)) = encR [] := by rw [Nat.sub_self, List.take_zero]
        rw [hx] at HF
        by_cases hct : c = t
        · subst hct
          have hcv := conv_runes (P := Tryd.prog) (src := 26) (dst := 9) (n := 0) (c := 0) Tryd.underlying26 Tryd.underlying21 Tryd.underlying9 (RunesAt.none (w := w1) A) rfl
          generalize encR [] = X at *
          clear hcall hown HTT hx
          go_wp2_with fail
          go_ret2
          exact HF.out
        · have hcv := conv_runes (P := Tryd.prog) (src := 26) (dst := 9) (n := 0) (c := c - t) Tryd.underlying26 Tryd.underlying21 Tryd.underlying9 (RunesAt.none (w := w1) (Option.map (fun x => x.add t) A)) rfl
          generalize encR [] = X at *
          clear hcall hown HTT hx
          go_wp2_with fail
          go_ret2
          exact HF.out
      · have hl2 : t - f = ((l.drop f).take (t - f)).length := by
          rw [List.length_take, List.length_drop, Nat.min_eq_left (by omega)]
        have hcv := conv_runes (P := Tryd.prog) (src := 26) (dst := 9) (n := t - f) (c := c - f) Tryd.underlying26 Tryd.underlying21 Tryd.underlying9 ((runes_own hown).part f t) hl2
        generalize encR ((l.drop f).take (t - f)) = X at *
        have hcf : ¬ c = f := by omega
        clear hcall hown HTT hl2
        go_wp2_with fail
        go_ret2
        exact HF.out
  · subst h3
    have HTT : Hid (partW a s f t = (⟨#[]⟩, E)) := by show _ = _; rw [HT.out, if_pos (by omega)]
    have hne : (E != 0) = true := by rw [bne_iff_ne]; omega
    clear HT
    go_enter Tryd.func15, Tryd.ntmps15
    go_wp2_with fail
    refine hcall.out.mono ?_
    rintro e w1 ⟨A, c, rfl, hown, hb1⟩
    have HF := Lib.hid (StrOut.mk' HTT.out (hal.trans (hb1.mono (by simp))))
    clear hcall hown HTT
    go_wp2_with fail
    go_ret2
    exact HF.out


def RTurnSt (l : List Int) (W : World) (m i : Value) (wr : World) : Prop :=
  ∃ (k : Nat) (A : Option Addr) (c : Nat), k ≤ l.length ∧ i = .int .i64 ((k : Int) - 1) ∧ m = .slice A (l.drop k).reverse.length c ∧ wr.ownsRow W.heap.size 21 1 (.slice A (l.drop k).reverse.length c) (l.drop k).reverse.length (runeVs (l.drop k).reverse) ∧ Below W.heap.size W wr
set_option maxHeartbeats 4000000 in
set_option maxRecDepth 100000 in
theorem rturned_any (A1 A2 : Option Addr) (c1 c2 lo : Nat) (a : Al) (s : ByteArray) (w : World) (hin : AlIn w lo w.heap.size A1 A2 a) (hT : Utf8Tabs 0 1 w) (hm : s.size ≤ maxLen) :
    Calls Tryd.prog 17 #[.agg #[.slice A1 a.feats.length c1, .slice A2 a.lets.length c2], .string s] w (StrOut (turnedS a s) w) := by
  obtain ⟨i1, hi1, hy0, hy1, hy2⟩ := info_parts rune_info
  have hal : Below w.heap.size w (w.alloc (.cells #[.slice A1 a.feats.length c1, .slice A2 a.lets.length c2] 25)) := (Below.refl _ _).alloc (Nat.le_refl _) _
  have hcall := Lib.hid (rletters_any A1 A2 c1 c2 lo a s _ (hin.on hal) (Utf8Tabs_below hT hal) hm)
  have hlen := letters_len a s
  have herr := letters_err a s
  have HT : Hid (turnedS a s = if (lettersS a s).2 ≠ 0 then (⟨#[]⟩, (lettersS a s).2) else (encR (lettersS a s).1.reverse, 0)) := rfl
  generalize lettersS a s = R at *
  obtain ⟨l, E⟩ := R
  simp only at *
  rcases herr with h0 | ⟨h1, h2, h3⟩
  · subst h0
    have HTT : Hid (turnedS a s = (encR l.reverse, 0)) := by show _ = _; rw [HT.out, if_neg (by simp)]
    clear HT
    go_enter Tryd.func17, Tryd.ntmps17
    go_wp2_with fail
    refine hcall.out.mono ?_
    rintro e w1 ⟨Al, cl, rfl, hown, hb1⟩
    have hbw := hal.trans (hb1.mono (by simp))
    have hz1 := hbw.size
    have hcells := fun (j : Nat) (hj : j < l.length) => (runes_own hown)
    have HO := Lib.hid hown
    clear hcall hcells
    have HST := Lib.hid (show RTurnSt l w1 (.slice none 0 0) (.int .i64 ((l.length : Int) - 1)) w1 from ⟨l.length, none, 0, Nat.le_refl _, rfl, by rw [List.drop_length]; rfl, by rw [List.drop_length]; exact World.ownsRow_nil _ _ _ _, Below.refl _ _⟩)
    go_wp2_with fail
    go_loopw [8, 9] (fun m i wr => RTurnSt l w1 m i wr) (fun _ i _ => (intOf i + 1).toNat)
    case atStart => exact HST.out
    case round =>
      clear HST
      rename_i wr0
      obtain ⟨k, Av, cv, hk, rfl, rfl, hrow, hb⟩ := hrel
      have hbs := hb.size
      cases k with
      | zero =>
        have hconv := conv_runes (P := Tryd.prog) (src := 26) (dst := 9) (n := (l.drop 0).reverse.length) (c := cv) Tryd.underlying26 Tryd.underlying21 Tryd.underlying9 (runes_own hrow) rfl
        have HF := Lib.hid (StrOut.mk' HTT.out (hbw.trans (hb.mono hz1)))
        rw [List.drop_zero] at hconv ⊢
        generalize encR l.reverse = X at *
        generalize l.reverse.length = n at *
        clear hrow HTT HO
        go_wp2_with fail
        go_ret2
        exact HF.out
      | succ k =>
        have hlt : k < l.length := by omega
        obtain ⟨gl, cl', e0, _, _, _, hgl⟩ := own_pos HO.out (by omega)
        injection e0 with e01 _ e02
        subst e01 e02
        have hc0 := (own_cel HO.out (j := k) (u := .int .i32 l[k]) (by unfold runeVs; rw [List.getElem?_map, List.getElem?_eq_getElem hlt]; rfl)).keep (Kp.of_below hb) (Nat.zero_le _) hgl
        obtain ⟨c0, f0⟩ := hc0
        have hrv : (l.drop (k + 1)).reverse ++ [l[k]] = (l.drop k).reverse := by rw [List.drop_eq_getElem_cons hlt, List.reverse_cons]
        have hrl : (l.drop (k + 1)).reverse.length = l.length - (k + 1) := by simp
        generalize hx : l[k] = x at *
        generalize hR : (l.drop (k + 1)).reverse = R at *
        have hal1 : Below wr.heap.size wr (wr.alloc (.cells #[.int .i32 x] 21)) := (Below.refl _ _).alloc (Nat.le_refl _) _
        have hownB := own_below hrow hal1
        have hnews := (Row.new wr 21 [.int .i32 x]).news
        have hone : ∀ u ∈ [Value.int .i32 x], u.oneCell' = true := by intro u hu; rw [List.mem_singleton.1 hu]; rfl
        have h63 : R.length + 1 ≤ maxLen := by unfold maxLen; omega
        have hby : (R.length + 1) * 4 ≤ 140737488355328 := by omega
        have hlo : w1.heap.size ≤ (wr.alloc (.cells #[.int .i32 x] 21)).heap.size := by simp; omega
        have hbB := hb.trans (hal1.mono hbs)
        have hge := fun j hj => (hrow.lt j hj).1
        have HX := Lib.hid hx
        have HRL := Lib.hid hrl
        have HRV := Lib.hid hrv
        have HRR := Lib.hid hR
        clear hx hrl hrv hR hrow hal1
        have i1' : 0 ≤ (k : Int) := by omega
        have i2' : (k : Int) < (l.length : Int) := by omega
        rw [show ((k + 1 : Nat) : Int) - 1 = (k : Int) by omega]
        go_wp2_with (at_builtin; refine wpList_append_lies _ rfl _ _ 26 rfl w1.heap.size 21 i1 (.int .i32 0) 1 4 Tryd.underlying26 hi1 hy0 hy1 hy2 rfl (by decide) (.slice Av R.length cv) R.length (runeVs R) rfl hownB ⟨wr.heap.size, 0, none⟩ 1 1 [.int .i32 x] rfl rfl hnews hone (by decide) h63 hby hlo _ rfl ?_)
        intro g cap w5 hown5 hgr5 hat5 hlt5
        have hb5 := hbB.grown hgr5 hlo hge
        have hfin : RTurnSt l w1 (.slice (some ⟨g, 0, none⟩) (R.length + 1) cap) (.int .i64 ((k : Int) - 1)) w5 := by
          have e1 : R.length + 1 = (l.drop k).reverse.length := by rw [← HRV.out, List.length_append]; rfl
          have e2 : runeVs R ++ [.int .i32 x] = runeVs (l.drop k).reverse := by rw [← HRV.out]; unfold runeVs; rw [List.map_append]; rfl
          rw [e1, e2] at hown5
          exact ⟨k, _, cap, by omega, rfl, by rw [e1], hown5, hb5⟩
        have HF := Lib.hid hfin
        clear hfin hown5 hgr5 hat5 hownB hnews hone hge
        go_wp2_with fail
        exact ⟨HF.out, by simp [intOf]⟩
  · subst h3
    have HTT : Hid (turnedS a s = (⟨#[]⟩, E)) := by show _ = _; rw [HT.out, if_pos (by omega)]
    have hne : (E != 0) = true := by rw [bne_iff_ne]; omega
    clear HT
    go_enter Tryd.func17, Tryd.ntmps17
    go_wp2_with fail
    refine hcall.out.mono ?_
    rintro e w1 ⟨A, c, rfl, hown, hb1⟩
    have HF := Lib.hid (StrOut.mk' HTT.out (hal.trans (hb1.mono (by simp))))
    clear hcall hown HTT
    go_wp2_with fail
    go_ret2
    exact HF.out
end Go.Proofs.YtfjccjjdgbkbiaaDoor
namespace Go.Proofs.YtfjccjjdgbkbiaaDoor
open Go.RowKit
open Go.Lib (Utf8Tabs)
set_option linter.unusedVariables false

set_option maxHeartbeats 2000000 in
theorem sameRunes_yes (A B : Option Addr) (c d : Nat) (l : List Int) (w : World) (h1 : RunesAt w A l) (h2 : RunesAt w B l) :
    Calls Tryd.prog 20 #[.slice A l.length c, .slice B l.length d] w fun e w' => e = .returned (.bool true) ∧ w = w' := by
  have k1 := conv_runes (P := Tryd.prog) (src := 26) (dst := 9) (n := l.length) (c := c) Tryd.underlying26 Tryd.underlying21 Tryd.underlying9 h1 rfl
  have k2 := conv_runes (P := Tryd.prog) (src := 26) (dst := 9) (n := l.length) (c := d) Tryd.underlying26 Tryd.underlying21 Tryd.underlying9 h2 rfl
  generalize encR l = X at *
  generalize l.length = n at *
  clear h1 h2
  go_enter Tryd.func20, Tryd.ntmps20
  go_wp2_with fail
  go_ret
  exact ⟨rfl, rfl⟩

def RTextSt (a : Al) (l : List Int) (W : World) (i : Value) (wr : World) : Prop := ∃ k : Nat, k ≤ l.length ∧ i = .int .i64 (k : Int) ∧ l.all (isLet a) = (l.drop k).all (isLet a) ∧ Below W.heap.size W wr
set_option maxHeartbeats 4000000 in
set_option maxRecDepth 100000 in
theorem rtext_any (A1 A2 A : Option Addr) (c1 c2 c lo hi : Nat) (a : Al) (l : List Int) (w : World) (hin : AlIn w lo w.heap.size A1 A2 a) (hsl : Sl 1 (vInt .i32) w lo w.heap.size A l) (hn : l.length ≤ 9223372036854775807) :
    Calls Tryd.prog 13 #[.agg #[.slice A1 a.feats.length c1, .slice A2 a.lets.length c2], .slice A l.length c] w (StrOut (textS a l) w) := by
  have hal : Below w.heap.size w (w.alloc (.cells #[.slice A1 a.feats.length c1, .slice A2 a.lets.length c2] 25)) := (Below.refl _ _).alloc (Nat.le_refl _) _
  have hr0 := Row.new w 25 [.slice A1 a.feats.length c1, .slice A2 a.lets.length c2]
  have hcall := Lib.hid (rcheck_any A1 A2 c1 c2 lo a _ (hin.on hal))
  have HT : Hid (textS a l = if alOk a = false then (⟨#[]⟩, 7) else if 256 < l.length then (⟨#[]⟩, 4) else if l.all (isLet a) then (encR l, 0) else (⟨#[]⟩, 5)) := rfl
  cases hok : alOk a with
  | false =>
    have he : alE a = 7 := by unfold alE; rw [hok]; rfl
    rw [he] at hcall
    have HTT : Hid (textS a l = (⟨#[]⟩, 7)) := by show _ = _; rw [HT.out, if_pos hok]
    clear hok he HT
    go_enter Tryd.func13, Tryd.ntmps13
    go_wp2_with fail
    refine hcall.out.mono ?_
    rintro e w1 ⟨rfl, hb1⟩
    go_wp2_with fail
    go_ret2
    exact StrOut.mk' HTT.out (hal.trans (hb1.mono (by simp)))
  | true =>
    have he : alE a = 0 := alE_zero.2 hok
    rw [he] at hcall
    have HT1 : Hid (textS a l = if 256 < l.length then (⟨#[]⟩, 4) else if l.all (isLet a) then (encR l, 0) else (⟨#[]⟩, 5)) := by show _ = _; rw [HT.out, if_neg (by rw [hok]; simp)]
    clear hok he HT
    by_cases hlong : 256 < l.length
    · have HTT : Hid (textS a l = (⟨#[]⟩, 4)) := by show _ = _; rw [HT1.out, if_pos hlong]
      go_enter Tryd.func13, Tryd.ntmps13
      go_wp2_with fail
      refine hcall.out.mono ?_
      rintro e w1 ⟨rfl, hb1⟩
      go_wp2_with fail
      go_ret2
      exact StrOut.mk' HTT.out (hal.trans (hb1.mono (by simp)))
    · have HT2 : Hid (textS a l = if l.all (isLet a) then (encR l, 0) else (⟨#[]⟩, 5)) := by show _ = _; rw [HT1.out, if_neg hlong]
      clear HT1
      go_enter Tryd.func13, Tryd.ntmps13
      go_wp2_with fail
      refine hcall.out.mono ?_
      rintro e w1 ⟨rfl, hb1⟩
      have hbw := hal.trans (hb1.mono (by simp))
      have hr1 := hr0.below hb1 hr0.lt
      have hrl := hr1.lt
      have hz1 := hbw.size
      have hs1 := hsl.below (vInt_good _) hbw (Nat.le_refl _)
      clear hcall hb1 hal
      go_wp2_with fail
      go_loopw [7] (fun i wr => RTextSt a l w1 i wr) (fun i _ => l.length - (intOf i).toNat)
      case atStart => exact ⟨0, by omega, rfl, by rw [List.drop_zero], Below.refl _ _⟩
      case round =>
        obtain ⟨k, hk, rfl, hall, hb⟩ := hrel
        have HA := Lib.hid hall
        clear hall
        have hbs := hb.size
        by_cases hlt : k < l.length
        · obtain ⟨bp, op, rfl, _, hbp, ⟨c0, f0⟩, hkin⟩ := ints_at (hs1.below (vInt_good _) hb hz1) hlt
          have hkr := kin_i32 hkin
          have hstep := all_step (isLet a) l k hlt
          have hr2 := hr1.below hb hrl
          obtain ⟨q0, g0⟩ := hr2.cel (i := 0) rfl
          obtain ⟨q1, g1⟩ := hr2.cel (i := 1) rfl
          have hc1 : ∀ wx, Below wr.heap.size wr wx → wx.cell? ⟨bp, op + k, none⟩ = some (.int .i32 l[k]) ∧ wx.cell? ⟨w.heap.size, 0, none⟩ = some (.slice A1 a.feats.length c1) ∧ wx.cell? ⟨w.heap.size, 1, none⟩ = some (.slice A2 a.lets.length c2) := fun wx hx =>
            ⟨(Cel.keep (Kp.of_below hx) (Nat.zero_le _) (by omega) ⟨c0, f0⟩).1, (Cel.keep (Kp.of_below hx) (Nat.zero_le _) (by omega) ⟨q0, g0⟩).1, (Cel.keep (Kp.of_below hx) (Nat.zero_le _) (by omega) ⟨q1, g1⟩).1⟩
          have hnum : ∀ wx, Below wr.heap.size wr wx → Calls Tryd.prog 45 #[.agg #[.slice A1 a.feats.length c1, .slice A2 a.lets.length c2], .int .i32 l[k]] wx fun e w' => e = .returned (.int .i64 (numI a l[k])) ∧ Below wr.heap.size wr w' := fun wx hx => by
            refine (number_any A1 A2 c1 c2 lo a l[k] wx (hin.on ((hbw.trans (hb.mono hz1)).trans (hx.mono (by omega)))) hkr).mono ?_
            rintro e w' ⟨rfl, hy⟩
            exact ⟨rfl, hx.trans (hy.mono hx.size)⟩
          generalize l[k] = x at *
          have HS := Lib.hid hstep
          have HC := Lib.hid hc1
          have HNUM := Lib.hid hnum
          clear hstep hkin hc1 hnum hr2
          have hd : Below wr.heap.size wr wr.drew := below_drewN (Below.refl _ _) 1
          have j0 : 0 ≤ (k : Int) := by omega
          have j1 : (k : Int) < (l.length : Int) := by omega
          cases hisl : isLet a x with
          | false =>
            have hni := numI_no hisl
            rw [hni] at HNUM
            have HF := Lib.hid (fun w2 h => StrOut.mk' (W := w) (w' := w2) (show textS a l = (⟨#[]⟩, 5) by rw [HT2.out, HA.out, HS.out, hisl]; rfl) h)
            clear hisl HA HS HT2 hni
            go_upto_region 9 with (fail)
            refine wp_region_class (fun wx => Below wr.heap.size wr wx) (by kernel_rfl) (by kernel_rfl) hd ?_
            repeat (first
              | go_big_quiet_skip
              | (go_big_quiet_want; go_big_quiet_op; first
                  | go_big_quiet_on
                  | (apply Exists.intro
                     refine ⟨fun wx hx => ?_, ?_⟩
                     · (first
                        | exact rfl
                        | (have e1 := (HC.out wx hx).1; simp only [e1, Result.andThen]; exact ⟨trivial, rfl⟩)
                        | (have e1 := (HC.out wx hx).2.1; have e2 := (HC.out wx hx).2.2; simp only [e1, e2, Result.andThen]; exact ⟨trivial, rfl⟩)
                        | (go_at_call 45; with_reducible exact HNUM.out wx hx))
                     go_big_quiet_on)))
            refine wpQuiet_nil ?_
            intro w5 hq
            have hb5 := hb.trans (hq.mono hbs)
            clear HC HNUM
            go_wp2_with fail
            go_ret2
            exact HF.out _ (hbw.trans (hb5.mono hz1))
          | true =>
            have hni := (numI_yes hisl).1
            generalize numI a x = ni at *
            have HN : Hid (l.all (isLet a) = (l.drop (k + 1)).all (isLet a)) := by show _ = _; rw [HA.out, HS.out, hisl, Bool.true_and]
            clear hisl HA HS
            go_upto_region 9 with (fail)
            refine wp_region_class (fun wx => Below wr.heap.size wr wx) (by kernel_rfl) (by kernel_rfl) hd ?_
            repeat (first
              | go_big_quiet_skip
              | (go_big_quiet_want; go_big_quiet_op; first
                  | go_big_quiet_on
                  | (apply Exists.intro
                     refine ⟨fun wx hx => ?_, ?_⟩
                     · (first
                        | exact rfl
                        | (have e1 := (HC.out wx hx).1; simp only [e1, Result.andThen]; exact ⟨trivial, rfl⟩)
                        | (have e1 := (HC.out wx hx).2.1; have e2 := (HC.out wx hx).2.2; simp only [e1, e2, Result.andThen]; exact ⟨trivial, rfl⟩)
                        | (go_at_call 45; with_reducible exact HNUM.out wx hx))
                     go_big_quiet_on)))
            refine wpQuiet_nil ?_
            intro w5 hq
            have hb5 := hb.trans (hq.mono hbs)
            clear HC HNUM
            go_wp2_with fail
            exact ⟨⟨k + 1, by omega, by go_num, HN.out, hb5⟩, by simp [intOf]; omega⟩
        · obtain rfl : k = l.length := by omega
          have HF := Lib.hid (StrOut.mk' (show textS a l = (encR l, 0) by rw [HT2.out, HA.out, List.drop_length]; rfl) (hbw.trans (hb.mono hz1)))
          have hconv := conv_runes (P := Tryd.prog) (src := 26) (dst := 9) (n := l.length) (c := c) Tryd.underlying26 Tryd.underlying21 Tryd.underlying9 (runes_sl (hs1.below (vInt_good _) hb hz1)) rfl
          generalize encR l = X at *
          clear HA HT2
          go_wp2_with fail
          go_ret2
          exact HF.out
end Go.Proofs.YtfjccjjdgbkbiaaDoor
