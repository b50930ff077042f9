/- word.Part, word.Text. -/
import Derived.Test.YtfjccjjdgbkbiaaDoorWr11
namespace Go.Proofs.YtfjccjjdgbkbiaaDoor
open Go.RowKit
open Go.Lib (Utf8Tabs)
set_option linter.unusedVariables false

theorem RunesAt.part {w : World} {A : Option Addr} {l : List Int} (h : RunesAt w A l) (f t : Nat) : RunesAt w (Option.map (fun x => x.add f) A) ((l.drop f).take (t - f)) := by
  refine ⟨fun hA => ?_, fun ad ha j v hj => ?_⟩
  · cases A with
    | none =>
      have := h.1 rfl
      subst this
      simp
    | some ad => cases hA
  · cases A with
    | none => cases ha
    | some ad0 =>
      simp only [Option.map_some, Option.some.injEq] at ha
      subst ha
      unfold runeVs at hj
      rw [List.getElem?_map, List.getElem?_take] at hj
      split at hj
      · rw [List.getElem?_drop, ← List.getElem?_map] at hj
        have := h.2 ad0 rfl (f + j) v hj
        rw [add_add]
        exact this
      · cases hj
theorem RunesAt.none {w : World} (A : Option Addr) : RunesAt w A [] := ⟨fun _ => rfl, fun ad _ j v hj => by simp [runeVs] at hj⟩
def i64 (a : Int) : Prop := -9223372036854775808 ≤ a ∧ a ≤ 9223372036854775807
set_option maxHeartbeats 4000000 in
set_option maxRecDepth 100000 in
theorem wpart_any (A1 A2 : Option Addr) (c1 c2 lo : Nat) (a : Al) (s : ByteArray) (f t : Int) (w : World) (hin : AlIn w lo w.heap.size A1 A2 a) (hT : Utf8Tabs 0 1 w) (hm : s.size ≤ maxLen) (hf : i64 f) (ht : i64 t) :
    Calls Tryd.prog 14 #[.agg #[.slice A1 a.feats.length c1, .slice A2 a.lets.length c2], .string s, .int .i64 f, .int .i64 t] w (StrOut (partW a s f t) w) := by
  have hal : Below w.heap.size w (w.alloc (.cells #[.slice A1 a.feats.length c1, .slice A2 a.lets.length c2] 25)) := (Below.refl _ _).alloc (Nat.le_refl _) _
  have hcall := Lib.hid (letters_any A1 A2 c1 c2 lo a s _ (hin.on hal) (Utf8Tabs_below hT hal) hm)
  have hlen := letters_len a s
  have herr := letters_err a s
  have HT : Hid (partW a s f t = if (lettersS a s).2 ≠ 0 then (⟨#[]⟩, (lettersS a s).2) else if f < 0 ∨ t < f ∨ ((lettersS a s).1.length : Int) < t then (⟨#[]⟩, 2) else (encR (((lettersS a s).1.drop f.toNat).take (t.toNat - f.toNat)), 0)) := rfl
  obtain ⟨hf1, hf2⟩ := hf
  obtain ⟨ht1, ht2⟩ := ht
  generalize lettersS a s = R at *
  obtain ⟨l, E⟩ := R
  simp only at *
  rcases herr with h0 | ⟨h1, h2, h3⟩
  · subst h0
    by_cases hbad : f < 0 ∨ t < f ∨ (l.length : Int) < t
    · have HTT : Hid (partW a s f t = (⟨#[]⟩, 2)) := by show _ = _; rw [HT.out, if_neg (by simp), if_pos hbad]
      clear HT
      rcases (show f < 0 ∨ (0 ≤ f ∧ t < f) ∨ (0 ≤ f ∧ f ≤ t ∧ (l.length : Int) < t) by omega) with g1 | ⟨g1, g2⟩ | ⟨g1, g2, g3⟩
      all_goals
        clear hbad
        go_enter Tryd.func14, Tryd.ntmps14
        go_wp2_with fail
        refine hcall.out.mono ?_
        rintro e w1 ⟨A, c, rfl, hown, hb1⟩
        have HF := Lib.hid (StrOut.mk' HTT.out (hal.trans (hb1.mono (by simp))))
        clear hcall hown HTT
        go_wp2_with fail
        go_ret2
        exact HF.out
    · obtain ⟨f, rfl⟩ := Int.eq_ofNat_of_zero_le (show 0 ≤ f by omega)
      obtain ⟨t, rfl⟩ := Int.eq_ofNat_of_zero_le (show 0 ≤ t by omega)
      have g2 : f ≤ t := by omega
      have g3 : t ≤ l.length := by omega
      have HTT : Hid (partW a s f t = (encR ((l.drop f).take (t - f)), 0)) := by show _ = _; rw [HT.out, if_neg (by simp), if_neg hbad]; rfl
      clear HT hbad
      have d1 : ¬ ((t : Int) < (f : Int)) := by omega
      have d2 : ¬ ((l.length : Int) < (t : Int)) := by omega
      go_enter Tryd.func14, Tryd.ntmps14
      go_wp2_with fail
      refine hcall.out.mono ?_
      rintro e w1 ⟨A, c, rfl, hown, hb1⟩
      have HF := Lib.hid (StrOut.mk' HTT.out (hal.trans (hb1.mono (by simp))))
      obtain ⟨_, _, e0, hlc, hcm⟩ := own_form hown
      injection e0 with e01 _ e02
      subst e01 e02
      by_cases htf : t = f
      · subst htf
        have hcv := conv_runes (P := Tryd.prog) (src := 26) (dst := 9) (n := 0) (c := 0) Tryd.underlying26 Tryd.underlying21 Tryd.underlying9 (RunesAt.none (w := w1) A) rfl
        have hx : encR ((l.drop t).take (t - t)) = encR [] := by rw [Nat.sub_self, List.take_zero]
        rw [hx] at HF
        generalize encR [] = X at *
        clear hcall hown HTT hx
        go_wp2_with fail
        go_ret2
        exact HF.out
      · have hl2 : t - f = ((l.drop f).take (t - f)).length := by
          rw [List.length_take, List.length_drop, Nat.min_eq_left (by omega)]
        have hcv := conv_runes (P := Tryd.prog) (src := 26) (dst := 9) (n := t - f) (c := t - f) Tryd.underlying26 Tryd.underlying21 Tryd.underlying9 ((runes_own hown).part f t) hl2
        generalize encR ((l.drop f).take (t - f)) = X at *
        have htf2 : ¬ f = t := fun e => htf e.symm
        clear hcall hown HTT hl2
        go_wp2_with fail
        go_ret2
        exact HF.out
  · subst h3
    have HTT : Hid (partW a s f t = (⟨#[]⟩, E)) := by show _ = _; rw [HT.out, if_pos (by omega)]
    have hne : (E != 0) = true := by rw [bne_iff_ne]; omega
    clear HT
    go_enter Tryd.func14, Tryd.ntmps14
    go_wp2_with fail
    refine hcall.out.mono ?_
    rintro e w1 ⟨A, c, rfl, hown, hb1⟩
    have HF := Lib.hid (StrOut.mk' HTT.out (hal.trans (hb1.mono (by simp))))
    clear hcall hown HTT
    go_wp2_with fail
    go_ret2
    exact HF.out

/-! ### word.Text -/
def TextSt (a : Al) (l : List Int) (W : World) (i : Value) (wr : World) : Prop := ∃ k : Nat, k ≤ l.length ∧ i = .int .i64 (k : Int) ∧ l.all (isLet a) = (l.drop k).all (isLet a) ∧ Below W.heap.size W wr
theorem all_step (p : Int → Bool) (l : List Int) (k : Nat) (h : k < l.length) : (l.drop k).all p = (p l[k] && (l.drop (k + 1)).all p) := by
  rw [List.drop_eq_getElem_cons h, List.all_cons]
set_option maxHeartbeats 4000000 in
set_option maxRecDepth 100000 in
theorem text_any (A1 A2 A : Option Addr) (c1 c2 c lo hi : Nat) (a : Al) (l : List Int) (w : World) (hin : AlIn w lo w.heap.size A1 A2 a) (hsl : Sl 1 (vInt .i32) w lo w.heap.size A l) (hn : l.length ≤ 9223372036854775807) :
    Calls Tryd.prog 12 #[.agg #[.slice A1 a.feats.length c1, .slice A2 a.lets.length c2], .slice A l.length c] w (StrOut (textS a l) w) := by
  have hal : Below w.heap.size w (w.alloc (.cells #[.slice A1 a.feats.length c1, .slice A2 a.lets.length c2] 25)) := (Below.refl _ _).alloc (Nat.le_refl _) _
  have hcall := Lib.hid (ranks_any A1 A2 c1 c2 lo a _ (hin.on hal))
  have HT : Hid (textS a l = if alOk a = false then (⟨#[]⟩, 7) else if 256 < l.length then (⟨#[]⟩, 4) else if l.all (isLet a) then (encR l, 0) else (⟨#[]⟩, 5)) := rfl
  by_cases hlong : 256 < l.length
  · go_enter Tryd.func12, Tryd.ntmps12
    go_wp2_with fail
    refine hcall.out.mono ?_
    rintro e w1 (⟨hok, rfl, hb1⟩ | ⟨hok, bm, n, rfl, hmap, hbm, hb1⟩)
    · have HF := Lib.hid (StrOut.mk' (show textS a l = (⟨#[]⟩, 7) by rw [HT.out, if_pos hok]) (hal.trans (hb1.mono (by simp))))
      clear hcall hok HT
      go_wp2_with fail
      go_ret2
      exact HF.out
    · have HF := Lib.hid (StrOut.mk' (show textS a l = (⟨#[]⟩, 4) by rw [HT.out, if_neg (by rw [hok]; simp), if_pos hlong]) (hal.trans (hb1.mono (by simp))))
      clear hcall hok HT hmap
      go_wp2_with fail
      go_ret2
      exact HF.out
  · go_enter Tryd.func12, Tryd.ntmps12
    go_wp2_with fail
    refine hcall.out.mono ?_
    rintro e w1 (⟨hok, rfl, hb1⟩ | ⟨hok, bm, n, rfl, hmap, hbm, hb1⟩)
    · have HF := Lib.hid (StrOut.mk' (show textS a l = (⟨#[]⟩, 7) by rw [HT.out, if_pos hok]) (hal.trans (hb1.mono (by simp))))
      clear hcall hok HT
      go_wp2_with fail
      go_ret2
      exact HF.out
    · have hbw := hal.trans (hb1.mono (by simp))
      have HF0 := Lib.hid (rank_let hok)
      have HT2 : Hid (textS a l = if l.all (isLet a) then (encR l, 0) else (⟨#[]⟩, 5)) := by show _ = _; rw [HT.out, if_neg (by rw [hok]; simp), if_neg hlong]
      have hs1 := hsl.below (vInt_good _) hbw (Nat.le_refl _)
      have hz1 := hbw.size
      clear hcall hok HT hb1 hal
      go_wp2_with fail
      go_loopw [25] (fun i wr => TextSt a l w1 i wr) (fun i _ => l.length - (intOf i).toNat)
      case atStart => exact ⟨0, by omega, rfl, by rw [List.drop_zero], Below.refl _ _⟩
      case round =>
        obtain ⟨k, hk, rfl, hall, hb⟩ := hrel
        have HA := Lib.hid hall
        clear hall
        by_cases hlt : k < l.length
        · obtain ⟨bp, op, rfl, _, hbp, ⟨c0, f0⟩, hkin⟩ := ints_at (hs1.below (vInt_good _) hb hz1) hlt
          have hkr := kin_i32 hkin
          have hstep := all_step (isLet a) l k hlt
          generalize l[k] = x at *
          have HS := Lib.hid hstep
          have HK := Lib.hid (key_rune hkr)
          have hfs := HF0.out x
          have hmap2 := hmap.below hb hmap.lt
          clear hstep hkin
          cases hisl : isLet a x with
          | false =>
            rw [hisl] at hfs
            have HF := Lib.hid (StrOut.mk' (show textS a l = (⟨#[]⟩, 5) by rw [HT2.out, HA.out, HS.out, hisl]; rfl) (hbw.trans (hb.mono hz1)))
            clear hisl HA HS HT2 hmap
            go_wp2_with (at_lookup; refine wpList_lookup_ok_mapI (by rfl) _ _ 65 rfl 21 3 .i64 (Maps.int_keyed Tryd.underlying21) Tryd.underlying65 Tryd.underlying3 (zero_int _) bm n _ rfl hmap2 _ _ rfl HK.out ?_)
            go_ret2
            exact HF.out
          | true =>
            rw [hisl] at hfs
            have HN : Hid (l.all (isLet a) = (l.drop (k + 1)).all (isLet a)) := by show _ = _; rw [HA.out, HS.out, hisl, Bool.true_and]
            clear hisl HA HS hmap
            go_wp2_with (at_lookup; refine wpList_lookup_ok_mapI (by rfl) _ _ 65 rfl 21 3 .i64 (Maps.int_keyed Tryd.underlying21) Tryd.underlying65 Tryd.underlying3 (zero_int _) bm n _ rfl hmap2 _ _ rfl HK.out ?_)
            exact ⟨⟨k + 1, by omega, by go_num, HN.out, hb⟩, by simp [intOf]; omega⟩
        · obtain rfl : k = l.length := by omega
          have HF := Lib.hid (StrOut.mk' (show textS a l = (encR l, 0) by rw [HT2.out, HA.out, List.drop_length]; rfl) (hbw.trans (hb.mono hz1)))
          have hconv := conv_runes (P := Tryd.prog) (src := 26) (dst := 9) (n := l.length) (c := c) Tryd.underlying26 Tryd.underlying21 Tryd.underlying9 (runes_sl (hs1.below (vInt_good _) hb hz1)) rfl
          generalize encR l = X at *
          clear HA HT2 hmap
          go_wp2_with fail
          go_ret2
          exact HF.out
end Go.Proofs.YtfjccjjdgbkbiaaDoor
