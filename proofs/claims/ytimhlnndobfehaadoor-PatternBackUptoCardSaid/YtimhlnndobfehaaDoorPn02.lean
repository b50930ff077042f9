/- The reader's one, walked. strings.Cut at one byte; the first place of a byte. -/
import Derived.Test.YtimhlnndobfehaaDoorPn01
import Derived.Lib.TrimU
import Derived.Test.YtimhlnndobfehaaDoorShelf
import Derived.Test.YtimhlnndobfehaaDoorMc28
namespace Go.Proofs.YtimhlnndobfehaaDoor
open Go.RowKit
open Go.Lib (Utf8Tabs)
set_option linter.unusedVariables false

theorem map_nil (r : PR) : r.map Fo.nil.app = r := by cases r <;> rfl
theorem decodeGo_small (s : ByteArray) : (Lib.decodeGo s).1 ≤ 1114111 := by
  unfold Lib.decodeGo
  split
  · simp
  · exact Lib.rune_le s 0
section
variable {W0 : World} {A1 A2 : Option Addr} {c1 c2 : Nat} {a : Al} {s : ByteArray}
set_option maxHeartbeats 16000000 in
set_option maxRecDepth 100000 in
theorem one_ok (hin : AlIn W0 0 W0.heap.size A1 A2 a) (hT : Utf8Tabs 0 1 W0) (hs : s.size ≤ 65536) (hcls : ClsOk W0 A1 A2 c1 c2 a s) {f : Nat} (hnode : ∀ g, g ≤ f → NodeOk W0 A1 A2 c1 c2 a s g) : OneOk W0 A1 A2 c1 c2 a s (f + 1) := by
  intro k v es w hR hk hf hn
  have hE : pars a s (f + 1) .one k = if isB s k 126 then .ok (leafF 1 0 0 0) (k + 1)
    else if isB s k 46 then .ok (leafF 4 0 0 0) (k + 1)
    else if isB s k 35 then .ok (leafF 5 0 0 0) (k + 1)
    else if isB s k 91 then clsP a s (k + 1)
    else if isB s k 40 then (pars a s f .seq (k + 1)).map fun l => .nd 6 0 0 0 l .nil
    else if isB s k 123 then (pars a s f (.or true) (k + 1)).map fun l => .nd 7 0 0 0 l .nil
    else runeP a s k := rfl
  have hWW : W0.heap.size < w.heap.size := hR.lt
  have HND := Lib.hid hnode
  have HCLS := Lib.hid hcls
  generalize pars a s (f + 1) .one k = R at *
  clear hnode hcls
  have HST0 := Lib.hid (Stp.refl W0.heap.size v es w)
  have HR0 := Lib.hid hR
  have hc0 := Lib.hid (next_any hR hs 126 (by omega))
  clear hR
  go_enter Tryd.func84, Tryd.ntmps84
  cases hb0 : isB s k 126 with
  | true =>
    have hlt := isB_lt hb0
    rw [hb0] at hc0 hE
    rw [if_pos rfl] at hE
    have HE := Lib.hid hE
    clear hb0 hE
    go_wp2_with fail
    refine hc0.out.mono ?_
    rintro e x1 ⟨rfl, hR1, hf1⟩
    rw [if_pos trivial] at hR1
    have hst1 := HST0.out.same hf1
    clear hc0 hf1 HST0 HR0
    have ha := Lib.hid (add_leaf hR1 hst1 (by omega) (q := 1) (r := 0) (p := 0) (m := 0) (by omega) (by omega) (by omega) (by omega))
    clear hR1 hst1
    rw [← HE.out] at ha
    go_wp2_with fail
    refine ha.out.mono ?_
    intro e x2 hpo
    have hpo2 := hpo
    rw [HE.out] at hpo2
    obtain ⟨rfl, _⟩ := hpo2
    have HFIN := Lib.hid hpo
    clear hpo ha
    go_wp2_with fail
    go_ret
    exact HFIN.out
  | false =>
  rw [hb0] at hc0 hE
  rw [if_neg (by simp)] at hE
  have HEX := Lib.hid hE
  clear hb0 hE
  go_wp2_with fail
  refine hc0.out.mono ?_
  rintro e w1 ⟨rfl, hR1, hf1⟩
  have hE := HEX.out
  clear HEX
  rw [if_neg (by simp)] at hR1
  have HST1 := Lib.hid (HST0.out.same hf1)
  have HR1 := Lib.hid hR1
  have hc1 := Lib.hid (next_any hR1 hs 46 (by omega))
  clear hc0 hf1 HST0 HR0 hR1
  cases hb1 : isB s k 46 with
  | true =>
    have hlt := isB_lt hb1
    rw [hb1] at hc1 hE
    rw [if_pos rfl] at hE
    have HE := Lib.hid hE
    clear hb1 hE
    go_wp2_with fail
    refine hc1.out.mono ?_
    rintro e x1 ⟨rfl, hR1, hf1⟩
    rw [if_pos trivial] at hR1
    have hst1 := HST1.out.same hf1
    clear hc1 hf1 HST1 HR1
    have ha := Lib.hid (add_leaf hR1 hst1 (by omega) (q := 4) (r := 0) (p := 0) (m := 0) (by omega) (by omega) (by omega) (by omega))
    clear hR1 hst1
    rw [← HE.out] at ha
    go_wp2_with fail
    refine ha.out.mono ?_
    intro e x2 hpo
    have hpo2 := hpo
    rw [HE.out] at hpo2
    obtain ⟨rfl, _⟩ := hpo2
    have HFIN := Lib.hid hpo
    clear hpo ha
    go_wp2_with fail
    go_ret
    exact HFIN.out
  | false =>
  rw [hb1] at hc1 hE
  rw [if_neg (by simp)] at hE
  have HEX := Lib.hid hE
  clear hb1 hE
  go_wp2_with fail
  refine hc1.out.mono ?_
  rintro e w2 ⟨rfl, hR1, hf1⟩
  have hE := HEX.out
  clear HEX
  rw [if_neg (by simp)] at hR1
  have HST2 := Lib.hid (HST1.out.same hf1)
  have HR2 := Lib.hid hR1
  have hc2 := Lib.hid (next_any hR1 hs 35 (by omega))
  clear hc1 hf1 HST1 HR1 hR1
  cases hb2 : isB s k 35 with
  | true =>
    have hlt := isB_lt hb2
    rw [hb2] at hc2 hE
    rw [if_pos rfl] at hE
    have HE := Lib.hid hE
    clear hb2 hE
    go_wp2_with fail
    refine hc2.out.mono ?_
    rintro e x1 ⟨rfl, hR1, hf1⟩
    rw [if_pos trivial] at hR1
    have hst1 := HST2.out.same hf1
    clear hc2 hf1 HST2 HR2
    have ha := Lib.hid (add_leaf hR1 hst1 (by omega) (q := 5) (r := 0) (p := 0) (m := 0) (by omega) (by omega) (by omega) (by omega))
    clear hR1 hst1
    rw [← HE.out] at ha
    go_wp2_with fail
    refine ha.out.mono ?_
    intro e x2 hpo
    have hpo2 := hpo
    rw [HE.out] at hpo2
    obtain ⟨rfl, _⟩ := hpo2
    have HFIN := Lib.hid hpo
    clear hpo ha
    go_wp2_with fail
    go_ret
    exact HFIN.out
  | false =>
  rw [hb2] at hc2 hE
  rw [if_neg (by simp)] at hE
  have HEX := Lib.hid hE
  clear hb2 hE
  go_wp2_with fail
  refine hc2.out.mono ?_
  rintro e w3 ⟨rfl, hR1, hf1⟩
  have hE := HEX.out
  clear HEX
  rw [if_neg (by simp)] at hR1
  have HST3 := Lib.hid (HST2.out.same hf1)
  have HR3 := Lib.hid hR1
  have hc3 := Lib.hid (next_any hR1 hs 91 (by omega))
  clear hc2 hf1 HST2 HR2 hR1
  cases hb3 : isB s k 91 with
  | true =>
    have hlt := isB_lt hb3
    rw [hb3] at hc3 hE
    rw [if_pos rfl] at hE
    have HE := Lib.hid hE
    clear hb3 hE
    go_wp2_with fail
    refine hc3.out.mono ?_
    rintro e x1 ⟨rfl, hR1, hf1⟩
    rw [if_pos trivial] at hR1
    have hst1 := HST3.out.same hf1
    clear hc3 hf1 HST3 HR3
    have ha := Lib.hid (HCLS.out (k + 1) v es x1 hR1 (by omega) (by omega) (by omega))
    have HS1 := Lib.hid hst1
    clear hR1 hst1
    rw [← HE.out] at ha
    clear HE
    cases R with
    | bad q =>
      go_wp2_with fail
      refine ha.out.mono ?_
      rintro e x2 ⟨rfl, hb⟩
      go_wp2_with fail
      exact ⟨rfl, rfl, hb⟩
    | ok t i =>
      go_wp2_with fail
      refine ha.out.mono ?_
      intro e x2 hpo
      have hpo2 := ParsOut.from_ HS1.out hpo
      obtain ⟨rfl, _⟩ := hpo
      have HFIN := Lib.hid hpo2
      clear hpo2 ha
      go_wp2_with fail
      go_ret
      exact HFIN.out
  | false =>
  rw [hb3] at hc3 hE
  rw [if_neg (by simp)] at hE
  have HEX := Lib.hid hE
  clear hb3 hE
  go_wp2_with fail
  refine hc3.out.mono ?_
  rintro e w4 ⟨rfl, hR1, hf1⟩
  have hE := HEX.out
  clear HEX
  rw [if_neg (by simp)] at hR1
  have HST4 := Lib.hid (HST3.out.same hf1)
  have HR4 := Lib.hid hR1
  have hc4 := Lib.hid (next_any hR1 hs 40 (by omega))
  clear hc3 hf1 HST3 HR3 hR1
  cases hb4 : isB s k 40 with
  | true =>
    have hlt := isB_lt hb4
    rw [hb4] at hc4 hE
    rw [if_pos rfl] at hE
    have HE := Lib.hid hE
    clear hb4 hE
    go_wp2_with fail
    refine hc4.out.mono ?_
    rintro e x1 ⟨rfl, hR1, hf1⟩
    rw [if_pos trivial] at hR1
    have hst1 := HST4.out.same hf1
    clear hc4 hf1 HST4 HR4
    have HST : Hid (GatSt W0 A1 A2 c1 c2 a s (fun _ => Md.seq) (fun l => Fo.nd 6 0 0 0 l .nil) R f (k + 1) v es w (.slice none 0 0) x1) := ⟨.nil, k + 1, f, v, [], none, 0, [], rfl, rfl, ⟨World.ownsRow_nil _ _ _ _, fun b hb => by cases hb⟩, by rw [List.append_nil]; exact hR1, rfl, by rw [List.append_nil]; exact hst1, by omega, by omega, by simp only [Fo.size]; omega, by omega, by omega, by
      show _ = _
      rw [HE.out]
      congr 1
      exact (map_nil (pars a s f .seq (k + 1))).symm⟩
    clear hR1 hst1 HE
    go_wp2_with fail
    go_loopw [3] (fun x wr => GatSt W0 A1 A2 c1 c2 a s (fun _ => Md.seq) (fun l => Fo.nd 6 0 0 0 l .nil) R f (k + 1) v es w x wr) (fun x _ => s.size + 1 - sliceLen x)
    case atStart => exact HST.out
    case round =>
      clear HST
      obtain ⟨acc, k1, g, v1, es1, A, c, xs, rfl, hxs, hK, hR1, he1, hst1, g1, g2, g3, g4, g5, hE⟩ := hrel
      have hxl : Hid (xs.length = acc.count) := by show _ = _; rw [hxs.out, (post_len acc es.length).2]
      have hxn : xs.length ≤ k1 - (k + 1) := by have := hxl.out; have := count_le acc; omega
      obtain ⟨g, rfl⟩ : ∃ j, g = j + 1 := ⟨g - 1, by omega⟩
      have hc1 := Lib.hid (next_any hR1.out hs 41 (by omega))
      have hx1 : pars a s (g + 1) .seq k1 = if isB s k1 41 then .ok .nil (k1 + 1) else match pars a s g .node k1 with
        | .ok t i => (pars a s g .seq i).map t.app
        | .bad q => .bad q := rfl
      cases hb : isB s k1 41 with
      | true =>
        have hlt := isB_lt hb
        rw [hb] at hc1 hx1
        rw [if_pos rfl] at hx1
        have HE : Hid (R = .ok (.nd 6 0 0 0 acc .nil) (k1 + 1)) := by
          show _ = _
          rw [hE.out]
          (try simp only [])
          rw [hx1]
          simp only [PR.map, fo_app_nil]
        clear hb hx1 hE
        go_wp2_with fail
        refine hc1.out.mono ?_
        rintro e w2 ⟨rfl, hR2, hf2⟩
        rw [if_pos trivial] at hR2
        have ha := Lib.hid (add_kids hxs.out 6 (by omega) hR2 (hK.out.same hf2) he1.out (hst1.out.same hf2) (by omega))
        rw [← HE.out] at ha
        clear hR2 hf2 hK hst1 hR1 he1 hc1
        go_wp2_with fail
        refine ha.out.mono ?_
        intro e w3 hpo
        have hpo2 := hpo
        rw [HE.out] at hpo2
        obtain ⟨rfl, _⟩ := hpo2
        have HFIN := Lib.hid hpo
        clear hpo ha
        go_wp2_with fail
        go_ret
        exact HFIN.out
      | false =>
        rw [hb] at hc1 hx1
        rw [if_neg (by simp)] at hx1
        have HX1 := Lib.hid hx1
        clear hb hx1
        go_wp2_with fail
        refine hc1.out.mono ?_
        rintro e w2 ⟨rfl, hR2, hf2⟩
        rw [if_neg (by simp)] at hR2
        have hx1 := HX1.out
        clear HX1
        have HK2 := Lib.hid (hK.out.same hf2)
        have HS2 := Lib.hid (hst1.out.same hf2)
        have HR2 := Lib.hid hR2
        clear hR2 hf2 hK hst1 hR1 hc1
        have hl1 : Hid (es1.length = acc.size) := by
          show _ = _
          rw [← List.length_map (f := Prod.fst), he1.out, (post_len acc es.length).1]
        have hcall := Lib.hid (HND.out g (by omega) k1 v1 (es ++ es1) w2 HR2.out (by omega) (by omega) (by rw [List.length_append, hl1.out]; omega))
        have hW := pars_went (dec_went a s) g .node k1
        cases hr : pars a s g .node k1 with
        | bad q =>
          rw [hr] at hcall hx1
          simp only at hx1
          have HE : Hid (R = .bad q) := by
            show _ = _
            rw [hE.out]
            (try simp only [])
            rw [hx1]
            rfl
          clear hE hx1 hW hr HK2 HS2 HR2 he1
          go_wp2_with fail
          refine hcall.out.mono ?_
          rintro e w5 ⟨rfl, hb⟩
          have hfin : ParsOut W0 A1 A2 c1 c2 a s v es w R (.panicked [{ v := .iface 117 (.int .i64 (q : Int)), recovered := false }]) w5 := by
            rw [HE.out]
            exact ⟨rfl, hb⟩
          have HFIN := Lib.hid hfin
          clear hfin hb hcall
          go_wp2_with fail
          exact ⟨rfl, HFIN.out⟩
        | ok t i =>
          rw [hr] at hcall hx1
          obtain ⟨h1, h2, h3, h4⟩ := hW t i hr
          simp only at hx1
          have HRR : Hid (R = ((pars a s g .seq i).map (acc.app t).app).map (fun l => Fo.nd 6 0 0 0 l .nil)) := by
            show _ = _
            rw [hE.out, ← map_app]
            (try simp only [])
            rw [hx1]
          have e0 : Hid ((es ++ es1).length + t.size - 1 = es.length + acc.size + t.size - 1) := by show _ = _; rw [List.length_append, hl1.out]
          clear hE hx1 hr hW
          obtain ⟨i1, hi1, hy0, hy1, hy2⟩ := info_parts mint_info
          have hidx : es.length + acc.size + t.size - 1 ≤ 200000 := by omega
          go_wp2_with fail
          refine hcall.out.mono ?_
          rintro e w5 ⟨rfl, v5, es5, hR5, he5, hst5⟩
          rw [e0.out]
          have hkin5 := HK2.out.on hst5
          obtain ⟨hq4, hown4⟩ := idx_more hidx hkin5.own
          have hbs5 : W0.heap.size + 1 ≤ (w5.alloc (.cells #[.int .i64 ((es.length + acc.size + t.size - 1 : Nat) : Int)] 3)).heap.size := by have := hR5.lt; simp; omega
          have HPUSH := Lib.hid (fun (A6 : Option Addr) (c6 : Nat) (w6 : World) h6 hf6 ha6 => seq_push (xs := xs) (m := (fun _ => Md.seq)) (up := (fun l => Fo.nd 6 0 0 0 l .nil)) (R := R) (f := f) (k0 := k + 1) (g := g) (A6 := A6) (c6 := c6) (w6 := w6) hxs.out hWW h1 HK2.out he1.out HS2.out hR5 he5 hst5 h6 hf6 ha6 (by omega) h3 (by rw [size_app]; omega) (by omega) (by omega) (by
            have := HRR.out
            exact this))
          clear hkin5 hR5 he5 hst5 hcall HK2 HS2 HR2 he1 HRR hl1
          have h63 : xs.length + [((es.length + acc.size + t.size - 1 : Nat) : Int)].length ≤ maxLen := by unfold maxLen; simp; omega
          have h8 : (xs.length + [((es.length + acc.size + t.size - 1 : Nat) : Int)].length) * 8 ≤ 140737488355328 := by simp; omega
          clear e0 hidx
          generalize es.length + acc.size + t.size - 1 = ix at *
          go_wp2_with (at_builtin; refine wpList_append_ints rfl _ _ 42 rfl 3 i1 8 Tryd.underlying42 hi1 hy0 hy1 hy2 rfl rfl hown4 hq4 h63 h8 hbs5 ?_)
          intro A6 c6 w6 hown6 hfr6 hat6
          have HFIN := Lib.hid (HPUSH.out A6 c6 w6 (by simpa using hown6) hfr6 (fun g hg => (hat6 g (by simpa using hg)).imp id fun h => by simpa using h))
          clear hown6 hfr6 hat6 HPUSH hown4 hq4
          go_wp2_with fail
          exact ⟨HFIN.out, by simp [sliceLen]; omega⟩
  | false =>
  rw [hb4] at hc4 hE
  rw [if_neg (by simp)] at hE
  have HEX := Lib.hid hE
  clear hb4 hE
  go_wp2_with fail
  refine hc4.out.mono ?_
  rintro e w5 ⟨rfl, hR1, hf1⟩
  have hE := HEX.out
  clear HEX
  rw [if_neg (by simp)] at hR1
  have HST5 := Lib.hid (HST4.out.same hf1)
  have HR5 := Lib.hid hR1
  have hc5 := Lib.hid (next_any hR1 hs 123 (by omega))
  clear hc4 hf1 HST4 HR4 hR1
  cases hb5 : isB s k 123 with
  | true =>
    have hlt := isB_lt hb5
    rw [hb5] at hc5 hE
    rw [if_pos rfl] at hE
    have HE := Lib.hid hE
    clear hb5 hE
    go_wp2_with fail
    refine hc5.out.mono ?_
    rintro e x1 ⟨rfl, hR1, hf1⟩
    rw [if_pos trivial] at hR1
    have hst1 := HST5.out.same hf1
    clear hc5 hf1 HST5 HR5
    have HST : Hid (GatSt W0 A1 A2 c1 c2 a s (fun t => Md.or (decide (t.count = 0))) (fun l => Fo.nd 7 0 0 0 l .nil) R f (k + 1) v es w (.slice none 0 0) x1) := ⟨.nil, k + 1, f, v, [], none, 0, [], rfl, rfl, ⟨World.ownsRow_nil _ _ _ _, fun b hb => by cases hb⟩, by rw [List.append_nil]; exact hR1, rfl, by rw [List.append_nil]; exact hst1, by omega, by omega, by simp only [Fo.size]; omega, by omega, by omega, by
      show _ = _
      rw [HE.out]
      congr 1
      exact (map_nil (pars a s f (.or true) (k + 1))).symm⟩
    clear hR1 hst1 HE
    go_wp2_with fail
    go_loopw [3] (fun x wr => GatSt W0 A1 A2 c1 c2 a s (fun t => Md.or (decide (t.count = 0))) (fun l => Fo.nd 7 0 0 0 l .nil) R f (k + 1) v es w x wr) (fun x _ => s.size + 1 - sliceLen x)
    case atStart => exact HST.out
    case round =>
      clear HST
      obtain ⟨acc, k1, g, v1, es1, A, c, xs, rfl, hxs, hK, hR1, he1, hst1, g1, g2, g3, g4, g5, hE⟩ := hrel
      have hxl : Hid (xs.length = acc.count) := by show _ = _; rw [hxs.out, (post_len acc es.length).2]
      have hxn : xs.length ≤ k1 - (k + 1) := by have := hxl.out; have := count_le acc; omega
      obtain ⟨g, rfl⟩ : ∃ j, g = j + 1 := ⟨g - 1, by omega⟩
      have hc1 := Lib.hid (next_any hR1.out hs 125 (by omega))
      have hx1 : pars a s (g + 1) (.or (decide (acc.count = 0))) k1 = if isB s k1 125 then .ok .nil (k1 + 1) else if !(decide (acc.count = 0)) && !isB s k1 124 then .bad k1 else match pars a s g .node (if decide (acc.count = 0) = true then k1 else k1 + 1) with
        | .ok t i => (pars a s g (.or false) i).map t.app
        | .bad q => .bad q := rfl
      cases hb : isB s k1 125 with
      | true =>
        have hlt := isB_lt hb
        rw [hb] at hc1 hx1
        rw [if_pos rfl] at hx1
        have HE : Hid (R = .ok (.nd 7 0 0 0 acc .nil) (k1 + 1)) := by
          show _ = _
          rw [hE.out]
          (try simp only [])
          rw [hx1]
          simp only [PR.map, fo_app_nil]
        clear hb hx1 hE
        go_wp2_with fail
        refine hc1.out.mono ?_
        rintro e w2 ⟨rfl, hR2, hf2⟩
        rw [if_pos trivial] at hR2
        have ha := Lib.hid (add_kids hxs.out 7 (by omega) hR2 (hK.out.same hf2) he1.out (hst1.out.same hf2) (by omega))
        rw [← HE.out] at ha
        clear hR2 hf2 hK hst1 hR1 he1 hc1
        go_wp2_with fail
        refine ha.out.mono ?_
        intro e w3 hpo
        have hpo2 := hpo
        rw [HE.out] at hpo2
        obtain ⟨rfl, _⟩ := hpo2
        have HFIN := Lib.hid hpo
        clear hpo ha
        go_wp2_with fail
        go_ret
        exact HFIN.out
      | false =>
        rw [hb] at hc1 hx1
        rw [if_neg (by simp)] at hx1
        have HX1 := Lib.hid hx1
        clear hb hx1
        go_wp2_with fail
        refine hc1.out.mono ?_
        rintro e w2 ⟨rfl, hR2, hf2⟩
        rw [if_neg (by simp)] at hR2
        have hx1 := HX1.out
        clear HX1
        have HK2 := Lib.hid (hK.out.same hf2)
        have HS2 := Lib.hid (hst1.out.same hf2)
        have HR2 := Lib.hid hR2
        clear hR2 hf2 hK hst1 hR1 hc1
        by_cases h0 : acc.count = 0
        · have hd0 : decide (acc.count = 0) = true := decide_eq_true h0
          have hl0 : Hid (xs.length = 0) := by have := hxl.out; show _ = _; omega
          have j5 : decide ((0 : Int) < (xs.length : Int)) = false := by rw [decide_eq_false_iff_not]; have := hl0.out; omega
          have j6 : ¬ (0 : Int) < (xs.length : Int) := by have := hl0.out; omega
          rw [hd0] at hx1
          simp only [Bool.not_true, Bool.false_and, Bool.false_eq_true, if_false, if_true] at hx1
          have hE2 : Hid (R = ((pars a s (g + 1) (.or true) k1).map acc.app).map (fun l => Fo.nd 7 0 0 0 l .nil)) := by
            have := hE.out
            rw [hd0] at this
            exact this
          clear hE
          have hE := hE2
          clear hE2
          have hl1 : Hid (es1.length = acc.size) := by
            show _ = _
            rw [← List.length_map (f := Prod.fst), he1.out, (post_len acc es.length).1]
          have hcall := Lib.hid (HND.out g (by omega) k1 v1 (es ++ es1) w2 HR2.out (by omega) (by omega) (by rw [List.length_append, hl1.out]; omega))
          have hW := pars_went (dec_went a s) g .node k1
          cases hr : pars a s g .node k1 with
          | bad q =>
            rw [hr] at hcall hx1
            simp only at hx1
            have HE : Hid (R = .bad q) := by
              show _ = _
              rw [hE.out]
              (try simp only [])
              rw [hx1]
              rfl
            clear hE hx1 hW hr HK2 HS2 HR2 he1
            go_wp2_with fail
            refine hcall.out.mono ?_
            rintro e w5 ⟨rfl, hb⟩
            have hfin : ParsOut W0 A1 A2 c1 c2 a s v es w R (.panicked [{ v := .iface 117 (.int .i64 (q : Int)), recovered := false }]) w5 := by
              rw [HE.out]
              exact ⟨rfl, hb⟩
            have HFIN := Lib.hid hfin
            clear hfin hb hcall
            go_wp2_with fail
            exact ⟨rfl, HFIN.out⟩
          | ok t i =>
            rw [hr] at hcall hx1
            obtain ⟨h1, h2, h3, h4⟩ := hW t i hr
            simp only at hx1
            have HRR : Hid (R = ((pars a s g (.or false) i).map (acc.app t).app).map (fun l => Fo.nd 7 0 0 0 l .nil)) := by
              show _ = _
              rw [hE.out, ← map_app]
              (try simp only [])
              rw [hx1]
            have e0 : Hid ((es ++ es1).length + t.size - 1 = es.length + acc.size + t.size - 1) := by show _ = _; rw [List.length_append, hl1.out]
            clear hE hx1 hr hW
            obtain ⟨i1, hi1, hy0, hy1, hy2⟩ := info_parts mint_info
            have hidx : es.length + acc.size + t.size - 1 ≤ 200000 := by omega
            go_wp2_with fail
            refine hcall.out.mono ?_
            rintro e w5 ⟨rfl, v5, es5, hR5, he5, hst5⟩
            rw [e0.out]
            have hkin5 := HK2.out.on hst5
            obtain ⟨hq4, hown4⟩ := idx_more hidx hkin5.own
            have hbs5 : W0.heap.size + 1 ≤ (w5.alloc (.cells #[.int .i64 ((es.length + acc.size + t.size - 1 : Nat) : Int)] 3)).heap.size := by have := hR5.lt; simp; omega
            have HPUSH := Lib.hid (fun (A6 : Option Addr) (c6 : Nat) (w6 : World) h6 hf6 ha6 => seq_push (xs := xs) (m := (fun t => Md.or (decide (t.count = 0)))) (up := (fun l => Fo.nd 7 0 0 0 l .nil)) (R := R) (f := f) (k0 := k + 1) (g := g) (A6 := A6) (c6 := c6) (w6 := w6) hxs.out hWW h1 HK2.out he1.out HS2.out hR5 he5 hst5 h6 hf6 ha6 (by omega) h3 (by rw [size_app]; omega) (by omega) (by omega) (by
              have := HRR.out
              rw [show decide ((acc.app t).count = 0) = false by rw [decide_eq_false_iff_not, count_app]; obtain ⟨_, _, _, _, _, rfl⟩ := h1; simp only [Fo.count]; omega]
              exact this))
            clear hkin5 hR5 he5 hst5 hcall HK2 HS2 HR2 he1 HRR hl1
            have h63 : xs.length + [((es.length + acc.size + t.size - 1 : Nat) : Int)].length ≤ maxLen := by unfold maxLen; simp; omega
            have h8 : (xs.length + [((es.length + acc.size + t.size - 1 : Nat) : Int)].length) * 8 ≤ 140737488355328 := by simp; omega
            clear e0 hidx
            generalize es.length + acc.size + t.size - 1 = ix at *
            go_wp2_with (at_builtin; refine wpList_append_ints rfl _ _ 42 rfl 3 i1 8 Tryd.underlying42 hi1 hy0 hy1 hy2 rfl rfl hown4 hq4 h63 h8 hbs5 ?_)
            intro A6 c6 w6 hown6 hfr6 hat6
            have HFIN := Lib.hid (HPUSH.out A6 c6 w6 (by simpa using hown6) hfr6 (fun g hg => (hat6 g (by simpa using hg)).imp id fun h => by simpa using h))
            clear hown6 hfr6 hat6 HPUSH hown4 hq4
            go_wp2_with fail
            exact ⟨HFIN.out, by simp [sliceLen]; omega⟩
        · have hd0 : decide (acc.count = 0) = false := decide_eq_false h0
          have j5 : decide ((0 : Int) < (xs.length : Int)) = true := by rw [decide_eq_true_eq]; have := hxl.out; omega
          have j6 : (0 : Int) < (xs.length : Int) := by have := hxl.out; omega
          rw [hd0] at hx1
          simp only [Bool.not_false, Bool.true_and, Bool.false_eq_true, if_false] at hx1
          have hE2 : Hid (R = ((pars a s (g + 1) (.or false) k1).map acc.app).map (fun l => Fo.nd 7 0 0 0 l .nil)) := by
            have := hE.out
            rw [hd0] at this
            exact this
          clear hE
          have hE := hE2
          clear hE2
          have hc2 := Lib.hid (next_any HR2.out hs 124 (by omega))
          cases hbb : isB s k1 124 with
          | true =>
            have hlt := isB_lt hbb
            rw [hbb] at hc2 hx1
            simp only [Bool.not_true, Bool.false_eq_true, if_false] at hx1
            clear hbb
            have HX1 := Lib.hid hx1
            clear hx1
            go_wp2_with fail
            refine hc2.out.mono ?_
            rintro e w3 ⟨rfl, hR3, hf3⟩
            have hx1 := HX1.out
            clear HX1
            rw [if_pos trivial] at hR3
            have HK3 := Lib.hid (HK2.out.same hf3)
            have HS3 := Lib.hid (HS2.out.same hf3)
            have HR3 := Lib.hid hR3
            clear hR3 hf3 HK2 HS2 HR2 hc2
            have hl1 : Hid (es1.length = acc.size) := by
              show _ = _
              rw [← List.length_map (f := Prod.fst), he1.out, (post_len acc es.length).1]
            have hcall := Lib.hid (HND.out g (by omega) (k1 + 1) v1 (es ++ es1) w3 HR3.out (by omega) (by omega) (by rw [List.length_append, hl1.out]; omega))
            have hW := pars_went (dec_went a s) g .node (k1 + 1)
            cases hr : pars a s g .node (k1 + 1) with
            | bad q =>
              rw [hr] at hcall hx1
              simp only at hx1
              have HE : Hid (R = .bad q) := by
                show _ = _
                rw [hE.out]
                (try simp only [])
                rw [hx1]
                rfl
              clear hE hx1 hW hr HK3 HS3 HR3 he1
              go_wp2_with fail
              refine hcall.out.mono ?_
              rintro e w5 ⟨rfl, hb⟩
              have hfin : ParsOut W0 A1 A2 c1 c2 a s v es w R (.panicked [{ v := .iface 117 (.int .i64 (q : Int)), recovered := false }]) w5 := by
                rw [HE.out]
                exact ⟨rfl, hb⟩
              have HFIN := Lib.hid hfin
              clear hfin hb hcall
              go_wp2_with fail
              exact ⟨rfl, HFIN.out⟩
            | ok t i =>
              rw [hr] at hcall hx1
              obtain ⟨h1, h2, h3, h4⟩ := hW t i hr
              simp only at hx1
              have HRR : Hid (R = ((pars a s g (.or false) i).map (acc.app t).app).map (fun l => Fo.nd 7 0 0 0 l .nil)) := by
                show _ = _
                rw [hE.out, ← map_app]
                (try simp only [])
                rw [hx1]
              have e0 : Hid ((es ++ es1).length + t.size - 1 = es.length + acc.size + t.size - 1) := by show _ = _; rw [List.length_append, hl1.out]
              clear hE hx1 hr hW
              obtain ⟨i1, hi1, hy0, hy1, hy2⟩ := info_parts mint_info
              have hidx : es.length + acc.size + t.size - 1 ≤ 200000 := by omega
              go_wp2_with fail
              refine hcall.out.mono ?_
              rintro e w5 ⟨rfl, v5, es5, hR5, he5, hst5⟩
              rw [e0.out]
              have hkin5 := HK3.out.on hst5
              obtain ⟨hq4, hown4⟩ := idx_more hidx hkin5.own
              have hbs5 : W0.heap.size + 1 ≤ (w5.alloc (.cells #[.int .i64 ((es.length + acc.size + t.size - 1 : Nat) : Int)] 3)).heap.size := by have := hR5.lt; simp; omega
              have HPUSH := Lib.hid (fun (A6 : Option Addr) (c6 : Nat) (w6 : World) h6 hf6 ha6 => seq_push (xs := xs) (m := (fun t => Md.or (decide (t.count = 0)))) (up := (fun l => Fo.nd 7 0 0 0 l .nil)) (R := R) (f := f) (k0 := k + 1) (g := g) (A6 := A6) (c6 := c6) (w6 := w6) hxs.out hWW h1 HK3.out he1.out HS3.out hR5 he5 hst5 h6 hf6 ha6 (by omega) h3 (by rw [size_app]; omega) (by omega) (by omega) (by
                have := HRR.out
                rw [show decide ((acc.app t).count = 0) = false by rw [decide_eq_false_iff_not, count_app]; obtain ⟨_, _, _, _, _, rfl⟩ := h1; simp only [Fo.count]; omega]
                exact this))
              clear hkin5 hR5 he5 hst5 hcall HK3 HS3 HR3 he1 HRR hl1
              have h63 : xs.length + [((es.length + acc.size + t.size - 1 : Nat) : Int)].length ≤ maxLen := by unfold maxLen; simp; omega
              have h8 : (xs.length + [((es.length + acc.size + t.size - 1 : Nat) : Int)].length) * 8 ≤ 140737488355328 := by simp; omega
              clear e0 hidx
              generalize es.length + acc.size + t.size - 1 = ix at *
              go_wp2_with (at_builtin; refine wpList_append_ints rfl _ _ 42 rfl 3 i1 8 Tryd.underlying42 hi1 hy0 hy1 hy2 rfl rfl hown4 hq4 h63 h8 hbs5 ?_)
              intro A6 c6 w6 hown6 hfr6 hat6
              have HFIN := Lib.hid (HPUSH.out A6 c6 w6 (by simpa using hown6) hfr6 (fun g hg => (hat6 g (by simpa using hg)).imp id fun h => by simpa using h))
              clear hown6 hfr6 hat6 HPUSH hown4 hq4
              go_wp2_with fail
              exact ⟨HFIN.out, by simp [sliceLen]; omega⟩
          | false =>
            rw [hbb] at hc2 hx1
            simp only [Bool.not_false, if_true] at hx1
            have HE : Hid (R = .bad k1) := by
              show _ = _
              rw [hE.out]
              (try simp only [])
              rw [hx1]
              rfl
            clear hbb hE hx1
            clear HK2 HS2 he1
            go_wp2_with fail
            refine hc2.out.mono ?_
            rintro e w3 ⟨rfl, hR3, hf3⟩
            rw [if_neg (by simp)] at hR3
            obtain ⟨y3, _⟩ := hR3.row.cel (i := 3) rfl
            have hl3 := hR3.lt
            have hfin : ParsOut W0 A1 A2 c1 c2 a s v es w R (.panicked [{ v := .iface 117 (.int .i64 (k1 : Int)), recovered := false }]) w3 := by
              rw [HE.out]
              exact ⟨rfl, hR3.below⟩
            have HFIN := Lib.hid hfin
            clear hfin hR3 hf3 hc2 HR2
            go_wp2_with fail
            exact ⟨rfl, HFIN.out⟩
  | false =>
  rw [hb5] at hc5 hE
  rw [if_neg (by simp)] at hE
  have HEX := Lib.hid hE
  clear hb5 hE
  go_wp2_with fail
  refine hc5.out.mono ?_
  rintro e w6 ⟨rfl, hR1, hf1⟩
  have hE := HEX.out
  clear HEX
  rw [if_neg (by simp)] at hR1
  have HST6 := Lib.hid (HST5.out.same hf1)
  have HR6 := Lib.hid hR1
  clear hc5 hf1 HST5 HR5 hR1
  have hRx := HR6.out
  obtain ⟨q2, _⟩ := hRx.row.cel (i := 2) rfl
  obtain ⟨q3, _⟩ := hRx.row.cel (i := 3) rfl
  have l6 := hRx.lt
  have hRd := hRx.on (below_drewN (Below.refl _ _) 1)
  have hin6 := hin.below hRd.below (Nat.le_refl _)
  have hT6 : Utf8Tabs 0 1 w6.drew := Utf8Tabs_below hT hRd.below
  have hdec := Lib.hid (Tryd.utf8_DecodeRuneInString (s.extract k s.size) w6.drew hT6)
  have HRD := Lib.hid hRd
  have HST7 := Lib.hid (HST6.out.own (S := fun _ => False) ((Fr.refl _ w6).drewN 1) (fun _ h => h.elim))
  have HR : Hid (R = runeP a s k) := hE
  clear hE hRx hRd hin6 hT6 HND HCLS HR6 HST6
  generalize hdd : Lib.decodeGo (s.extract k s.size) = D at *
  have HDD := Lib.hid hdd
  clear hdd
  obtain ⟨x, n⟩ := D
  simp only at hdec
  have hk65 : k ≤ 65536 := by omega
  go_upto_region 20 with (fail)
  go_region_held3 (fun w' => w'.cell? ⟨W0.heap.size, 2, none⟩ = some (.string s) ∧ w'.cell? ⟨W0.heap.size, 3, none⟩ = some (.int .i64 (k : Int))) (go_keep)
    ((go_at_call 102; refine hdec.out.mono ?_; rintro e w7 ⟨rfl, hb7⟩; have k0 := ((bcell hb7).1 _ 2 l6).trans q2; have k1 := ((bcell hb7).1 _ 3 l6).trans q3))
  have hx31 : -2147483648 ≤ (x : Int) ∧ (x : Int) ≤ 2147483647 := by
    have := decodeGo_small (s.extract k s.size)
    rw [HDD.out] at this
    simp only at this
    omega
  have hR7 := HRD.out.on hb7
  have HST8 := Lib.hid (HST7.out.own (S := fun _ => False) (Fr.of_below hb7) (fun _ h => h.elim))
  have HR7 := Lib.hid hR7
  obtain ⟨u0, _⟩ := hR7.row.cel (i := 0) rfl
  obtain ⟨u1, _⟩ := hR7.row.cel (i := 1) rfl
  have l7 := hR7.lt
  have hof := Lib.hid (of_any A1 A2 c1 c2 0 a (x : Int) w7 (hin.on hR7.below) hx31)
  have HRP : Hid (runeP a s k = if (ofS a (x : Int)).2 ≠ 0 then .bad k else .ok (leafF 2 (x : Int) 0 0) (k + n)) := by
    show _ = _
    unfold runeP
    rw [HDD.out]
  have hDW : Hid ((ofS a (x : Int)).2 = 0 → k < s.size ∧ 1 ≤ n ∧ k + n ≤ s.size) := fun h => by
    have := dec_went a s k (by rw [HDD.out]; exact h)
    rw [HDD.out] at this
    exact this
  generalize ofS a (x : Int) = O at *
  obtain ⟨⟨o1, o2, o3⟩, E⟩ := O
  clear HDD hdec hb7 hR7 HRD HST7 k0 k1 q2 q3 l6
  go_wp2_with fail
  refine hof.out.mono ?_
  rintro e w8 ⟨rfl, hb8⟩
  have hR8 := HR7.out.on hb8
  have hst8 := HST8.out.own (S := fun _ => False) (Fr.of_below hb8) (fun _ h => h.elim)
  obtain ⟨q3, g3⟩ := hR8.row.cel (i := 3) rfl
  have l8 := hR8.lt
  have HR8 := Lib.hid hR8
  have HS8 := Lib.hid hst8
  clear hof hb8 HR7 HST8 hR8 hst8 u0 u1
  simp only
  by_cases h0 : E = 0
  · subst h0
    obtain ⟨d1, d2, d3⟩ := hDW.out rfl
    have HRX : Hid (R = .ok (leafF 2 (x : Int) 0 0) (k + n)) := by show _ = _; rw [HR.out, HRP.out]; rfl
    have hR9 := HR8.out.to (k + n)
    have hb9 : Below (w8.setCell ⟨W0.heap.size, 3, none⟩ (.int .i64 ((k + n : Nat) : Int))).heap.size (w8.setCell ⟨W0.heap.size, 3, none⟩ (.int .i64 ((k + n : Nat) : Int))) ((w8.setCell ⟨W0.heap.size, 3, none⟩ (.int .i64 ((k + n : Nat) : Int))).alloc (.cells #[.int .i32 o1, .int .u32 (o2 : Int), .int .u32 (o3 : Int)] 89)) := (Below.refl _ _).alloc (Nat.le_refl _) _
    have hf9 : Fr (fun g => g = W0.heap.size) w8 ((w8.setCell ⟨W0.heap.size, 3, none⟩ (.int .i64 ((k + n : Nat) : Int))).alloc (.cells #[.int .i32 o1, .int .u32 (o2 : Int), .int .u32 (o3 : Int)] 89)) := ((Fr.refl (fun g => g = W0.heap.size) w8).setc ⟨W0.heap.size, 3, none⟩ _ fun _ => rfl).alloc _
    have ha := add_leaf (hR9.on hb9) (HS8.out.same hf9) (by omega) (q := 2) (r := (x : Int)) (p := 0) (m := 0) (by omega) hx31 (by omega) (by omega)
    rw [← HRX.out, show ((k + n : Nat) : Int) = (k : Int) + (n : Int) by omega] at ha
    have HA := Lib.hid ha
    have j1 : (k : Int) + (n : Int) ≤ 65536 := by omega
    clear ha hR9 hb9 hf9 HRP HR HR8 HS8 hDW
    go_wp2_with fail
    refine HA.out.mono ?_
    intro e x2 hpo
    have hpo2 := hpo
    rw [HRX.out] at hpo2
    obtain ⟨rfl, _⟩ := hpo2
    have HFIN := Lib.hid hpo
    clear hpo HA
    go_wp2_with fail
    go_ret
    exact HFIN.out
  · have hne : (E != 0) = true := by rw [bne_iff_ne]; exact h0
    have HRX : Hid (R = .bad k) := by show _ = _; rw [HR.out, HRP.out, if_pos h0]
    have hba : Below W0.heap.size W0 (w8.alloc (.cells #[.int .i32 o1, .int .u32 (o2 : Int), .int .u32 (o3 : Int)] 89)) := HR8.out.below.alloc (by omega) _
    have HBA := Lib.hid hba
    clear HRP HR HR8 HS8 hDW h0 hba
    go_wp2_with fail
    exact ⟨rfl, by rw [HRX.out]; exact ⟨rfl, HBA.out⟩⟩
end
end Go.Proofs.YtimhlnndobfehaaDoor
namespace Go.Proofs.YtimhlnndobfehaaDoor
open Go.RowKit Go.Lib
set_option linter.unusedVariables false

theorem index_findB (s : ByteArray) (c : UInt8) : ∀ (f k : Nat), s.size < f + k → k ≤ s.size → (indexByte (s.data.toList.drop k) c = -1 ∧ findB s c.toNat f k = none) ∨ (∃ j : Nat, indexByte (s.data.toList.drop k) c = j ∧ findB s c.toNat f k = some (k + j) ∧ k + j < s.size)
  | 0, k, h, hk => by omega
  | f + 1, k, h, hk => by
    unfold findB
    by_cases hlt : k < s.size
    · have hl : k < s.data.toList.length := by simpa using hlt
      have e : s.data.toList[k] = s[k]'hlt := by simp; rfl
      have e2 := bt_get s k hlt
      rw [List.drop_eq_getElem_cons hl, e, if_pos hlt]
      unfold indexByte
      by_cases h10 : bt s k = c.toNat
      · have : s[k]'hlt = c := by
          apply UInt8.toNat_inj.1
          rw [e2, h10]
        refine .inr ⟨0, ?_, by rw [if_pos h10]; rfl, by omega⟩
        rw [this]
        simp
      · have hne : (s[k]'hlt == c) = false := by
          rw [beq_eq_false_iff_ne]
          intro h
          exact h10 (by rw [← e2, h])
        rw [hne, if_neg h10]
        rcases index_findB s c f (k + 1) (by omega) (by omega) with ⟨h1, h2⟩ | ⟨j, h1, h2, h3⟩
        · left
          rw [h1, h2]
          exact ⟨rfl, rfl⟩
        · right
          refine ⟨j + 1, ?_, by rw [h2]; congr 1; omega, by omega⟩
          rw [h1]
          have : ((j : Int) == -1) = false := by rw [beq_eq_false_iff_ne]; omega
          rw [this]
          simp
    · rw [if_neg hlt, List.drop_eq_nil_of_le (by simp; omega)]
      exact .inl ⟨rfl, rfl⟩
def CutR (s : ByteArray) (c k : Nat) (e : Ending) : Prop := match findB s c (s.size + 1) k with
  | none => e = .returned (.tuple #[.string (s.extract k s.size), .string ⟨#[]⟩, .bool false])
  | some j => e = .returned (.tuple #[.string (s.extract k j), .string (s.extract (j + 1) s.size), .bool true])
set_option maxHeartbeats 4000000 in
theorem scut1_any (s : ByteArray) (c : UInt8) (k : Nat) (w : World) (hs : s.size ≤ 65536) (hk : k ≤ s.size) :
    Calls Tryd.prog 132 #[.string (s.extract k s.size), .string ⟨#[c]⟩] w fun e w' => CutR s c.toNat k e ∧ Below w.heap.size w w' := by
  have hidx := index_findB s c (s.size + 1) k (by omega) hk
  have hl : (s.extract k s.size).data.toList = s.data.toList.drop k := by
    rw [ext_list, List.take_of_length_le (by simp)]
  have hsz : (s.extract k s.size).size = s.size - k := by rw [ByteArray.size_extract]; omega
  have hI := fun wx => Tryd.stringslite_Index_one (s.extract k s.size) c wx
  rw [hl] at hI
  rcases hidx with ⟨h1, h2⟩ | ⟨j, h1, h2, h3⟩
  · rw [h1] at hI
    have HI := Lib.hid hI
    have HE : Hid (∀ e, e = Ending.returned (.tuple #[.string (s.extract k s.size), .string ⟨#[]⟩, .bool false]) → CutR s c.toNat k e) := fun e he => by unfold CutR; rw [h2]; exact he
    clear hI h1 h2 hl hsz
    generalize s.extract k s.size = x at *
    go_enter Tryd.func132, Tryd.ntmps132
    go_wp2_with fail
    refine (HI.out _).mono ?_
    rintro e w' ⟨rfl, rfl⟩
    go_wp2_with fail
    go_ret3
    exact ⟨HE.out _ rfl, Below.refl _ _⟩
  · rw [h1] at hI
    have HI := Lib.hid hI
    have e1 : (s.extract k s.size).extract 0 j = s.extract k (k + j) := by
      rw [ByteArray.extract_extract]; congr 1; omega
    have e2 : (s.extract k s.size).extract (j + 1) (s.extract k s.size).size = s.extract (k + j + 1) s.size := by
      rw [hsz, ByteArray.extract_extract]
      congr 1 <;> omega
    have HE : Hid (∀ e, e = Ending.returned (.tuple #[.string ((s.extract k s.size).extract 0 j), .string ((s.extract k s.size).extract (j + 1) (s.extract k s.size).size), .bool true]) → CutR s c.toNat k e) := fun e he => by
      unfold CutR
      rw [h2]
      simp only
      rw [← e1, ← e2]
      exact he
    have hjx : j < (s.extract k s.size).size := by omega
    clear hI h1 h2 hl hsz e1 e2
    generalize s.extract k s.size = x at *
    go_enter Tryd.func132, Tryd.ntmps132
    go_wp2_with fail
    refine (HI.out _).mono ?_
    rintro e w' ⟨rfl, rfl⟩
    go_wp2_with fail
    go_quiet (fail)
    go_wp2_with fail
    go_ret3
    exact ⟨HE.out _ rfl, below_drewN (Below.refl _ _) _⟩
set_option maxHeartbeats 2000000 in
theorem cut1_any (s : ByteArray) (c : UInt8) (k : Nat) (w : World) (hs : s.size ≤ 65536) (hk : k ≤ s.size) :
    Calls Tryd.prog 120 #[.string (s.extract k s.size), .string ⟨#[c]⟩] w fun e w' => CutR s c.toNat k e ∧ Below w.heap.size w w' := by
  have H := Lib.hid (scut1_any s c k w hs hk)
  cases hf : findB s c.toNat (s.size + 1) k with
  | none =>
    have HE : Hid (∀ e, CutR s c.toNat k e ↔ e = Ending.returned (.tuple #[.string (s.extract k s.size), .string ⟨#[]⟩, .bool false])) := fun e => by unfold CutR; rw [hf]
    clear hf
    go_enter Tryd.func120, Tryd.ntmps120
    go_wp2_with fail
    refine H.out.mono ?_
    rintro e w1 ⟨he, hb1⟩
    obtain rfl := (HE.out e).1 he
    clear he
    go_wp2_with fail
    go_ret3
    exact ⟨(HE.out _).2 rfl, hb1⟩
  | some j =>
    have HE : Hid (∀ e, CutR s c.toNat k e ↔ e = Ending.returned (.tuple #[.string (s.extract k j), .string (s.extract (j + 1) s.size), .bool true])) := fun e => by unfold CutR; rw [hf]
    clear hf
    go_enter Tryd.func120, Tryd.ntmps120
    go_wp2_with fail
    refine H.out.mono ?_
    rintro e w1 ⟨he, hb1⟩
    obtain rfl := (HE.out e).1 he
    clear he
    go_wp2_with fail
    go_ret3
    exact ⟨(HE.out _).2 rfl, hb1⟩
/-- A place found, or -1. -/
def idxI : Option Nat → Int
  | none => -1
  | some i => (i : Int)
set_option maxHeartbeats 4000000 in
/-- slices.Index of strings. -/
theorem index_str {A : Option Addr} {c lo hi : Nat} {l : List ByteArray} {w : World} (h : Sl 1 vStr w lo hi A l) (hm : l.length ≤ 1000) (x : ByteArray) :
    Calls Tryd.prog 134 #[.slice A l.length c, .string x] w fun e w' => e = .returned (.int .i64 (idxI (l.findIdx? (fun y => y.data.toList == x.data.toList)))) ∧ w' = w := by
  have HSL := Lib.hid h
  obtain ⟨R, hR⟩ : ∃ R : Int, R = idxI (l.findIdx? (fun y => y.data.toList == x.data.toList)) := ⟨_, rfl⟩
  rw [← hR]
  have HF : Hid (∀ k, k < l.length → (∀ j, j < k → l[j]? ≠ some x) → l[k]? = some x → R = (k : Int)) := fun k hk h1 h2 => by
    have e0 : l.findIdx? (fun y => y.data.toList == x.data.toList) = some k := by
     refine List.findIdx?_eq_some_iff_getElem.2 ⟨hk, ?_, ?_⟩
     · rw [List.getElem?_eq_getElem hk] at h2
       rw [Option.some.inj h2]
       simp
     · intro j hj
       have := h1 j hj
       rw [List.getElem?_eq_getElem (by omega)] at this
       rw [beq_eq_false_iff_ne.2 (fun e => this (congrArg some (by
         apply ByteArray.ext
         exact Array.toList_inj.1 e)))]
       simp
    rw [hR, e0]
    rfl
  have HN : Hid ((∀ j, j < l.length → l[j]? ≠ some x) → R = -1) := fun h1 => by
    have e0 : l.findIdx? (fun y => y.data.toList == x.data.toList) = none := by
      refine List.findIdx?_eq_none_iff.2 fun y hy => ?_
      obtain ⟨j, hj, rfl⟩ := List.getElem_of_mem hy
      have := h1 j hj
      rw [List.getElem?_eq_getElem hj] at this
      rw [beq_eq_false_iff_ne]
      exact fun e => this (congrArg some (by
        apply ByteArray.ext
        exact Array.toList_inj.1 e))
    rw [hR, e0]
    rfl
  clear hR h
  go_enter Tryd.func134, Tryd.ntmps134
  go_wp2_with fail
  go_loopw [8] (fun i wr => wr = w ∧ ∃ k : Nat, i = .int .i64 (k : Int) ∧ k ≤ l.length ∧ Hid (∀ j, j < k → l[j]? ≠ some x)) (fun i _ => l.length - (intOf i).toNat)
  case atStart => exact ⟨rfl, 0, rfl, by omega, fun j hj => by omega⟩
  case round =>
    obtain ⟨rfl, k, rfl, hk, hd⟩ := hrel
    by_cases hlt : k < l.length
    · have j1 : (k : Int) < (l.length : Int) := by omega
      obtain ⟨g, o, rfl, _, _, ⟨y0, _⟩, _⟩ := strs_at HSL.out hlt
      by_cases he : l[k] = x
      · have HFF := Lib.hid (HF.out k hlt hd.out (by rw [List.getElem?_eq_getElem hlt, he]))
        have he' : (x.toList == l[k].toList) = true := by rw [he]; simp
        clear hd HF HN HSL
        generalize l[k] = y at *
        have hxy : x = y := he.symm
        subst hxy
        go_wp2_with fail
        go_ret
        exact ⟨by rw [HFF.out]; rfl, rfl⟩
      · have HD2 : Hid (∀ j, j < k + 1 → l[j]? ≠ some x) := fun j hj => by
          by_cases e : j = k
          · rw [e, List.getElem?_eq_getElem hlt]
            exact fun e => he (Option.some.inj e)
          · exact hd.out j (by omega)
        have hne : (x.toList == l[k].toList) = false := by
          rw [beq_eq_false_iff_ne, ByteArray.toList_eq, ByteArray.toList_eq]
          exact fun e => he (ByteArray.ext (Array.toList_inj.1 e.symm))
        have hne2 : ¬ x.toList = l[k].toList := by rw [beq_eq_false_iff_ne] at hne; exact hne
        clear hd HF HN HSL
        generalize l[k] = y at *
        go_wp2_with fail
        exact ⟨⟨trivial, k + 1, by simp, by omega, HD2⟩, by simp [intOf]; omega⟩
    · have j1 : ¬ (k : Int) < (l.length : Int) := by omega
      have HFF := Lib.hid (HN.out fun j hj => hd.out j (by omega))
      clear hd HF HN HSL
      go_wp2_with fail
      go_ret
      exact ⟨by rw [HFF.out]; rfl, rfl⟩
end Go.Proofs.YtimhlnndobfehaaDoor
