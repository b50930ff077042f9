/- pattern.tree, walked. -/
import Derived.Test.YtimhlnndobfehaaDoorMc08
import Derived.Test.YtimhlnndobfehaaDoorMc25
import Derived.Test.YtimhlnndobfehaaDoorChecked
import Derived.Deep.DeepCutAuto
import Derived.Deep.CutBlock
namespace Go.Proofs.YtimhlnndobfehaaDoor
open Go.RowKit
set_option linter.unusedVariables false

theorem bool_info : (Tryd.prog.info? 4).map (fun i => (i.zero, i.size, i.bytes)) = some (some (.bool false), 1, 1) := by kernel_rfl

set_option maxHeartbeats 8000000 in
set_option maxRecDepth 100000 in
theorem tree_mid (A : Option Addr) (c lo hi : Nat) (ns : List Nd) (w : World) (h1 : 1 ≤ ns.length) (h2 : ns.length ≤ 256) (hhi : hi ≤ w.heap.size) (hsl : Sl 5 vNd w lo hi A ns) :
    Calls Tryd.prog 47 #[.agg #[.slice A ns.length c]] w fun e w' => e = .returned (.bool (treeB ns)) ∧ Below w.heap.size w w' := by
  obtain ⟨i0, hi0, hz0, hz1, hz2⟩ := info_parts bool_info
  have hb2 : i0.bytes * ns.length ≤ 281474976710656 := by rw [hz2]; omega
  have hb3 : ns.length ≤ maxLen := by unfold maxLen; omega
  have hT : Hid (treeB ns = match nodesOk ns.length 0 (List.replicate ns.length false) ns with
    | none => false
    | some seen => !(seen.tail.contains false)) := by
    show _ = _
    unfold treeB
    rw [if_neg (by omega)]
    rfl
  go_enter Tryd.func47, Tryd.ntmps47
  go_wp2_with (refine wpList_make_full _ rfl (.tmp 18) (.tmp 18) 122 rfl w.heap.size 4 i0 (.bool false) 1 Tryd.underlying122 hi0 hz0 hz1 .i64 .i64 (ns.length : Int) (ns.length : Int) ns.length rfl rfl rfl rfl hb2 hb3 (by simp) ?_)
  intro w1 hown hgrow
  have hbox : Row w1 w.heap.size 28 [.slice A ns.length c] := (Row.new w 28 [.slice A ns.length c]).grown hgrow (by simp)
  have hrow := Row.of_own (c := ns.length) (by simpa using hown)
  have hrow' : Row w1 (w.heap.size + 1) 4 ((List.replicate ns.length false).map Value.bool) := by
    have e : (madeCells #[Value.bool false] ns.length).toList = (List.replicate ns.length false).map Value.bool := by rw [toList_madeCells_one, List.map_replicate]
    rw [← e]
    simpa [Value.cells] using hrow
  have hb1 : Below w.heap.size w w1 := ((Below.refl _ _).alloc (Nat.le_refl _) _).grown hgrow (by simp) (by simp)
  clear hown hgrow hrow
  obtain ⟨cb, fb⟩ := hbox.cel (i := 0) rfl
  go_wp2_with fail
  clear cb fb
  go_loopw [23] (fun i wr => ∃ (k : Nat) (seen : List Bool), k ≤ ns.length ∧ i = .int .i64 k ∧ seen.length = ns.length ∧ Row wr (w.heap.size + 1) 4 (seen.map Value.bool) ∧ Row wr w.heap.size 28 [.slice A ns.length c] ∧
      Hid (nodesOk ns.length 0 (List.replicate ns.length false) ns = nodesOk ns.length k seen (ns.drop k)) ∧ Below w.heap.size w wr) (fun i _ => ns.length - (intOf i).toNat)
  case atStart => exact ⟨0, _, by omega, rfl, by simp, hrow', hbox, rfl, hb1⟩
  case round =>
    obtain ⟨k, seen, hk, rfl, hsn, hrw, hbx, hN, hbw⟩ := hrel
    have hbz := hbw.size
    have hrl := hrw.lt
    obtain ⟨cb, fb⟩ := hbx.cel (i := 0) rfl
    by_cases hlt : k < ns.length
    · obtain ⟨b, off, B, cc, rfl, _, hb, c0, c1, c2, c3, c4, hkl, hkc, hks, k0, k1, k2, k3⟩ := nd_at (hsl.below vNd_good hbw hhi) hlt
      have hstep : nodesOk ns.length k seen (ns.drop k) = if nodeOk ns[k] then (match kidsOk k ns.length seen ns[k].kids with | some s => nodesOk ns.length (k + 1) s (ns.drop (k + 1)) | none => none) else none := by
        rw [List.drop_eq_getElem_cons hlt]; rfl
      have hS := Lib.hid hstep
      clear hstep
      generalize hx : ns[k] = x at *
      have HX := Lib.hid hx
      clear hx
      obtain ⟨c0, f0⟩ := c0
      obtain ⟨c1, f1⟩ := c1
      obtain ⟨c2, f2⟩ := c2
      obtain ⟨c3, f3⟩ := c3
      obtain ⟨c4, f4⟩ := c4
      have hBad : Hid (nodeOk x = false → treeB ns = false) := fun hb => by rw [hT.out, hN.out, hS.out, if_neg (by rw [hb]; simp)]
      go_upto_block 2 with (fail)
      go_cut [] (fun wc => wc = wr.alloc (.cells #[.int .u8 x.kind, .int .i32 x.rune, .int .u32 x.plus, .int .u32 x.minus, .slice B x.kids.length cc] 44) ∧ arOk x = true)
      case first =>
        obtain ⟨kd, rn, pl, mi, ks⟩ := x
        simp only at *
        have hkd : kd = 6 ∨ kd = 7 ∨ kd = 8 ∨ kd = 9 ∨ kd = 1 ∨ kd = 2 ∨ kd = 3 ∨ kd = 4 ∨ kd = 5 ∨ (kd ≠ 1 ∧ kd ≠ 2 ∧ kd ≠ 3 ∧ kd ≠ 4 ∧ kd ≠ 5 ∧ kd ≠ 6 ∧ kd ≠ 7 ∧ kd ≠ 8 ∧ kd ≠ 9) := by omega
        rcases hkd with rfl | rfl | rfl | rfl | rfl | rfl | rfl | rfl | rfl | ⟨d1, d2, d3, d4, d5, d6, d7, d8, d9⟩
        case inr.inr.inr.inr.inr.inr.inr.inr.inr =>
          have e1 := beq_eq_false_iff_ne.2 d1
          have e2 := beq_eq_false_iff_ne.2 d2
          have e3 := beq_eq_false_iff_ne.2 d3
          have e4 := beq_eq_false_iff_ne.2 d4
          have e5 := beq_eq_false_iff_ne.2 d5
          have e6 := beq_eq_false_iff_ne.2 d6
          have e7 := beq_eq_false_iff_ne.2 d7
          have e8 := beq_eq_false_iff_ne.2 d8
          have e9 := beq_eq_false_iff_ne.2 d9
          go_wp2_with fail
          have hb : nodeOk ⟨kd, rn, pl, mi, ks⟩ = false := by
            rw [nodeOk_eq, Bool.and_eq_false_iff]
            left
            unfold arOk
            rw [if_neg (by simp only; omega), if_neg (by simp only; omega), if_neg (by simp only; omega)]
          go_ret
          exact ⟨by rw [hBad.out hb]; rfl, by go_grown⟩
        case inl =>
          go_wp2_with fail
          go_meet
          case rel => exact ⟨rfl, by simp [arOk]⟩
        case inr.inl =>
          go_wp2_with fail
          go_meet
          case rel => exact ⟨rfl, by simp [arOk]⟩
        case inr.inr.inl =>
          by_cases hl : ks.length = 1
          · have e : ((ks.length : Int) != 1) = false := by simp [hl]
            have HL := Lib.hid hl
            clear hl
            go_wp2_with fail
            go_meet
            case rel => exact ⟨rfl, by simp [arOk, HL.out]⟩
          · have e : ((ks.length : Int) != 1) = true := by rw [bne_iff_ne]; omega
            have hF := Lib.hid (hBad.out (by rw [nodeOk_eq, Bool.and_eq_false_iff]; left; simp [arOk, hl]))
            clear hl
            go_wp2_with fail
            go_ret
            exact ⟨by rw [hF.out]; rfl, by go_grown⟩
        case inr.inr.inr.inl =>
          by_cases hl : ks.length = 1
          · have e : ((ks.length : Int) != 1) = false := by simp [hl]
            have HL := Lib.hid hl
            clear hl
            go_wp2_with fail
            go_meet
            case rel => exact ⟨rfl, by simp [arOk, HL.out]⟩
          · have e : ((ks.length : Int) != 1) = true := by rw [bne_iff_ne]; omega
            have hF := Lib.hid (hBad.out (by rw [nodeOk_eq, Bool.and_eq_false_iff]; left; simp [arOk, hl]))
            clear hl
            go_wp2_with fail
            go_ret
            exact ⟨by rw [hF.out]; rfl, by go_grown⟩
        case inr.inr.inr.inr.inl =>
          by_cases hl : ks.length = 0
          · have e : ((ks.length : Int) != 0) = false := by simp [hl]
            have HL := Lib.hid hl
            clear hl
            go_wp2_with fail
            go_meet
            case rel => exact ⟨rfl, by simp [arOk, HL.out]⟩
          · have e : ((ks.length : Int) != 0) = true := by rw [bne_iff_ne]; omega
            have hF := Lib.hid (hBad.out (by rw [nodeOk_eq, Bool.and_eq_false_iff]; left; simp [arOk, hl]))
            clear hl
            go_wp2_with fail
            go_ret
            exact ⟨by rw [hF.out]; rfl, by go_grown⟩
        case inr.inr.inr.inr.inr.inl =>
          by_cases hl : ks.length = 0
          · have e : ((ks.length : Int) != 0) = false := by simp [hl]
            have HL := Lib.hid hl
            clear hl
            go_wp2_with fail
            go_meet
            case rel => exact ⟨rfl, by simp [arOk, HL.out]⟩
          · have e : ((ks.length : Int) != 0) = true := by rw [bne_iff_ne]; omega
            have hF := Lib.hid (hBad.out (by rw [nodeOk_eq, Bool.and_eq_false_iff]; left; simp [arOk, hl]))
            clear hl
            go_wp2_with fail
            go_ret
            exact ⟨by rw [hF.out]; rfl, by go_grown⟩
        case inr.inr.inr.inr.inr.inr.inl =>
          by_cases hl : ks.length = 0
          · have e : ((ks.length : Int) != 0) = false := by simp [hl]
            have HL := Lib.hid hl
            clear hl
            go_wp2_with fail
            go_meet
            case rel => exact ⟨rfl, by simp [arOk, HL.out]⟩
          · have e : ((ks.length : Int) != 0) = true := by rw [bne_iff_ne]; omega
            have hF := Lib.hid (hBad.out (by rw [nodeOk_eq, Bool.and_eq_false_iff]; left; simp [arOk, hl]))
            clear hl
            go_wp2_with fail
            go_ret
            exact ⟨by rw [hF.out]; rfl, by go_grown⟩
        case inr.inr.inr.inr.inr.inr.inr.inl =>
          by_cases hl : ks.length = 0
          · have e : ((ks.length : Int) != 0) = false := by simp [hl]
            have HL := Lib.hid hl
            clear hl
            go_wp2_with fail
            go_meet
            case rel => exact ⟨rfl, by simp [arOk, HL.out]⟩
          · have e : ((ks.length : Int) != 0) = true := by rw [bne_iff_ne]; omega
            have hF := Lib.hid (hBad.out (by rw [nodeOk_eq, Bool.and_eq_false_iff]; left; simp [arOk, hl]))
            clear hl
            go_wp2_with fail
            go_ret
            exact ⟨by rw [hF.out]; rfl, by go_grown⟩
        case inr.inr.inr.inr.inr.inr.inr.inr.inl =>
          by_cases hl : ks.length = 0
          · have e : ((ks.length : Int) != 0) = false := by simp [hl]
            have HL := Lib.hid hl
            clear hl
            go_wp2_with fail
            go_meet
            case rel => exact ⟨rfl, by simp [arOk, HL.out]⟩
          · have e : ((ks.length : Int) != 0) = true := by rw [bne_iff_ne]; omega
            have hF := Lib.hid (hBad.out (by rw [nodeOk_eq, Bool.and_eq_false_iff]; left; simp [arOk, hl]))
            clear hl
            go_wp2_with fail
            go_ret
            exact ⟨by rw [hF.out]; rfl, by go_grown⟩
      case rest =>
        obtain ⟨rfl, har⟩ := hcut
        go_upto_region 23 with (fail)
        have hfe : fdOk x = ((!(x.rune != 0) || !(x.kind != 2)) && (!(bits .or .u32 x.plus x.minus != 0) || !(x.kind != 3))) := by
          have hor := bits_or_u32 k2 k3
          have e : (bits .or .u32 x.plus x.minus != 0) = !(decide (x.plus = 0) && decide (x.minus = 0)) := by
            rw [Bool.eq_iff_iff]
            simp [hor]
            omega
          rw [e, fdOk]
          simp [bne, Bool.beq_eq_decide_eq]
        have HFE := Lib.hid hfe
        clear hfe
        go_cut [70] (fun v wc => v = .bool (!fdOk x) ∧ wc = wr.alloc (.cells #[.int .u8 x.kind, .int .i32 x.rune, .int .u32 x.plus, .int .u32 x.minus, .slice B x.kids.length cc] 44))
        case first =>
          cases e1 : (x.rune != 0) <;> cases e2 : (x.kind != 2) <;> cases e3 : (bits .or .u32 x.plus x.minus != 0) <;> cases e4 : (x.kind != 3)
          all_goals
            go_wp2_with fail
            go_meet
            case rel => exact ⟨by rw [HFE.out, e1, e2, e3, e4]; rfl, rfl⟩
        case rest =>
          obtain ⟨rfl, rfl⟩ := hcut
          cases hfd : fdOk x with
          | false =>
            have hF := Lib.hid (hBad.out (by rw [nodeOk_eq, hfd, Bool.and_false]))
            go_wp2_with fail
            go_ret
            exact ⟨by rw [hF.out]; rfl, by go_grown⟩
          | true =>
            have hno : nodeOk x = true := by rw [nodeOk_eq, har, hfd]; rfl
            have hS2 : Hid (nodesOk ns.length k seen (ns.drop k) = (match kidsOk k ns.length seen x.kids with | some s => nodesOk ns.length (k + 1) s (ns.drop (k + 1)) | none => none)) := by
              show _ = _
              rw [hS.out, if_pos hno]
            have hBadK : Hid (kidsOk k ns.length seen x.kids = none → treeB ns = false) := fun hb => by rw [hT.out, hN.out, hS2.out, hb]
            clear hS hno har hfd HFE hBad
            obtain ⟨wo, hwo⟩ : ∃ wo : World, wo = wr := ⟨_, rfl⟩
            subst hwo
            have hw1 : Below w.heap.size w (wo.alloc (.cells #[.int .u8 x.kind, .int .i32 x.rune, .int .u32 x.plus, .int .u32 x.minus, .slice B x.kids.length cc] 44)) := hbw.alloc hbz _
            go_wp2_with fail
            go_loopw [74] (fun i wi => ∃ (j : Nat) (sn : List Bool), j ≤ x.kids.length ∧ i = .int .i64 j ∧ sn.length = ns.length ∧ Row wi (w.heap.size + 1) 4 (sn.map Value.bool) ∧ Row wi w.heap.size 28 [.slice (some ⟨b, off, none⟩) ns.length c] ∧
              Hid (kidsOk k ns.length seen x.kids = kidsOk k ns.length sn (x.kids.drop j)) ∧ Below w.heap.size wo wi) (fun i _ => x.kids.length - (intOf i).toNat)
            case atStart => exact ⟨0, seen, by omega, rfl, hsn, hrw.alloc _, hbx.alloc _, rfl, by go_grown⟩
            case round =>
              obtain ⟨j, sn, hj, rfl, hsn', hrw', hbx', hK, hbi⟩ := hrel
              have hbi2 : Below w.heap.size w wr := hbw.trans hbi
              have hbz2 := hbi2.size
              have hrl2 := hrw'.lt
              have hkm : x.kids.length ≤ 9223372036854775807 := by unfold maxLen at hkc; omega
              by_cases hjl : j < x.kids.length
              · obtain ⟨b', off', rfl, _, hb', ⟨ck, fk⟩, kk⟩ := ints_at (hks.below (vInt_good _) hbi hhi) hjl
                have kk2 := kin_i64 kk
                have hst : kidsOk k ns.length sn (x.kids.drop j) = if x.kids[j] ≤ (k : Int) ∨ (ns.length : Int) ≤ x.kids[j] ∨ sn[x.kids[j].toNat]? = some true then none else kidsOk k ns.length (sn.set x.kids[j].toNat true) (x.kids.drop (j + 1)) := by
                  rw [List.drop_eq_getElem_cons hjl]; rfl
                have hSt := Lib.hid hst
                clear hst
                generalize hv : x.kids[j] = v at *
                have HV := Lib.hid hv
                clear hv
                by_cases hb1' : v ≤ (k : Int) ∨ (ns.length : Int) ≤ v
                · have hF := Lib.hid (hBadK.out (by rw [hK.out, hSt.out, if_pos (by omega)]))
                  rcases hb1' with hb1' | hb1'
                  all_goals
                    go_wp2_with fail
                    go_ret
                    exact ⟨by rw [hF.out]; rfl, hbi2⟩
                · obtain ⟨q, rfl⟩ := Int.eq_ofNat_of_zero_le (show 0 ≤ v by omega)
                  have hq1 : k < q := by omega
                  have hq2 : q < ns.length := by omega
                  have hql : q < sn.length := by omega
                  obtain ⟨cq, fq⟩ := hrw'.cel (i := q) (v := .bool sn[q]) (by simp [hql])
                  have hq3 : sn[q]? = some sn[q] := List.getElem?_eq_getElem hql
                  cases hb2' : sn[q] with
                  | true =>
                    rw [hb2'] at cq hq3
                    have hF := Lib.hid (hBadK.out (by rw [hK.out, hSt.out, if_pos (.inr (.inr (by simpa using hq3)))]))
                    clear hq3 hb2'
                    go_wp2_with fail
                    go_ret
                    exact ⟨by rw [hF.out]; rfl, hbi2⟩
                  | false =>
                    rw [hb2'] at cq hq3
                    have hK2 : Hid (kidsOk k ns.length seen x.kids = kidsOk k ns.length (sn.set q true) (x.kids.drop (j + 1))) := by
                      show _ = _
                      rw [hK.out, hSt.out, if_neg (by rintro (h | h | h) <;> first | omega | (rw [show ((q : Int)).toNat = q from rfl, hq3] at h; simp at h))]
                      rfl
                    clear hq3 hb2'
                    have hr3 := hrw'.set_ q (.bool true)
                    have hb3 := hbx'.far (p := ⟨w.heap.size + 1, q, none⟩) (by simp) (.bool true)
                    go_wp2_with fail
                    refine ⟨?_, by simp [intOf]; omega⟩
                    repeat apply Exists.intro
                    refine ⟨⟨j + 1, sn.set q true, by omega, by go_num, by simp [hsn'], by rw [List.map_set]; exact hr3, hb3, hK2, by go_grown⟩, ?_⟩
                    rfl
              · obtain rfl : j = x.kids.length := by omega
                have hN2 : Hid (nodesOk ns.length 0 (List.replicate ns.length false) ns = nodesOk ns.length (k + 1 : Nat) sn (ns.drop (k + 1))) := by
                  show _ = _
                  rw [hN.out, hS2.out, hK.out, List.drop_length]
                  rfl
                go_wp2_with fail
                exact ⟨⟨k + 1, sn, by omega, by go_num, hsn', hrw', hbx', hN2, hbi2⟩, by simp [intOf]; omega⟩
    · obtain rfl : k = ns.length := by omega
      have hfin : treeB ns = !(seen.tail.contains false) := by rw [hT.out, hN.out, List.drop_length]; rfl
      have hF := Lib.hid hfin
      clear hfin
      have hsl3 := hrw.bools_tail (by omega)
      by_cases hn1 : ns.length = 1
      · have htl : seen.tail = [] := List.eq_nil_of_length_eq_zero (by rw [List.length_tail]; omega)
        have HTL := Lib.hid htl
        clear htl
        go_wp2_with fail
        refine (contains_bool false (some ⟨w.heap.size + 1, 0, none⟩) 0 0 0 [] wr (Sl.nil _) (by simp)).mono ?_
        rintro e w' ⟨rfl, rfl⟩
        go_wp2_with fail
        go_ret
        exact ⟨by rw [hF.out, HTL.out]; rfl, hbw⟩
      · have hn3 : (1 : Nat) < ns.length := by omega
        obtain ⟨tl, htl⟩ : ∃ tl, tl = seen.tail := ⟨_, rfl⟩
        rw [← htl] at hsl3 hF
        have htn : tl.length = ns.length - 1 := by rw [htl, List.length_tail, hsn]
        clear htl
        obtain ⟨cc, hcc⟩ : ∃ cc, cc = tl.contains false := ⟨_, rfl⟩
        rw [← hcc] at hF
        have hC := Lib.hid hcc
        clear hcc
        go_wp2_with fail
        rw [← htn]
        refine (contains_bool false _ _ _ _ tl wr hsl3 (by omega)).mono ?_
        rw [← hC.out]
        rintro e w' ⟨rfl, rfl⟩
        go_wp2_with fail
        go_ret
        exact ⟨by rw [hF.out]; rfl, hbw⟩

theorem tree_any (A : Option Addr) (c lo hi : Nat) (ns : List Nd) (w : World) (hm : ns.length ≤ 9223372036854775807) (hhi : hi ≤ w.heap.size) (hsl : Sl 5 vNd w lo hi A ns) :
    Calls Tryd.prog 47 #[.agg #[.slice A ns.length c]] w fun e w' => e = .returned (.bool (treeB ns)) ∧ Below w.heap.size w w' := by
  by_cases h : 1 ≤ ns.length ∧ ns.length ≤ 256
  · exact tree_mid A c lo hi ns w h.1 h.2 hhi hsl
  · have hF := Lib.hid (show treeB ns = false by unfold treeB; rw [if_pos (by omega)])
    rcases (show ns.length < 1 ∨ 256 < ns.length by omega) with h1 | h1
    all_goals
      go_enter Tryd.func47, Tryd.ntmps47
      go_wp2_with fail
      go_ret
      exact ⟨by rw [hF.out]; rfl, by go_grown⟩
end Go.Proofs.YtimhlnndobfehaaDoor
