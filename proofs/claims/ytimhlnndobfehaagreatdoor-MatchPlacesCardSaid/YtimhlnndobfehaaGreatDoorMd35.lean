/- The document's Tree, walked. -/
import Derived.Test.YtimhlnndobfehaaGreatDoorMd33
import Derived.Test.YtimhlnndobfehaaGreatDoorMd34
import Derived.Test.YtimhlnndobfehaaGreatDoorChecked
import Derived.Deep.DeepCutAuto
import Derived.Deep.CutBlock
namespace Go.Proofs.YtimhlnndobfehaaGreatDoor
open Go.RowKit
set_option linter.unusedVariables false

def vN (c : Nat) : Value := .int .i64 (c : Int)
theorem vN_int (c : Nat) : vN c = .int .i64 (c : Int) := rfl

set_option maxHeartbeats 8000000 in
set_option maxRecDepth 100000 in
theorem treeR_mid (A : Option Addr) (c lo hi : Nat) (ns : List Nd) (w : World) (h1 : 1 ≤ ns.length) (h2 : ns.length ≤ 256) (hhi : hi ≤ w.heap.size) (hsl : Sl 5 vNd w lo hi A ns) :
    Calls Tryz.prog 90 #[.agg #[.slice A ns.length c]] w fun e w' => e = .returned (.bool (treeR ns)) ∧ Below w.heap.size w w' := by
  obtain ⟨i0, hi0, hz0, hz1, hz2⟩ := info_parts int_info
  have hb2 : i0.bytes * ns.length ≤ 281474976710656 := by rw [hz2]; omega
  have hb3 : ns.length ≤ maxLen := by unfold maxLen; omega
  have hT : Hid (treeR ns = match nodesIn ns.length 0 (List.replicate ns.length 0) ns with
    | none => false
    | some c => c.tail.all (· == 1)) := by
    show _ = _
    unfold treeR
    rw [if_neg (by omega)]
    rfl
  go_enter Tryz.func90, Tryz.ntmps90
  go_wp2_with (refine wpList_make_full _ rfl (.tmp 18) (.tmp 18) 45 rfl w.heap.size 3 i0 (.int .i64 0) 1 Tryz.underlying45 hi0 hz0 hz1 .i64 .i64 (ns.length : Int) (ns.length : Int) ns.length rfl rfl rfl rfl hb2 hb3 (by simp) ?_)
  intro w1 hown hgrow
  have hbox : Row w1 w.heap.size 28 [.slice A ns.length c] := (Row.new w 28 [.slice A ns.length c]).grown hgrow (by simp)
  have hrow := Row.of_own (c := ns.length) (by simpa using hown)
  have hrow' : Row w1 (w.heap.size + 1) 3 ((List.replicate ns.length 0).map vN) := by
    have e : (madeCells #[Value.int .i64 0] ns.length).toList = (List.replicate ns.length 0).map vN := by rw [toList_madeCells_one, List.map_replicate]; rfl
    rw [← e]
    simpa [Value.cells] using hrow
  have hb1 : Below w.heap.size w w1 := ((Below.refl _ _).alloc (Nat.le_refl _) _).grown hgrow (by simp) (by simp)
  clear hown hgrow hrow
  obtain ⟨cb, fb⟩ := hbox.cel (i := 0) rfl
  go_wp2_with fail
  clear cb fb
  go_loopw [5] (fun i wr => ∃ (k : Nat) (cs : List Nat), k ≤ ns.length ∧ i = .int .i64 k ∧ cs.length = ns.length ∧ Row wr (w.heap.size + 1) 3 (cs.map vN) ∧ Row wr w.heap.size 28 [.slice A ns.length c] ∧
      Hid (nodesIn ns.length 0 (List.replicate ns.length 0) ns = nodesIn ns.length k cs (ns.drop k)) ∧ (∀ x ∈ cs, x ≤ 256 * k) ∧ Below w.heap.size w wr) (fun i _ => ns.length - (intOf i).toNat)
  case atStart => exact ⟨0, _, by omega, rfl, by simp, hrow', hbox, rfl, by simp, hb1⟩
  case round =>
    obtain ⟨k, cs, hk, rfl, hsn, hrw, hbx, hN, hcb, hbw⟩ := hrel
    have hbz := hbw.size
    have hrl := hrw.lt
    obtain ⟨cb, fb⟩ := hbx.cel (i := 0) rfl
    by_cases hlt : k < ns.length
    · obtain ⟨b, off, B, cc, rfl, _, hb, ⟨c0, f0⟩, ⟨c1, f1⟩, ⟨c2, f2⟩, ⟨c3, f3⟩, ⟨c4, f4⟩, hkl, hkc, hks, k0, k1, k2, k3⟩ := nd_at (hsl.below vNd_good hbw hhi) hlt
      have hstep : nodesIn ns.length k cs (ns.drop k) = if nodeOk ns[k] = true ∧ ((ns[k].kids.length : Nat) : Int) < ns.length then (match kidsIn k ns.length cs ns[k].kids with | some s => nodesIn ns.length (k + 1) s (ns.drop (k + 1)) | none => none) else none := by
        rw [List.drop_eq_getElem_cons hlt]; rfl
      have hS := Lib.hid hstep
      clear hstep
      generalize hx : ns[k] = x at *
      have HX := Lib.hid hx
      clear hx
      have hkm : x.kids.length ≤ 9223372036854775807 := by unfold maxLen at hkc; omega
      have hBad : Hid (nodeOk x = false → treeR ns = false) := fun hb => by rw [hT.out, hN.out, hS.out, if_neg (by rw [hb]; simp)]
      have hBad2 : Hid (ns.length ≤ x.kids.length → treeR ns = false) := fun hb => by rw [hT.out, hN.out, hS.out, if_neg (by rintro ⟨_, h⟩; omega)]
      go_wp2_with fail
      refine (node_any x B cc _ hkm).mono ?_
      rintro e w2 ⟨rfl, hbn⟩
      have hbw2 : Below w.heap.size w w2 := hbw.trans (hbn.mono hbz)
      have hrw2 := hrw.below hbn hrl
      have hbx2 := hbx.below hbn hbx.lt
      obtain ⟨cb2, fb2⟩ := hbx2.cel (i := 0) rfl
      obtain ⟨d4, g4⟩ := Cel.keep (Kp.of_below hbn) (Nat.zero_le _) (show b < wr.heap.size by omega) ⟨c4, f4⟩
      have hks2 := hks.below (vInt_good _) hbn (by omega)
      clear c0 c1 c2 c3 c4 f0 f1 f2 f3 f4 hks
      cases hno : nodeOk x with
      | false =>
        have hF := Lib.hid (hBad.out hno)
        go_wp2_with fail
        go_ret
        exact ⟨by rw [hF.out]; rfl, hbw2⟩
      | true =>
        by_cases hkl2 : ns.length ≤ x.kids.length
        · have hF := Lib.hid (hBad2.out hkl2)
          go_wp2_with fail
          go_ret
          exact ⟨by rw [hF.out]; rfl, hbw2⟩
        · have hkl3 : x.kids.length < ns.length := by omega
          have hS2 : Hid (nodesIn ns.length k cs (ns.drop k) = (match kidsIn k ns.length cs x.kids with | some s => nodesIn ns.length (k + 1) s (ns.drop (k + 1)) | none => none)) := by
            show _ = _
            rw [hS.out, if_pos ⟨hno, by omega⟩]
          have hBadK : Hid (kidsIn k ns.length cs x.kids = none → treeR ns = false) := fun hb => by rw [hT.out, hN.out, hS2.out, hb]
          clear hS hno hBad hBad2 hkl2
          have hdf : decide (ns.length ≤ x.kids.length) = false := by simp; omega
          obtain ⟨wo, hwo⟩ : ∃ wo : World, wo = w2 := ⟨_, rfl⟩
          subst hwo
          go_wp2_with fail
          go_loopw [6, 7] (fun i _ wi => ∃ (j : Nat) (sn : List Nat), j ≤ x.kids.length ∧ i = .int .i64 j ∧ sn.length = ns.length ∧ Row wi (w.heap.size + 1) 3 (sn.map vN) ∧ Row wi w.heap.size 28 [.slice (some ⟨b, off, none⟩) ns.length c] ∧
            Hid (kidsIn k ns.length cs x.kids = kidsIn k ns.length sn (x.kids.drop j)) ∧ (∀ y ∈ sn, y ≤ 256 * k + j) ∧ Below w.heap.size wo wi) (fun i _ _ => x.kids.length - (intOf i).toNat)
          case atStart => exact ⟨0, cs, by omega, rfl, hsn, hrw2, hbx2, rfl, hcb, Below.refl _ _⟩
          case round =>
            obtain ⟨j, sn, hj, rfl, hsn', hrw', hbx', hK, hcb', hbi⟩ := hrel
            have hbi2 : Below w.heap.size w wr := hbw2.trans hbi
            have hbz2 := hbi2.size
            have hrl2 := hrw'.lt
            obtain ⟨cb3, fb3⟩ := hbx'.cel (i := 0) rfl
            obtain ⟨e4, h4⟩ := Cel.keep (Kp.of_below hbi) (Nat.zero_le _) (show b < w.heap.size by omega) ⟨d4, g4⟩
            by_cases hjl : j < x.kids.length
            · obtain ⟨b', off', rfl, _, hb', ⟨ck, fk⟩, kk⟩ := ints_at (hks2.below (vInt_good _) hbi hhi) hjl
              have kk2 := kin_i64 kk
              have hst : kidsIn k ns.length sn (x.kids.drop j) = if x.kids[j] ≤ (k : Int) ∨ (ns.length : Int) ≤ x.kids[j] then none else kidsIn k ns.length (sn.set x.kids[j].toNat (sn.getD x.kids[j].toNat 0 + 1)) (x.kids.drop (j + 1)) := by
                rw [List.drop_eq_getElem_cons hjl]; rfl
              have hSt := Lib.hid hst
              clear hst
              generalize hv : x.kids[j] = v at *
              have HV := Lib.hid hv
              clear hv
              by_cases hb1' : v ≤ (k : Int) ∨ (ns.length : Int) ≤ v
              · have hF := Lib.hid (hBadK.out (by rw [hK.out, hSt.out, if_pos (by omega)]))
                rcases hb1' with hb1' | hb1'
                all_goals
                  go_wp2_with fail
                  go_ret
                  exact ⟨by rw [hF.out]; rfl, hbi2⟩
              · obtain ⟨q, rfl⟩ := Int.eq_ofNat_of_zero_le (show 0 ≤ v by omega)
                have hq1 : k < q := by omega
                have hq2 : q < ns.length := by omega
                have hql : q < sn.length := by omega
                obtain ⟨cq, fq⟩ := hrw'.cel (i := q) (v := .int .i64 (sn[q] : Int)) (by simp [hql, vN])
                have hK2 : Hid (kidsIn k ns.length cs x.kids = kidsIn k ns.length (sn.set q (sn[q] + 1)) (x.kids.drop (j + 1))) := by
                  show _ = _
                  rw [hK.out, hSt.out, if_neg (by rintro (h | h) <;> omega), show ((q : Int)).toNat = q from rfl, List.getD_eq_getElem?_getD, List.getElem?_eq_getElem hql]
                  rfl
                have hcq : sn[q] ≤ 256 * k + j := hcb' _ (List.getElem_mem hql)
                have hcb2 : ∀ y ∈ sn.set q (sn[q] + 1), y ≤ 256 * k + (j + 1) := fun y hy => by
                  rcases List.mem_or_eq_of_mem_set hy with h | h
                  · have := hcb' y h; omega
                  · omega
                have hr3 := hrw'.set_ q (.int .i64 ((sn[q] : Int) + 1))
                have hb3 := hbx'.far (p := ⟨w.heap.size + 1, q, none⟩) (by simp) (.int .i64 ((sn[q] : Int) + 1))
                have hr4 : (sn.set q (sn[q] + 1)).map vN = (sn.map vN).set q (.int .i64 ((sn[q] : Int) + 1)) := by rw [List.map_set]; rfl
                rw [← hr4] at hr3
                clear hr4
                generalize hz : sn[q] = z at *
                have HZ := Lib.hid hz
                clear hz
                go_wp2_with fail
                exact ⟨⟨j + 1, sn.set q (z + 1), by omega, by go_num, by simp [hsn'], hr3, hb3, hK2, hcb2, by go_grown⟩, by simp [intOf]; omega⟩
            · obtain rfl : j = x.kids.length := by omega
              have hN2 : Hid (nodesIn ns.length 0 (List.replicate ns.length 0) ns = nodesIn ns.length (k + 1 : Nat) sn (ns.drop (k + 1))) := by
                show _ = _
                rw [hN.out, hS2.out, hK.out, List.drop_length]
                rfl
              have hcb2 : ∀ y ∈ sn, y ≤ 256 * (k + 1) := fun y hy => by have := hcb' y hy; omega
              go_wp2_with fail
              exact ⟨⟨k + 1, sn, by omega, by go_num, hsn', hrw', hbx', hN2, hcb2, hbi2⟩, by simp [intOf]; omega⟩
    · obtain rfl : k = ns.length := by omega
      have hfin : treeR ns = cs.tail.all (· == 1) := by rw [hT.out, hN.out, List.drop_length]; rfl
      have hF := Lib.hid hfin
      clear hfin
      obtain ⟨wo, hwo⟩ : ∃ wo : World, wo = wr := ⟨_, rfl⟩
      subst hwo
      go_wp2_with fail
      go_loop [8] (fun i => ∃ k : Nat, 1 ≤ k ∧ k ≤ ns.length ∧ i = .int .i64 k ∧ Hid (cs.tail.all (· == 1) = (cs.drop k).all (· == 1))) (fun i => ns.length - (intOf i).toNat)
      case atStart => exact ⟨1, by omega, by omega, rfl, by show _ = _; rw [List.drop_one]⟩
      case round =>
        obtain ⟨k, hk1, hk2, rfl, hA⟩ := hrel
        by_cases hlt2 : k < ns.length
        · have hkc : k < cs.length := by omega
          obtain ⟨cq, fq⟩ := hrw.cel (i := k) (v := .int .i64 (cs[k] : Int)) (by simp [hkc, vN])
          have hst : (cs.drop k).all (· == 1) = ((cs[k] == 1) && (cs.drop (k + 1)).all (· == 1)) := by rw [List.drop_eq_getElem_cons hkc]; rfl
          have hSt := Lib.hid hst
          clear hst
          generalize cs[k] = z at *
          by_cases hz : z = 1
          · subst hz
            have hA2 : Hid (cs.tail.all (· == 1) = (cs.drop (k + 1)).all (· == 1)) := by
              show _ = _
              rw [hA.out, hSt.out]; rfl
            go_wp2_with fail
            go_round
            case rel => exact ⟨k + 1, by omega, by omega, by go_num, hA2⟩
            case measure => simp [intOf]; omega
          · have hF2 : Hid (treeR ns = false) := by
              show _ = _
              rw [hF.out, hA.out, hSt.out]
              simp [hz]
            have hzz : ((z : Int) != 1) = true := by rw [bne_iff_ne]; omega
            clear hz
            go_wp2_with fail
            go_ret
            exact ⟨by rw [hF2.out]; rfl, hbw⟩
        · obtain rfl : k = ns.length := by omega
          have hF2 : Hid (treeR ns = true) := by
            show _ = _
            rw [hF.out, hA.out, List.drop_of_length_le (by omega)]
            rfl
          go_wp2_with fail
          go_ret
          exact ⟨by rw [hF2.out]; rfl, hbw⟩

theorem treeR_any (A : Option Addr) (c lo hi : Nat) (ns : List Nd) (w : World) (hm : ns.length ≤ 9223372036854775807) (hhi : hi ≤ w.heap.size) (hsl : Sl 5 vNd w lo hi A ns) :
    Calls Tryz.prog 90 #[.agg #[.slice A ns.length c]] w fun e w' => e = .returned (.bool (treeB ns)) ∧ Below w.heap.size w w' := by
  rw [tree_eq]
  by_cases h : 1 ≤ ns.length ∧ ns.length ≤ 256
  · exact treeR_mid A c lo hi ns w h.1 h.2 hhi hsl
  · have hF := Lib.hid (show treeR ns = false by unfold treeR; rw [if_pos (by omega)])
    rcases (show ns.length < 1 ∨ 256 < ns.length by omega) with h1 | h1
    all_goals
      go_enter Tryz.func90, Tryz.ntmps90
      go_wp2_with fail
      go_ret
      exact ⟨by rw [hF.out]; rfl, by go_grown⟩
end Go.Proofs.YtimhlnndobfehaaGreatDoor
