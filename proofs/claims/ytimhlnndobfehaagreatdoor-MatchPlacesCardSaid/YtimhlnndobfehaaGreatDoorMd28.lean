/- The document's sets of places: none, joined, count. The document's Find and like. -/
import Derived.Test.YtimhlnndobfehaaGreatDoorMd27
import Derived.Test.YtimhlnndobfehaaGreatDoorMd08
import Derived.Test.YtimhlnndobfehaaGreatDoorMd20
namespace Go.Proofs.YtimhlnndobfehaaGreatDoor
open Go.RowKit
set_option linter.unusedVariables false

/-- A set of places in a block of its own. -/
def BRow (w : World) (g : Nat) (S : List Bool) : Prop := Row w g 4 (S.map Value.bool)
/-- A new set of places. -/
def SetOut (n : Nat) (S : List Bool) (W : World) (e : Ending) (w' : World) : Prop := ∃ g, e = .returned (.slice (some ⟨g, 0, none⟩) n n) ∧ W.heap.size ≤ g ∧ BRow w' g S ∧ Below W.heap.size W w'
theorem BRow.cel {w : World} {g i : Nat} {S : List Bool} (h : BRow w g S) (hi : i < S.length) : Cel w g i (.bool (S.getD i false)) := by
  refine Row.cel h ?_
  rw [List.getElem?_map, List.getD_eq_getElem?_getD, List.getElem?_eq_getElem hi]
  rfl
theorem BRow.lt {w : World} {g : Nat} {S : List Bool} (h : BRow w g S) : g < w.heap.size := Row.lt h
theorem BRow.below {w w' : World} {g : Nat} {S : List Bool} (h : BRow w g S) (hb : Below w.heap.size w w') : BRow w' g S := Row.below h hb (Row.lt h)
theorem BRow.set_ {w : World} {g : Nat} {S : List Bool} (h : BRow w g S) (i : Nat) (u : Bool) : BRow (w.setCell ⟨g, i, none⟩ (.bool u)) g (S.set i u) := by
  unfold BRow
  rw [List.map_set]
  exact Row.set_ h i (.bool u)
theorem BRow.far {w : World} {g : Nat} {S : List Bool} (h : BRow w g S) {p : Addr} (hp : g ≠ p.block) (u : Value) : BRow (w.setCell p u) g S := Row.far h hp u

set_option maxHeartbeats 4000000 in
theorem rnone_any (n : Nat) (hn : n ≤ 1000) (w : World) : Calls Tryz.prog 97 #[.int .i64 (n : Int)] w (SetOut n (noneS n) w) := by
  obtain ⟨i0, hi0, hz0, hz1, hz2⟩ := info_parts bool_info
  have hb2 : i0.bytes * n ≤ 281474976710656 := by rw [hz2]; omega
  have hb3 : n ≤ maxLen := by unfold maxLen; omega
  go_enter Tryz.func97, Tryz.ntmps97
  go_wp2_with (refine wpList_make_full _ rfl (.tmp 3) (.tmp 3) 110 rfl w.heap.size 4 i0 (.bool false) 1 Tryz.underlying110 hi0 hz0 hz1 .i64 .i64 (n : Int) (n : Int) n rfl rfl rfl rfl hb2 hb3 (by simp) ?_)
  intro w1 hown hgrow
  have hrow := Row.of_own (c := n) (by simpa using hown)
  have hrow' : BRow w1 w.heap.size (noneS n) := by
    have e : (madeCells #[Value.bool false] n).toList = (noneS n).map Value.bool := by rw [toList_madeCells_one]; unfold noneS; rw [List.map_replicate]
    unfold BRow
    rw [← e]
    simpa [Value.cells] using hrow
  have hb1 : Below w.heap.size w w1 := (Below.refl _ _).grown hgrow (by simp) (by simp)
  clear hown hgrow hrow
  go_wp2_with fail
  go_ret
  exact ⟨w.heap.size, rfl, Nat.le_refl _, hrow', hb1⟩

/-- The first i of a set, the rest not in. -/
def upTo (S : List Bool) (i : Nat) : List Bool := (List.range S.length).map fun j => decide (j < i) && S.getD j false
theorem upTo_len (S : List Bool) (i : Nat) : (upTo S i).length = S.length := by unfold upTo; simp
theorem upTo_zero (S : List Bool) : upTo S 0 = noneS S.length := by
  refine List.ext_getElem (by rw [upTo_len, none_len]) fun j h1 h2 => ?_
  simp [upTo, noneS]
theorem upTo_all (S : List Bool) : upTo S S.length = S := by
  refine List.ext_getElem (by rw [upTo_len]) fun j h1 h2 => ?_
  unfold upTo
  simp only [List.getElem_map, List.getElem_range, List.getD_eq_getElem?_getD]
  rw [List.getElem?_eq_getElem h2]
  simp [h2]
theorem upTo_at (S : List Bool) (i j : Nat) (h : j < (upTo S i).length) : (upTo S i)[j] = (decide (j < i) && S.getD j false) := by simp [upTo]
theorem upTo_succ (S : List Bool) (i : Nat) : upTo S (i + 1) = (upTo S i).set i (S.getD i false) := by
  refine List.ext_getElem (by rw [List.length_set, upTo_len, upTo_len]) fun j h1 h2 => ?_
  rw [List.getElem_set, upTo_at]
  by_cases hj : i = j
  · subst hj
    simp
  · rw [if_neg hj, upTo_at]
    congr 1
    refine decide_eq_decide.2 ⟨fun h => by omega, fun h => by omega⟩
theorem joinS_getD {a b : List Bool} {i : Nat} (hi : i < a.length) : (joinS a b).getD i false = (a.getD i false || b.getD i false) := by
  rw [List.getD_eq_getElem?_getD, getD_join a b i hi]
  rfl
set_option maxHeartbeats 4000000 in
set_option maxRecDepth 100000 in
theorem rjoined_any (n ga gb : Nat) (hn : n ≤ 1000) (a b : List Bool) (w : World) (ha : a.length = n) (hb : b.length = n) (hga : BRow w ga a) (hgb : BRow w gb b) :
    Calls Tryz.prog 127 #[.slice (some ⟨ga, 0, none⟩) n n, .slice (some ⟨gb, 0, none⟩) n n] w (SetOut n (joinS a b) w) := by
  have hcall := Lib.hid (rnone_any n hn w)
  have HL := Lib.hid (join_len a b)
  have HA := Lib.hid ha
  have HB := Lib.hid hb
  have HZ := Lib.hid (upTo_zero (joinS a b))
  have HS := Lib.hid (fun i => upTo_succ (joinS a b) i)
  have HF := Lib.hid (upTo_all (joinS a b))
  have HG := Lib.hid (fun i (hi : i < a.length) => joinS_getD (b := b) hi)
  have HGA := Lib.hid hga
  have HGB := Lib.hid hgb
  clear ha hb hga hgb
  generalize joinS a b = J at *
  go_enter Tryz.func127, Tryz.ntmps127
  go_wp2_with fail
  refine hcall.out.mono ?_
  rintro e w1 ⟨g, rfl, hg, hrow, hb1⟩
  have hst : BRow w1 g (upTo J 0) := by rw [HZ.out, HL.out, HA.out]; exact hrow
  have HST := Lib.hid hst
  have HB1 := Lib.hid hb1
  have HGL := Lib.hid hg
  have hgal := HGA.out.lt
  have hgbl := HGB.out.lt
  clear hcall hst hb1 hrow hg
  go_wp2_with fail
  go_loopw [6] (fun i wr => ∃ k : Nat, k ≤ n ∧ i = .int .i64 (k : Int) ∧ Hid (BRow wr g (upTo J k)) ∧ Hid (Below w.heap.size w wr)) (fun i _ => n - (intOf i).toNat)
  case atStart => exact ⟨0, by omega, rfl, HST.out, HB1.out⟩
  case round =>
    obtain ⟨k, hk, rfl, hr, hB⟩ := hrel
    have hgr := hr.out.lt
    by_cases hlt : k < n
    · have hak := ((HGA.out.below hB.out).cel (i := k) (by rw [HA.out]; exact hlt)).1
      have hbk := ((HGB.out.below hB.out).cel (i := k) (by rw [HB.out]; exact hlt)).1
      have hjk := HG.out k (by rw [HA.out]; exact hlt)
      obtain ⟨_, hfz⟩ := hr.out.cel (i := k) (by rw [upTo_len, HL.out, HA.out]; exact hlt)
      have hng : g ≠ ga := fun e => by have := HGL.out; omega
      have HN : Hid (BRow (wr.setCell ⟨g, k, none⟩ (.bool (J.getD k false))) g (upTo J (k + 1))) := by
        show BRow _ _ _
        rw [HS.out]
        exact hr.out.set_ k _
      have HBN : Hid (Below w.heap.size w (wr.setCell ⟨g, k, none⟩ (.bool (J.getD k false)))) := hB.out.setCell HGL.out _
      rw [hjk] at HN HBN
      clear hjk
      generalize a.getD k false = x at *
      generalize b.getD k false = y at *
      have hk3 : (k : Int) < (n : Int) := by omega
      cases x with
      | true =>
        rw [Bool.true_or] at HN HBN
        go_wp2_with fail
        exact ⟨⟨k + 1, by omega, by go_num, HN, HBN⟩, by simp [intOf]; omega⟩
      | false =>
        rw [Bool.false_or] at HN HBN
        go_wp2_with fail
        exact ⟨⟨k + 1, by omega, by go_num, HN, HBN⟩, by simp [intOf]; omega⟩
    · obtain rfl : k = n := by omega
      have HN : Hid (BRow wr g J) := by
        show BRow _ _ _
        have := hr.out
        rwa [show k = J.length by rw [HL.out, HA.out], HF.out] at this
      go_wp2_with fail
      go_ret
      exact ⟨g, rfl, HGL.out, HN.out, hB.out⟩

set_option maxHeartbeats 4000000 in
theorem rcount_any (n g : Nat) (hn : n ≤ 1000) (S : List Bool) (w : World) (hl : S.length = n) (hg : BRow w g S) :
    Calls Tryz.prog 99 #[.slice (some ⟨g, 0, none⟩) n n] w fun e w' => e = .returned (.int .i64 (cntS S : Int)) ∧ w = w' := by
  have HL := Lib.hid hl
  have HS := Lib.hid (fun k (hk : k < S.length) => show cntS (S.take (k + 1)) = cntS (S.take k) + (if S.getD k false = true then 1 else 0) by
    rw [List.take_succ_eq_append_getElem hk, List.getD_eq_getElem?_getD, List.getElem?_eq_getElem hk]
    unfold cntS
    rw [List.countP_append]
    cases S[k] <;> rfl)
  have HM := Lib.hid (fun k => Nat.le_trans (cnt_le (S.take k)) (List.length_take_le k S))
  have HG := Lib.hid hg
  clear hl
  go_enter Tryz.func99, Tryz.ntmps99
  go_wp2_with fail
  go_loop [3, 4] (fun c i => ∃ k : Nat, k ≤ n ∧ i = .int .i64 (k : Int) ∧ c = .int .i64 (cntS (S.take k) : Int)) (fun _ i => n - (intOf i).toNat)
  case atStart => exact ⟨0, by omega, rfl, rfl⟩
  case round =>
    obtain ⟨k, hk, rfl, rfl⟩ := hrel
    have hm := HM.out k
    by_cases hlt : k < n
    · have hak := (HG.out.cel (i := k) (by rw [HL.out]; exact hlt)).1
      have hs := HS.out k (by rw [HL.out]; exact hlt)
      have hgl := HG.out.lt
      generalize S.getD k false = x at *
      generalize cntS (S.take k) = c at *
      have HS1 := Lib.hid hs
      clear hs
      cases x with
      | true =>
        go_wp2_with fail
        go_round
        case rel => exact ⟨k + 1, by omega, by go_num, by rw [HS1.out]; simp⟩
        case measure => simp [intOf]; omega
      | false =>
        go_wp2_with fail
        go_round
        case rel => exact ⟨k + 1, by omega, by go_num, by rw [HS1.out]; simp⟩
        case measure => simp [intOf]; omega
    · obtain rfl : k = n := by omega
      have HN : Hid (S.take k = S) := by
        show _ = _
        rw [← HL.out, List.take_length]
      go_wp2_with fail
      go_ret
      exact ⟨ret_of (by rw [HN.out]), rfl⟩
end Go.Proofs.YtimhlnndobfehaaGreatDoor
namespace Go.Proofs.YtimhlnndobfehaaGreatDoor
open Go.RowKit
set_option linter.unusedVariables false

set_option maxHeartbeats 4000000 in
set_option maxRecDepth 100000 in
theorem rfind_any (A1 A2 : Option Addr) (c1 c2 lo : Nat) (a : Al) (r : Int) (w : World) (hin : AlIn w lo w.heap.size A1 A2 a) (hr : -2147483648 ≤ r ∧ r ≤ 2147483647) :
    Calls Tryz.prog 91 #[.agg #[.slice A1 a.feats.length c1, .slice A2 a.lets.length c2], .int .i32 r] w fun e w' => e = .returned (.int .i64 (numI a r)) ∧ Below w.heap.size w w' := by
  have hn1 := hin.n1
  have hn2 := hin.n2
  have hal : Below w.heap.size w (w.alloc (.cells #[.slice A1 a.feats.length c1, .slice A2 a.lets.length c2] 25)) := (Below.refl _ _).alloc (Nat.le_refl _) _
  have hin1 := hin.on hal
  go_enter Tryz.func91, Tryz.ntmps91
  go_wp2_with fail
  go_loop [5] (fun i => NumSt a r w i w) (fun i => a.lets.length - (intOf i).toNat)
  case atStart => exact ⟨0, by omega, rfl, fun j hj => by omega⟩
  case round =>
    obtain ⟨k, hk, rfl, hne⟩ := hrel
    have HNE := Lib.hid hne
    clear hne
    by_cases hlt : k < a.lets.length
    · obtain ⟨b, off, rfl, _, hbb, ⟨x0, y0⟩, _, _, hrr, _, _⟩ := lt_at hin1.l hlt
      have hs := fun he => numI_some (a := a) (r := r) hlt he HNE.out
      have hnx : a.lets[k].rune ≠ r → ∀ j (hj : j < k + 1) (hl : j < a.lets.length), a.lets[j].rune ≠ r := fun h j hj hl => by
        by_cases hjk : j < k
        · exact HNE.out j hjk hl
        · have : j = k := by omega
          subst this
          exact h
      generalize a.lets[k].rune = x at *
      have HS := Lib.hid hs
      have HNX := Lib.hid hnx
      clear hs hnx
      by_cases he : x = r
      · have hd : (x == r) = true := by rw [beq_iff_eq]; exact he
        have HF := Lib.hid (HS.out he)
        clear he HS HNX
        go_wp2_with fail
        go_ret
        exact ⟨by rw [HF.out]; rfl, hal⟩
      · have hd : (x == r) = false := by rw [beq_eq_false_iff_ne]; exact he
        have HF := Lib.hid (HNX.out he)
        clear HS HNX
        go_wp2_with fail
        exact ⟨⟨k + 1, by omega, by go_num, HF.out⟩, by simp [intOf]; omega⟩
    · have HF := Lib.hid (numI_none (a := a) (r := r) (fun j hl => HNE.out j (by omega) hl))
      go_wp2_with fail
      go_ret
      exact ⟨by rw [HF.out]; rfl, hal⟩

set_option maxHeartbeats 4000000 in
set_option maxRecDepth 100000 in
theorem rtakes_any (A1 A2 : Option Addr) (c1 c2 lo : Nat) (a : Al) (x : Nd) (u : Value) (r : Int) (k : Nat) (hk : k < a.lets.length) (w : World) (hin : AlIn w lo w.heap.size A1 A2 a) (hr : -2147483648 ≤ r ∧ r ≤ 2147483647) (hnum : numI a r = (k : Int)) (hru : a.lets[k].rune = r)
    (h0 : kin .u8 x.kind) (h1 : kin .i32 x.rune) (h2 : kin .u32 x.plus) (h3 : kin .u32 x.minus) :
    Calls Tryz.prog 128 #[.agg #[.slice A1 a.feats.length c1, .slice A2 a.lets.length c2], .agg #[.int .u8 x.kind, .int .i32 x.rune, .int .u32 x.plus, .int .u32 x.minus, u], .int .i32 r] w fun e w' => e = .returned (.bool (takesB x a.lets[k])) ∧ Below w.heap.size w w' := by
  have k2 := kin_u32 h2
  have k3 := kin_u32 h3
  obtain ⟨kd, rn, pl, mi, ks⟩ := x
  simp only at *
  obtain ⟨p, rfl⟩ := Int.eq_ofNat_of_zero_le k2.1
  obtain ⟨m, rfl⟩ := Int.eq_ofNat_of_zero_le k3.1
  have HT : Hid (takesB ⟨kd, rn, p, m, ks⟩ a.lets[k] = if kd = 2 then decide (rn = a.lets[k].rune) else if kd = 3 then likeL a.lets[k] p m else decide (kd = 4)) := rfl
  by_cases e2 : kd = 2
  · subst e2
    have HF : Hid (takesB ⟨2, rn, p, m, ks⟩ a.lets[k] = (rn == r)) := by show _ = _; rw [HT.out, if_pos rfl, hru]; rfl
    clear HT hru hin hnum
    go_enter Tryz.func128, Tryz.ntmps128
    go_wp2_with fail
    go_ret
    exact ⟨retb_of (by rw [HF.out]), by go_grown⟩
  by_cases e3 : kd = 3
  · subst e3
    have HF : Hid (takesB ⟨3, rn, p, m, ks⟩ a.lets[k] = likeL a.lets[k] p m) := by show _ = _; rw [HT.out, if_neg (by decide), if_pos rfl]
    obtain ⟨W2, hW2⟩ : ∃ W2, W2 = (w.alloc (.cells #[.slice A1 a.feats.length c1, .slice A2 a.lets.length c2] 25)).alloc (.cells #[.int .u8 3, .int .i32 rn, .int .u32 (p : Int), .int .u32 (m : Int), u] 66) := ⟨_, rfl⟩
    have hal : Below w.heap.size w W2 := by rw [hW2]; exact ((Below.refl _ _).alloc (Nat.le_refl _) _).alloc (by simp) _
    have hr0 : Row W2 w.heap.size 25 [.slice A1 a.feats.length c1, .slice A2 a.lets.length c2] := by rw [hW2]; exact (Row.new w _ _).alloc _
    have hr1 : Row W2 (w.heap.size + 1) 66 [.int .u8 3, .int .i32 rn, .int .u32 (p : Int), .int .u32 (m : Int), u] := by
      rw [hW2]
      simpa using Row.new (w.alloc (.cells #[.slice A1 a.feats.length c1, .slice A2 a.lets.length c2] 25)) 66 [.int .u8 3, .int .i32 rn, .int .u32 (p : Int), .int .u32 (m : Int), u]
    obtain ⟨b, off, eA, _, hbb, hc0, hc1, hc2, hlt⟩ := lt_at (hin.on hal).l hk
    have HC := Lib.hid (fun (wx : World) (hx : Below W2.heap.size W2 wx) => And.intro (And.intro ((hr0.below hx hr0.lt).cel (i := 0) rfl).1 ((hr0.below hx hr0.lt).cel (i := 1) rfl).1) (And.intro (And.intro ((hr1.below hx hr1.lt).cel (i := 2) rfl).1 ((hr1.below hx hr1.lt).cel (i := 3) rfl).1) (And.intro (Cel.keep (Kp.of_below hx) (Nat.zero_le _) hbb hc0).1 (And.intro (Cel.keep (Kp.of_below hx) (Nat.zero_le _) hbb hc1).1 (Cel.keep (Kp.of_below hx) (Nat.zero_le _) hbb hc2).1))))
    have K1 : Hid (∀ wx, Below W2.heap.size W2 wx → Calls Tryz.prog 91 #[.agg #[.slice A1 a.feats.length c1, .slice A2 a.lets.length c2], .int .i32 r] wx fun e w' => e = .returned (.int .i64 (k : Int)) ∧ Below W2.heap.size W2 w') := by
      intro wx hx
      refine (rfind_any A1 A2 c1 c2 lo a r wx ((hin.on hal).on hx) hr).mono ?_
      rintro e w' ⟨rfl, hy⟩
      exact ⟨by rw [hnum], hx.trans (hy.mono hx.size)⟩
    have K2 : Hid (∀ wx, Below W2.heap.size W2 wx → Calls Tryz.prog 155 #[.agg #[.int .i32 a.lets[k].rune, .int .u32 (a.lets[k].plus : Int), .int .u32 (a.lets[k].minus : Int)], .int .u32 (p : Int), .int .u32 (m : Int)] wx fun e w' => e = .returned (.bool (likeL a.lets[k] p m)) ∧ Below W2.heap.size W2 w') := by
      intro wx hx
      refine (rlike_any a.lets[k] p m wx hlt (by omega) (by omega)).mono ?_
      rintro e w' ⟨rfl, hy⟩
      exact ⟨rfl, hx.trans (hy.mono hx.size)⟩
    have hd : Below W2.heap.size W2 W2.drew := below_drewN (Below.refl _ _) 1
    have HAL := Lib.hid hal
    have hw2 := hal.size
    obtain ⟨c0, f0⟩ := hr1.cel (i := 0) rfl
    have hl1 := hr1.lt
    have hl0 := hr0.lt
    have hj1 : (k : Int) < (a.lets.length : Int) := by omega
    have hj2 : 0 ≤ (k : Int) := by omega
    subst eA
    clear HT hru hin hnum hlt hc0 hc1 hc2 hr0 hr1 hal
    generalize likeL a.lets[k] p m = X at *
    generalize takesB ⟨3, rn, p, m, ks⟩ a.lets[k] = Y at *
    generalize a.lets[k] = l at *
    go_enter Tryz.func128, Tryz.ntmps128
    go_upto_region 5 with (fail)
    rw [← hW2]
    clear hW2
    refine wp_region_class (fun wx => Below W2.heap.size W2 wx) (by kernel_rfl) (by kernel_rfl) hd ?_
    repeat (first
      | go_big_quiet_skip
      | (go_big_quiet_want; go_big_quiet_op; first
          | go_big_quiet_on
          | (apply Exists.intro
             refine ⟨fun wx hx => ?_, ?_⟩
             · (first
                | exact rfl
                | (have e1 := (HC.out wx hx).1.1; have e2 := (HC.out wx hx).1.2; simp only [e1, e2, Result.andThen]; exact ⟨trivial, rfl⟩)
                | (simp only [Result.andThen]; exact ⟨trivial, rfl⟩)
                | (have e3 := (HC.out wx hx).2.1.1; simp only [e3, Result.andThen]; exact ⟨trivial, rfl⟩)
                | (have e4 := (HC.out wx hx).2.1.2; simp only [e4, Result.andThen]; exact ⟨trivial, rfl⟩)
                | (have e5 := (HC.out wx hx).2.2; simp only [e5.1, e5.2.1, e5.2.2, Result.andThen]; exact ⟨trivial, rfl⟩)
                | (go_at_call 91; with_reducible exact K1.out wx hx)
                | (go_at_call 155; with_reducible exact K2.out wx hx))
             go_big_quiet_on)))
    refine wpQuiet_nil ?_
    intro w5 hq
    have HB := Lib.hid (HAL.out.trans (hq.mono HAL.out.size))
    clear hd hq HC K1 K2
    go_wp2_with fail
    go_ret
    exact ⟨retb_of (by rw [HF.out]), HB.out⟩
  · have HF : Hid (takesB ⟨kd, rn, p, m, ks⟩ a.lets[k] = (kd == 4)) := by show _ = _; rw [HT.out, if_neg e2, if_neg e3]; rfl
    have b2 := beq_eq_false_iff_ne.2 e2
    have b3 := beq_eq_false_iff_ne.2 e3
    clear HT hru hin hnum
    go_enter Tryz.func128, Tryz.ntmps128
    go_wp2_with fail
    go_ret
    exact ⟨retb_of (by rw [HF.out]), by go_grown⟩
end Go.Proofs.YtimhlnndobfehaaGreatDoor
