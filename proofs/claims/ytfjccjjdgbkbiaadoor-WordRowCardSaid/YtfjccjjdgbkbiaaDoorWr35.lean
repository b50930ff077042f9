/- The document's Row: the walk. -/
import Derived.Test.YtfjccjjdgbkbiaaDoorWr34
import Derived.Deep.RegionHeld3
import Derived.Deep.DeepCutAuto
import Derived.Deep.CutBlock
namespace Go.Proofs.YtfjccjjdgbkbiaaDoor
open Go.RowKit
open Go.Lib (Utf8Tabs)
set_option linter.unusedVariables false
set_option linter.unusedSimpArgs false

theorem own_strm {w : World} {base c k : Nat} {A : Option Addr} {L : List (List Int)} (h : w.ownsRow base 9 1 (.slice A L.length c) L.length (strVs (L.map encR))) (hk : k < L.length) :
    ∃ g, A = some ⟨g, 0, none⟩ ∧ base ≤ g ∧ g < w.heap.size ∧ Cel w g k (.string (encR L[k])) := by
  obtain ⟨g, c', e, _, _, h1, h2⟩ := own_pos h (by omega)
  injection e with e1 _ e2
  subst e1 e2
  exact ⟨g, rfl, h1, h2, own_cel h (by unfold strVs; rw [List.getElem?_map, List.getElem?_map, List.getElem?_eq_getElem hk]; rfl)⟩
theorem stepB {n : Nat} {w wx : World} (o : Obj) (h : Below n w wx) (hn : n ≤ w.heap.size) : Below n w (wx.drew.alloc o) := (below_drewN h 1).alloc (Nat.le_trans hn h.size) _
theorem stepR {wx : World} {A : Option Addr} {l : List Int} (o : Obj) (h : RAt wx A l) : RAt (wx.drew.alloc o) A l := h.below (stepB o (Below.refl _ _) (Nat.le_refl _))
theorem joinB {wi W w5 : World} (hb : Below W.heap.size W w5) (h : Below wi.heap.size wi W) : Below wi.heap.size wi w5 := h.trans (hb.mono h.size)
theorem oneA {wi : World} (o1 : Obj) : Below wi.heap.size wi (wi.alloc o1).drew.drew := below_drewN (below_drewN ((Below.refl _ _).alloc (Nat.le_refl _) _) 1) 1
theorem twoA {wi : World} (o1 o2 : Obj) : Below wi.heap.size wi ((wi.alloc o1).alloc o2).drew.drew.drew := below_drewN (below_drewN (below_drewN (((Below.refl _ _).alloc (Nat.le_refl _) _).alloc (by simp) _) 1) 1) 1
theorem twoB {n : Nat} {w wi : World} (h : Below n w wi) (hn : n ≤ w.heap.size) (o1 o2 : Obj) : Below n w ((wi.alloc o1).alloc o2).drew.drew.drew := by
  have := h.size
  exact below_drewN (below_drewN (below_drewN ((h.alloc (by omega) _).alloc (by simp; omega) _) 1) 1) 1
theorem twoR1 {wi : World} {o1 o2 : Obj} {A : Option Addr} {X : List Int} (h : RAt (wi.drew.drew.alloc o1) A X) : RAt ((wi.alloc o1).alloc o2).drew.drew.drew A X := by
  have h1 : RAt (wi.alloc o1) A X := h.same (Nat.le_refl _) (fun _ _ => rfl)
  have h2 : RAt ((wi.alloc o1).alloc o2) A X := h1.below ((Below.refl _ _).alloc (Nat.le_refl _) _)
  exact h2.same (Nat.le_refl _) (fun _ _ => rfl)
theorem twoR2 {wi : World} {o1 o2 : Obj} {A : Option Addr} {X : List Int} (h : RAt ((wi.alloc o1).drew.drew.drew.alloc o2) A X) : RAt ((wi.alloc o1).alloc o2).drew.drew.drew A X := h.same (Nat.le_refl _) (fun _ _ => rfl)
theorem take_get {l : List Value} {n j : Nat} {u : Value} (h : (l.take n)[j]? = some u) : l[j]? = some u := by
  rw [List.getElem?_take] at h
  split at h
  · exact h
  · cases h
theorem strs_take (L : List (List Int)) (n : Nat) : (strVs (L.map encR)).take n = strVs ((L.take n).map encR) := by unfold strVs; simp
theorem strs_drop (L : List (List Int)) (n : Nat) : (strVs (L.map encR)).drop n = strVs ((L.drop n).map encR) := by unfold strVs; simp
theorem strs_one (l : List ByteArray) : ∀ u ∈ strVs l, u.oneCell' = true := by
  intro u hu
  unfold strVs at hu
  obtain ⟨y, _, rfl⟩ := List.mem_map.1 hu
  rfl
/-- How far the row is: a row of the words so far, in memory of the call's own. -/
def RowSt (a : Al) (ws : List (List Int)) (W : World) (v i : Value) (wr : World) : Prop :=
  ∃ (q : Nat) (L : List (List Int)) (A : Option Addr) (c : Nat), v = .slice A L.length c ∧ i = .int .i64 (q : Int) ∧ q ≤ ws.length ∧ L.length ≤ q ∧ Hid (Rows (rkA a) L) ∧ Hid (∀ z, z ∈ L ↔ z ∈ ws.take q) ∧ wr.ownsRow W.heap.size 9 1 (.slice A L.length c) L.length (strVs (L.map encR)) ∧ Below W.heap.size W wr
set_option maxHeartbeats 8000000 in
set_option maxRecDepth 100000 in
theorem rrow_any (A1 A2 AL : Option Addr) (c1 c2 cl lo : Nat) (a : Al) (l : List ByteArray) (ws : List (List Int)) (w : World) (hin : AlIn w lo w.heap.size A1 A2 a) (hsl : Sl 1 vStr w lo w.heap.size AL l) (hn : l.length ≤ 4096) (hok : alOk a = true) (hws : ∀ X ∈ ws, Lets a X) (hl : l = ws.map encR) :
    Calls Tryd.prog 66 #[.agg #[.slice A1 a.feats.length c1, .slice A2 a.lets.length c2], .slice AL l.length cl] w fun e w' => ∃ A c, e = .returned (.slice A (rowR (rkA a) ws).length c) ∧ w'.ownsRow w.heap.size 9 1 (.slice A (rowR (rkA a) ws).length c) (rowR (rkA a) ws).length (strVs ((rowR (rkA a) ws).map encR)) ∧ Below w.heap.size w w' := by
  obtain ⟨i1, hi1, hy0, hy1, hy2⟩ := info_parts string_info
  have hal : Below w.heap.size w (w.alloc (.cells #[.slice A1 a.feats.length c1, .slice A2 a.lets.length c2] 25)) := (Below.refl _ _).alloc (Nat.le_refl _) _
  have hr0 := Row.new w 25 [.slice A1 a.feats.length c1, .slice A2 a.lets.length c2]
  have hll : l.length = ws.length := by rw [hl, List.length_map]
  have HLL := Lib.hid hll
  clear hll
  have HFIN : Hid (∀ L : List (List Int), Rows (rkA a) L → (∀ z, z ∈ L ↔ z ∈ ws) → L = rowR (rkA a) ws) := fun L h1 h2 =>
    rows_unique (rkA a) _ _ h1 (rowR_rows _ _) fun z => by rw [h2, rowR_mem (rkA a) ws (mem_z hok hws)]
  have HORD := Lib.hid (fun (A B : Option Addr) (c d : Nat) (x y : List Int) (hx : Lets a x) (hy : Lets a y) (wx : World) (hb : Below w.heap.size w wx) (h1 : RAt wx A x) (h2 : RAt wx B y) => by
    have h := rorder_any A1 A2 A B c1 c2 c d lo a x y wx (hin.on hb) h1 h2 (lets_kin hok hx) (lets_kin hok hy) (by have := hx.2; omega) (by have := hy.2; omega)
    rw [cmpL_num hok hx.1 hy.1] at h
    exact h)
  have HCONV := Lib.hid (fun (x : List Int) (hx : Lets a x) => conv_word hok hx)
  have HWS := Lib.hid hws
  have HOK := Lib.hid hok
  have HL := Lib.hid hl
  obtain ⟨w1, hw1⟩ : ∃ w1, w1 = (w.alloc (.cells #[.slice A1 a.feats.length c1, .slice A2 a.lets.length c2] 25)) := ⟨_, rfl⟩
  have hst : RowSt a ws w1 (.slice none 0 0) (.int .i64 0) w1 := ⟨0, [], none, 0, rfl, rfl, by omega, Nat.le_refl _, List.Pairwise.nil, (fun z => by rw [List.take_zero]), World.ownsRow_nil _ _ _ _, Below.refl _ _⟩
  have HST := Lib.hid hst
  rw [← hw1] at hal hr0
  have HR0 := Lib.hid hr0
  have HW1 := Lib.hid hw1
  have HAL := Lib.hid hal
  clear hst hws hl hr0 hal hin hok
  go_enter Tryd.func66, Tryd.ntmps66
  go_wp2_with fail
  rw [← hw1]
  clear hw1
  go_loopw [5, 6] (fun v i wr => RowSt a ws w1 v i wr) (fun _ i _ => l.length - (intOf i).toNat)
  case atStart => exact HST.out
  case round =>
    clear HST
    obtain ⟨q, L, A, c, rfl, rfl, hq, hLq, hLr, hLm, hown, hb⟩ := hrel
    have hrow := HR0.out.below hb HR0.out.lt
    by_cases hlt : q < l.length
    · have hltw : q < ws.length := by have := HLL.out; omega
      have HOWN := Lib.hid hown
      have HB := Lib.hid hb
      have HROW := Lib.hid hrow
      have hst2 : Hid (∀ j (hj : j < L.length), j < 0 → cmpL (rkA a) L[j] ws[q] = -1) := fun j hj h => absurd h (by omega)
      clear hown hb hrow
      have b1 : (q : Int) < (l.length : Int) := by omega
      have b0 : 0 ≤ (q : Int) := by omega
      go_wp2_with fail
      obtain ⟨wo, rfl⟩ : ∃ wo : World, wo = wr := ⟨_, rfl⟩
      go_loopw [7] (fun k wr => ∃ n : Nat, n ≤ L.length ∧ k = .int .i64 (n : Int) ∧ Hid (∀ j (hj : j < L.length), j < n → cmpL (rkA a) L[j] ws[q] = -1) ∧ Hid (Below wo.heap.size wo wr)) (fun k _ => L.length - (intOf k).toNat)
      case atStart => exact ⟨0, by omega, rfl, hst2, Below.refl _ _⟩
      case round =>
        clear hst2
        obtain ⟨wi, rfl⟩ : ∃ wi : World, wi = wr := ⟨_, rfl⟩
        obtain ⟨n, hn1, rfl, hcmp, hbi⟩ := hrel
        have hbw1 := HB.out.trans (hbi.out.mono HB.out.size)
        have hbw := HAL.out.trans (hbw1.mono HAL.out.size)
        have hrowi := HROW.out.below hbi.out HROW.out.lt
        obtain ⟨q0, _⟩ := hrowi.cel (i := 0) rfl
        obtain ⟨q1, _⟩ := hrowi.cel (i := 1) rfl
        have hl1 := hrowi.lt
        obtain ⟨b, off, rfl, _, hbb, ⟨x0, y0⟩, _⟩ := strs_at (hsl.below vStr_good hbw (Nat.le_refl _)) hlt
        have hbl : b < wi.heap.size := by have := hbw.size; omega
        have hlx : l[q] = encR ws[q] := by simp only [HL.out, List.getElem_map]
        rw [hlx] at x0
        have hX := HWS.out _ (List.getElem_mem hltw)
        obtain ⟨C2, O2, hc2, hr2⟩ := HCONV.out _ hX
        obtain ⟨B, hB1, hB2⟩ : ∃ B : Bool, (∀ h : n < L.length, B = decide (cmpL (rkA a) L[n] ws[q] < 0)) ∧ (¬ n < L.length → B = false) := by
          by_cases h : n < L.length
          · exact ⟨decide (cmpL (rkA a) L[n] ws[q] < 0), fun _ => rfl, fun h' => absurd h h'⟩
          · exact ⟨false, fun h' => absurd h' h, fun _ => rfl⟩
        have HB1 := Lib.hid hB1
        have HB2 := Lib.hid hB2
        clear hB1 hB2
        go_upto_region 6 with (fail)
        go_cut [33] (fun b wc => b = .bool B ∧ Below wi.heap.size wi wc)
        case first =>
          as_aux_lemma =>
          by_cases hnl : n < L.length
          · have HBB0 := HB1.out hnl
            obtain ⟨g, rfl, _, hg, ⟨z0, z1⟩⟩ := own_strm (own_below HOWN.out hbi.out) hnl
            have hX1 := HWS.out _ (List.mem_of_mem_take ((hLm.out _).1 (List.getElem_mem hnl)))
            obtain ⟨C1, O1, hc1, hr1⟩ := HCONV.out _ hX1
            have hord := fun A B c d wx hb h1 h2 => HORD.out A B c d _ _ hX1 hX wx hb h1 h2
            have h3 := cmpL_three (rkA a) L[n] ws[q]
            generalize hD : cmpL (rkA a) L[n] ws[q] = D at *
            have HBB : Hid (decide (D < 0) = B) := HBB0.symm
            clear HBB0
            have m1 : L[n].length ≤ 64 := hX1.2
            have m2 : ws[q].length ≤ 64 := hX.2
            generalize encR L[n] = S1 at *
            generalize encR ws[q] = S2 at *
            have HR1 := Lib.hid (fun (wx : World) (k : Nat) (hk : wx.heap.size = k) => (by rw [← hk]; exact hr1 wx : RAt (wx.drew.alloc (O1 wx)) (some ⟨k, 0, none⟩) L[n]))
            have HR2 := Lib.hid (fun (wx : World) (k : Nat) (hk : wx.heap.size = k) => (by rw [← hk]; exact hr2 wx : RAt (wx.drew.alloc (O2 wx)) (some ⟨k, 0, none⟩) ws[q]))
            have HO := Lib.hid hord
            have hbw0 := hbw
            have HB0 := Lib.hid (below_drewN (Below.refl wi.heap.size wi) 1 : Below wi.heap.size wi wi.drew)
            have HLW := Lib.hid hbw.size
            have j1 : (n : Int) < (L.length : Int) := by omega
            have j2 : 0 ≤ (n : Int) := by omega
            have HBWI := Lib.hid hbw0
            have HC := Lib.hid (fun (wx : World) (hx : Below wi.heap.size wi wx) => And.intro (And.intro (((bcell hx).1 _ 0 hl1).trans q0) (((bcell hx).1 _ 1 hl1).trans q1)) (And.intro (((bcell hx).1 _ (off + q) hbl).trans x0) (((bcell hx).1 _ n hg).trans z0)))
            have HNX : Hid (∀ w5, Below wi.heap.size wi w5 → Below wo.heap.size wo w5) := fun w5 h => hbi.out.trans (h.mono hbi.out.size)
            clear hr1 hr2 hord hbw hbw0 hX hX1
            refine wp_region_held_drew (S := fun w' => Below wi.heap.size wi w') (by kernel_rfl) (below_drewN (Below.refl _ _) 1) (fun hHeld => ?_)
            refine wpAnyH_take (i := 0) (oi := ?oi1) (v := ?v1) ?ho1 ?ha1 ?hb1 ?hc1 ?he1 (Or.inl ⟨?hd1, ?hy1⟩) (by assumption) ?rest1
            case ho1 => (simp only [List.getElem?_toArray, List.getElem?_cons_zero]; rfl)
            case ha1 => kernel_rfl
            case hb1 => kernel_rfl
            case hc1 => kernel_rfl
            case he1 => exact fun _ _ _ h => h
            case hd1 => rfl
            case hy1 => (intro wx hSw; (try dsimp only at hSw); have e0 := (HC.out wx hSw).1.1; have e1 := (HC.out wx hSw).1.2; have e2 := (HC.out wx hSw).2.1; have e3 := (HC.out wx hSw).2.2; clear hSw; (go_simp <;> with_reducible rfl))
            case' rest1 => simp only [Act.put, List.setIfInBounds_toArray, List.set_cons_succ, List.set_cons_zero]
            refine wpAnyH_take (i := 1) (oi := ?oi2) (v := ?v2) ?ho2 ?ha2 ?hb2 ?hc2 ?he2 (Or.inl ⟨?hd2, ?hy2⟩) (by assumption) ?rest2
            case ho2 => (simp only [List.getElem?_toArray, List.getElem?_cons_zero, List.getElem?_cons_succ]; rfl)
            case ha2 => kernel_rfl
            case hb2 => kernel_rfl
            case hc2 => kernel_rfl
            case he2 => exact fun _ _ _ h => h
            case hd2 => rfl
            case hy2 => (intro wx hSw; (try dsimp only at hSw); have e0 := (HC.out wx hSw).1.1; have e1 := (HC.out wx hSw).1.2; have e2 := (HC.out wx hSw).2.1; have e3 := (HC.out wx hSw).2.2; clear hSw; (go_simp <;> with_reducible rfl))
            case' rest2 => simp only [Act.put, List.setIfInBounds_toArray, List.set_cons_succ, List.set_cons_zero]
            refine wpAnyH_take (i := 2) (oi := ?oi3) (v := ?v3) ?ho3 ?ha3 ?hb3 ?hc3 ?he3 (Or.inl ⟨?hd3, ?hy3⟩) (by assumption) ?rest3
            case ho3 => (simp only [List.getElem?_toArray, List.getElem?_cons_zero, List.getElem?_cons_succ]; rfl)
            case ha3 => kernel_rfl
            case hb3 => kernel_rfl
            case hc3 => kernel_rfl
            case he3 => exact fun _ _ _ h => h
            case hd3 => rfl
            case hy3 => (intro wx hSw; (try dsimp only at hSw); have e0 := (HC.out wx hSw).1.1; have e1 := (HC.out wx hSw).1.2; have e2 := (HC.out wx hSw).2.1; have e3 := (HC.out wx hSw).2.2; clear hSw; (go_simp <;> with_reducible rfl))
            case' rest3 => simp only [Act.put, List.setIfInBounds_toArray, List.set_cons_succ, List.set_cons_zero]
            refine wpAnyH_take (i := 3) (oi := ?oi4) (v := ?v4) ?ho4 ?ha4 ?hb4 ?hc4 ?he4 (Or.inl ⟨?hd4, ?hy4⟩) (by assumption) ?rest4
            case ho4 => (simp only [List.getElem?_toArray, List.getElem?_cons_zero, List.getElem?_cons_succ]; rfl)
            case ha4 => kernel_rfl
            case hb4 => kernel_rfl
            case hc4 => kernel_rfl
            case he4 => exact fun _ _ _ h => h
            case hd4 => rfl
            case hy4 => (intro wx hSw; (try dsimp only at hSw); have e0 := (HC.out wx hSw).1.1; have e1 := (HC.out wx hSw).1.2; have e2 := (HC.out wx hSw).2.1; have e3 := (HC.out wx hSw).2.2; clear hSw; (go_simp <;> with_reducible rfl))
            case' rest4 => simp only [Act.put, List.setIfInBounds_toArray, List.set_cons_succ, List.set_cons_zero]
            refine wpAnyH_take (i := 4) (oi := ?oi5) (v := ?v5) ?ho5 ?ha5 ?hb5 ?hc5 ?he5 (Or.inl ⟨?hd5, ?hy5⟩) (by assumption) ?rest5
            case ho5 => (simp only [List.getElem?_toArray, List.getElem?_cons_zero, List.getElem?_cons_succ]; rfl)
            case ha5 => kernel_rfl
            case hb5 => kernel_rfl
            case hc5 => kernel_rfl
            case he5 => exact fun _ _ _ h => h
            case hd5 => rfl
            case hy5 => (intro wx hSw; (try dsimp only at hSw); have e0 := (HC.out wx hSw).1.1; have e1 := (HC.out wx hSw).1.2; have e2 := (HC.out wx hSw).2.1; have e3 := (HC.out wx hSw).2.2; clear hSw; (go_simp <;> with_reducible rfl))
            case' rest5 => simp only [Act.put, List.setIfInBounds_toArray, List.set_cons_succ, List.set_cons_zero]
            refine wpAnyH_take (i := 5) (oi := ?oi6) (v := ?v6) ?ho6 ?ha6 ?hb6 ?hc6 ?he6 (Or.inl ⟨?hd6, ?hy6⟩) (by assumption) ?rest6
            case ho6 => (simp only [List.getElem?_toArray, List.getElem?_cons_zero, List.getElem?_cons_succ]; rfl)
            case ha6 => kernel_rfl
            case hb6 => kernel_rfl
            case hc6 => kernel_rfl
            case he6 => exact fun _ _ _ h => h
            case hd6 => rfl
            case hy6 => (intro wx hSw; (try dsimp only at hSw); have e0 := (HC.out wx hSw).1.1; have e1 := (HC.out wx hSw).1.2; have e2 := (HC.out wx hSw).2.1; have e3 := (HC.out wx hSw).2.2; clear hSw; (go_simp <;> with_reducible rfl))
            case' rest6 => simp only [Act.put, List.setIfInBounds_toArray, List.set_cons_succ, List.set_cons_zero]
            refine wpAnyH_take (i := 6) (oi := ?oi7) (v := ?v7) ?ho7 ?ha7 ?hb7 ?hc7 ?he7 (Or.inl ⟨?hd7, ?hy7⟩) (by assumption) ?rest7
            case ho7 => (simp only [List.getElem?_toArray, List.getElem?_cons_zero, List.getElem?_cons_succ]; rfl)
            case ha7 => kernel_rfl
            case hb7 => kernel_rfl
            case hc7 => kernel_rfl
            case he7 => exact fun _ _ _ h => h
            case hd7 => rfl
            case hy7 => (intro wx hSw; (try dsimp only at hSw); have e0 := (HC.out wx hSw).1.1; have e1 := (HC.out wx hSw).1.2; have e2 := (HC.out wx hSw).2.1; have e3 := (HC.out wx hSw).2.2; clear hSw; (go_simp <;> with_reducible rfl))
            case' rest7 => simp only [Act.put, List.setIfInBounds_toArray, List.set_cons_succ, List.set_cons_zero]
            refine wpAnyH_take (i := 7) (oi := ?oi8) (v := ?v8) ?ho8 ?ha8 ?hb8 ?hc8 ?he8 (Or.inl ⟨?hd8, ?hy8⟩) (by assumption) ?rest8
            case ho8 => (simp only [List.getElem?_toArray, List.getElem?_cons_zero, List.getElem?_cons_succ]; rfl)
            case ha8 => kernel_rfl
            case hb8 => kernel_rfl
            case hc8 => kernel_rfl
            case he8 => exact fun _ _ _ h => h
            case hd8 => rfl
            case hy8 => (intro wx hSw; (try dsimp only at hSw); have e0 := (HC.out wx hSw).1.1; have e1 := (HC.out wx hSw).1.2; have e2 := (HC.out wx hSw).2.1; have e3 := (HC.out wx hSw).2.2; clear hSw; (go_simp <;> with_reducible rfl))
            case' rest8 => simp only [Act.put, List.setIfInBounds_toArray, List.set_cons_succ, List.set_cons_zero]
            refine wpAnyH_take (i := 8) (oi := ?oi9) (v := ?v9) ?ho9 ?ha9 ?hb9 ?hc9 ?he9 (Or.inl ⟨?hd9, ?hy9⟩) (by assumption) ?rest9
            case ho9 => (simp only [List.getElem?_toArray, List.getElem?_cons_zero, List.getElem?_cons_succ]; rfl)
            case ha9 => kernel_rfl
            case hb9 => kernel_rfl
            case hc9 => kernel_rfl
            case he9 => exact fun _ _ _ h => h
            case hd9 => rfl
            case hy9 => (intro wx hSw; (try dsimp only at hSw); have e0 := (HC.out wx hSw).1.1; have e1 := (HC.out wx hSw).1.2; have e2 := (HC.out wx hSw).2.1; have e3 := (HC.out wx hSw).2.2; clear hSw; (go_simp <;> with_reducible rfl))
            case' rest9 => simp only [Act.put, List.setIfInBounds_toArray, List.set_cons_succ, List.set_cons_zero]
            refine wpAnyH_take (i := 9) (oi := ?oi10) (v := ?v10) ?ho10 ?ha10 ?hb10 ?hc10 ?he10 (Or.inl ⟨?hd10, ?hy10⟩) (by assumption) ?rest10
            case ho10 => (simp only [List.getElem?_toArray, List.getElem?_cons_zero, List.getElem?_cons_succ]; rfl)
            case ha10 => kernel_rfl
            case hb10 => kernel_rfl
            case hc10 => kernel_rfl
            case he10 => exact fun _ _ _ h => h
            case hd10 => rfl
            case hy10 => (intro wx hSw; (try dsimp only at hSw); have e0 := (HC.out wx hSw).1.1; have e1 := (HC.out wx hSw).1.2; have e2 := (HC.out wx hSw).2.1; have e3 := (HC.out wx hSw).2.2; clear hSw; (go_simp <;> with_reducible rfl))
            case' rest10 => simp only [Act.put, List.setIfInBounds_toArray, List.set_cons_succ, List.set_cons_zero]
            refine wpAnyH_take (i := 11) (oi := ?oi11) (v := ?v11) ?ho11 ?ha11 ?hb11 ?hc11 ?he11 (Or.inl ⟨?hd11, ?hy11⟩) (by assumption) ?rest11
            case ho11 => (simp only [List.getElem?_toArray, List.getElem?_cons_zero, List.getElem?_cons_succ]; rfl)
            case ha11 => kernel_rfl
            case hb11 => kernel_rfl
            case hc11 => kernel_rfl
            case he11 => exact fun _ _ _ h => h
            case hd11 => rfl
            case hy11 => (intro wx hSw; (try dsimp only at hSw); have e0 := (HC.out wx hSw).1.1; have e1 := (HC.out wx hSw).1.2; have e2 := (HC.out wx hSw).2.1; have e3 := (HC.out wx hSw).2.2; clear hSw; (go_simp <;> with_reducible rfl))
            case' rest11 => simp only [Act.put, List.setIfInBounds_toArray, List.set_cons_succ, List.set_cons_zero]
            refine wpAnyH_take (i := 12) (oi := ?oi12) (v := ?v12) ?ho12 ?ha12 ?hb12 ?hc12 ?he12 (Or.inl ⟨?hd12, ?hy12⟩) (by assumption) ?rest12
            case ho12 => (simp only [List.getElem?_toArray, List.getElem?_cons_zero, List.getElem?_cons_succ]; rfl)
            case ha12 => kernel_rfl
            case hb12 => kernel_rfl
            case hc12 => kernel_rfl
            case he12 => exact fun _ _ _ h => h
            case hd12 => rfl
            case hy12 => (intro wx hSw; (try dsimp only at hSw); have e0 := (HC.out wx hSw).1.1; have e1 := (HC.out wx hSw).1.2; have e2 := (HC.out wx hSw).2.1; have e3 := (HC.out wx hSw).2.2; clear hSw; (go_simp <;> with_reducible rfl))
            case' rest12 => simp only [Act.put, List.setIfInBounds_toArray, List.set_cons_succ, List.set_cons_zero]
            refine wpAnyH_take (i := 13) (oi := ?oi13) (v := ?v13) ?ho13 ?ha13 ?hb13 ?hc13 ?he13 (Or.inl ⟨?hd13, ?hy13⟩) (by assumption) ?rest13
            case ho13 => (simp only [List.getElem?_toArray, List.getElem?_cons_zero, List.getElem?_cons_succ]; rfl)
            case ha13 => kernel_rfl
            case hb13 => kernel_rfl
            case hc13 => kernel_rfl
            case he13 => exact fun _ _ _ h => h
            case hd13 => rfl
            case hy13 => (intro wx hSw; (try dsimp only at hSw); have e0 := (HC.out wx hSw).1.1; have e1 := (HC.out wx hSw).1.2; have e2 := (HC.out wx hSw).2.1; have e3 := (HC.out wx hSw).2.2; clear hSw; (go_simp <;> with_reducible rfl))
            case' rest13 => simp only [Act.put, List.setIfInBounds_toArray, List.set_cons_succ, List.set_cons_zero]
            refine wpAnyH_take (i := 14) (oi := ?oi14) (v := ?v14) ?ho14 ?ha14 ?hb14 ?hc14 ?he14 (Or.inl ⟨?hd14, ?hy14⟩) (by assumption) ?rest14
            case ho14 => (simp only [List.getElem?_toArray, List.getElem?_cons_zero, List.getElem?_cons_succ]; rfl)
            case ha14 => kernel_rfl
            case hb14 => kernel_rfl
            case hc14 => kernel_rfl
            case he14 => exact fun _ _ _ h => h
            case hd14 => rfl
            case hy14 => (intro wx hSw; (try dsimp only at hSw); have e0 := (HC.out wx hSw).1.1; have e1 := (HC.out wx hSw).1.2; have e2 := (HC.out wx hSw).2.1; have e3 := (HC.out wx hSw).2.2; clear hSw; (go_simp <;> with_reducible rfl))
            case' rest14 => simp only [Act.put, List.setIfInBounds_toArray, List.set_cons_succ, List.set_cons_zero]
            refine wpAnyH_ready (rs := [10, 15]) ?hrA ?hneA ?hbA
            case hrA => kernel_rfl
            case hneA => simp
            refine AllReadyH.cons (o := ?oA) ?hoA (fun K hK => ?stA) ?moreA
            case hoA => (simp only [List.getElem?_toArray, List.getElem?_cons_zero, List.getElem?_cons_succ]; rfl)
            case stA =>
              go_simp
              refine hK.out _ _ (oneA _) (fun hHeld => ?_)
              clear hK K
              refine wpAnyH_ready (rs := [15]) ?hrP2 ?hneP2 ?hbP2
              case hrP2 => kernel_rfl
              case hneP2 => simp
              refine AllReadyH.cons (o := ?oP2) ?hoP2 (fun K hK => ?stP2) ?moreP2
              case hoP2 => (simp only [List.getElem?_toArray, List.getElem?_cons_zero, List.getElem?_cons_succ]; rfl)
              case moreP2 => exact AllReadyH.nil
              case' stP2 =>
                go_simp
                refine hK.out _ _ (twoA _ _) (fun hHeld => ?_)
                clear hK K
                refine wpAnyH_ready (rs := [16]) ?hrP3 ?hneP3 ?hbP3
                case hrP3 => kernel_rfl
                case hneP3 => simp
                refine AllReadyH.cons (o := ?oP3) ?hoP3 (fun K hK => ?stP3) ?moreP3
                case hoP3 => (simp only [List.getElem?_toArray, List.getElem?_cons_zero, List.getElem?_cons_succ]; rfl)
                case moreP3 => exact AllReadyH.nil
                case' stP3 =>
                  go_simp
                  refine (HO.out _ _ _ _ _ (twoB HBWI.out (Nat.le_refl _) _ _) (twoR1 (HR1.out _ _ rfl)) (twoR2 (HR2.out _ _ (by simp)))).mono ?_
                  rintro e0 w5 ⟨rfl, hb5⟩
                  have hB5 := joinB hb5 (twoA _ _)
                  clear hb5
                  go_wp2_with fail
                  refine hK.out _ _ hB5 (fun hHeld => ?_)
                  clear hK K
                  refine wpAnyH_take (i := 17) (oi := ?oi101) (v := ?v101) ?ho101 ?ha101 ?hb101 ?hc101 ?he101 (Or.inl ⟨?hd101, ?hy101⟩) (by assumption) ?rest101
                  case ho101 => (simp only [List.getElem?_toArray, List.getElem?_cons_zero, List.getElem?_cons_succ]; rfl)
                  case ha101 => kernel_rfl
                  case hb101 => kernel_rfl
                  case hc101 => kernel_rfl
                  case he101 => exact fun _ _ _ h => h
                  case hd101 => rfl
                  case hy101 => (intro wx hSw; (try dsimp only at hSw); have e0 := (HC.out wx hSw).1.1; have e1 := (HC.out wx hSw).1.2; have e2 := (HC.out wx hSw).2.1; have e3 := (HC.out wx hSw).2.2; clear hSw; (go_simp <;> with_reducible rfl))
                  case' rest101 => simp only [Act.put, List.setIfInBounds_toArray, List.set_cons_succ, List.set_cons_zero]
                  refine wpAnyH_take (i := 18) (oi := ?oi102) (v := ?v102) ?ho102 ?ha102 ?hb102 ?hc102 ?he102 (Or.inl ⟨?hd102, ?hy102⟩) (by assumption) ?rest102
                  case ho102 => (simp only [List.getElem?_toArray, List.getElem?_cons_zero, List.getElem?_cons_succ]; rfl)
                  case ha102 => kernel_rfl
                  case hb102 => kernel_rfl
                  case hc102 => kernel_rfl
                  case he102 => exact fun _ _ _ h => h
                  case hd102 => rfl
                  case hy102 => (intro wx hSw; (try dsimp only at hSw); have e0 := (HC.out wx hSw).1.1; have e1 := (HC.out wx hSw).1.2; have e2 := (HC.out wx hSw).2.1; have e3 := (HC.out wx hSw).2.2; clear hSw; (go_simp <;> with_reducible rfl))
                  case' rest102 => simp only [Act.put, List.setIfInBounds_toArray, List.set_cons_succ, List.set_cons_zero]
                  refine wpAnyH_done (by kernel_rfl) ?_ _
                  go_wp2_with fail
                  go_meet
                  case rel => exact ⟨by rw [HBB.out], hHeld⟩
            case moreA =>
              refine AllReadyH.cons (o := ?oB) ?hoB (fun K hK => ?stB) ?moreB
              case hoB => (simp only [List.getElem?_toArray, List.getElem?_cons_zero, List.getElem?_cons_succ]; rfl)
              case moreB => exact AllReadyH.nil
              case stB =>
                go_simp
                refine hK.out _ _ (oneA _) (fun hHeld => ?_)
                clear hK K
                refine wpAnyH_ready (rs := [10]) ?hrQ2 ?hneQ2 ?hbQ2
                case hrQ2 => kernel_rfl
                case hneQ2 => simp
                refine AllReadyH.cons (o := ?oQ2) ?hoQ2 (fun K hK => ?stQ2) ?moreQ2
                case hoQ2 => (simp only [List.getElem?_toArray, List.getElem?_cons_zero, List.getElem?_cons_succ]; rfl)
                case moreQ2 => exact AllReadyH.nil
                case' stQ2 =>
                  go_simp
                  refine hK.out _ _ (twoA _ _) (fun hHeld => ?_)
                  clear hK K
                  refine wpAnyH_ready (rs := [16]) ?hrQ3 ?hneQ3 ?hbQ3
                  case hrQ3 => kernel_rfl
                  case hneQ3 => simp
                  refine AllReadyH.cons (o := ?oQ3) ?hoQ3 (fun K hK => ?stQ3) ?moreQ3
                  case hoQ3 => (simp only [List.getElem?_toArray, List.getElem?_cons_zero, List.getElem?_cons_succ]; rfl)
                  case moreQ3 => exact AllReadyH.nil
                  case' stQ3 =>
                    go_simp
                    refine (HO.out _ _ _ _ _ (twoB HBWI.out (Nat.le_refl _) _ _) (twoR2 (HR1.out _ _ (by simp))) (twoR1 (HR2.out _ _ rfl))).mono ?_
                    rintro e0 w5 ⟨rfl, hb5⟩
                    have hB5 := joinB hb5 (twoA _ _)
                    clear hb5
                    go_wp2_with fail
                    refine hK.out _ _ hB5 (fun hHeld => ?_)
                    clear hK K
                    refine wpAnyH_take (i := 17) (oi := ?oi103) (v := ?v103) ?ho103 ?ha103 ?hb103 ?hc103 ?he103 (Or.inl ⟨?hd103, ?hy103⟩) (by assumption) ?rest103
                    case ho103 => (simp only [List.getElem?_toArray, List.getElem?_cons_zero, List.getElem?_cons_succ]; rfl)
                    case ha103 => kernel_rfl
                    case hb103 => kernel_rfl
                    case hc103 => kernel_rfl
                    case he103 => exact fun _ _ _ h => h
                    case hd103 => rfl
                    case hy103 => (intro wx hSw; (try dsimp only at hSw); have e0 := (HC.out wx hSw).1.1; have e1 := (HC.out wx hSw).1.2; have e2 := (HC.out wx hSw).2.1; have e3 := (HC.out wx hSw).2.2; clear hSw; (go_simp <;> with_reducible rfl))
                    case' rest103 => simp only [Act.put, List.setIfInBounds_toArray, List.set_cons_succ, List.set_cons_zero]
                    refine wpAnyH_take (i := 18) (oi := ?oi104) (v := ?v104) ?ho104 ?ha104 ?hb104 ?hc104 ?he104 (Or.inl ⟨?hd104, ?hy104⟩) (by assumption) ?rest104
                    case ho104 => (simp only [List.getElem?_toArray, List.getElem?_cons_zero, List.getElem?_cons_succ]; rfl)
                    case ha104 => kernel_rfl
                    case hb104 => kernel_rfl
                    case hc104 => kernel_rfl
                    case he104 => exact fun _ _ _ h => h
                    case hd104 => rfl
                    case hy104 => (intro wx hSw; (try dsimp only at hSw); have e0 := (HC.out wx hSw).1.1; have e1 := (HC.out wx hSw).1.2; have e2 := (HC.out wx hSw).2.1; have e3 := (HC.out wx hSw).2.2; clear hSw; (go_simp <;> with_reducible rfl))
                    case' rest104 => simp only [Act.put, List.setIfInBounds_toArray, List.set_cons_succ, List.set_cons_zero]
                    refine wpAnyH_done (by kernel_rfl) ?_ _
                    go_wp2_with fail
                    go_meet
                    case rel => exact ⟨by rw [HBB.out], hHeld⟩
          · have hb0 := HB2.out hnl
            subst hb0
            have d1 : decide (n < L.length) = false := decide_eq_false hnl
            go_quiet (fail)
            go_wp2_with fail
            go_meet
            case rel => exact ⟨rfl, below_drewN (Below.refl _ _) _⟩
        case rest =>
        obtain ⟨rfl, hbc⟩ := hcut
        have HNX : Hid (∀ w5, Below wi.heap.size wi w5 → Below wo.heap.size wo w5) := fun w5 h => hbi.out.trans (h.mono hbi.out.size)
        cases B with
        | true =>
          have hnl : n < L.length := by
            apply Classical.byContradiction
            intro h
            have := HB2.out h
            cases this
          have hd := of_decide_eq_true (HB1.out hnl).symm
          have h3 := cmpL_three (rkA a) L[n] ws[q]
          have hnew : ∀ j (hj : j < L.length), j < n + 1 → cmpL (rkA a) L[j] ws[q] = -1 := fun j hj h => by
            by_cases hjn : j < n
            · exact hcmp.out j hj hjn
            · have : j = n := by omega
              subst this
              omega
          have HN := Lib.hid hnew
          have HBX := Lib.hid (HNX.out _ hbc)
          clear hnew hd h3 HB1 HB2 hbc hcmp hc2 hr2 hX
          go_wp2_with fail
          exact ⟨⟨n + 1, by omega, by go_num, HN.out, HBX.out⟩, by simp [intOf]; omega⟩
        | false =>
          have hstop : ∀ h : n < L.length, 0 ≤ cmpL (rkA a) L[n] ws[q] := fun h => by
            have := of_decide_eq_false (HB1.out h).symm
            omega
          have HSTOP := Lib.hid hstop
          have hwc := HNX.out _ hbc
          obtain ⟨E, hE1, hE2⟩ : ∃ E : Bool, (∀ h : n < L.length, E = decide (L[n] = ws[q])) ∧ (¬ n < L.length → E = false) := by
            by_cases h : n < L.length
            · exact ⟨decide (L[n] = ws[q]), fun _ => rfl, fun h' => absurd h h'⟩
            · exact ⟨false, fun h' => absurd h' h, fun _ => rfl⟩
          have HE1 := Lib.hid hE1
          have HE2 := Lib.hid hE2
          have x1 := ((bcell hbc).1 b (off + q) hbl).trans x0
          obtain ⟨wd, rfl⟩ : ∃ wd : World, wd = wc := ⟨_, rfl⟩
          have hbl2 : b < wd.heap.size := by have := hbc.size; omega
          have HWC := Lib.hid hwc
          have HOC := Lib.hid (own_below HOWN.out hwc)
          have HRC := Lib.hid (hrowi.below hbc hrowi.lt)
          clear hstop hE1 hE2 HB1 HB2 hwc hbc x0 y0 q0 q1 hc2 hr2 hrowi hbi hbw hbw1 HNX hl1
          go_upto_region 8 with (fail)
          go_cut [50] (fun b wx => b = .bool E ∧ Below wd.heap.size wd wx)
          case first =>
            as_aux_lemma =>
            by_cases hnl : n < L.length
            · obtain ⟨g, rfl, _, hg, ⟨z0, z1⟩⟩ := own_strm HOC.out hnl
              have hX1 := HWS.out _ (List.mem_of_mem_take ((hLm.out _).1 (List.getElem_mem hnl)))
              have he := HE1.out hnl
              have hinj : encR L[n] = encR ws[q] → L[n] = ws[q] := fun h => by
                have a1 := hX1.back HOK.out
                have a2 := hX.back HOK.out
                rw [h, a2] at a1
                exact (congrArg Prod.fst a1).symm
              have j1 : (n : Int) < (L.length : Int) := by omega
              have j2 : 0 ≤ (n : Int) := by omega
              have d1 : decide (n < L.length) = true := decide_eq_true hnl
              by_cases heq : L[n] = ws[q]
              · have hd : ((encR L[n]).toList == (encR ws[q]).toList) = true := by rw [heq]; simp
                have HEE : Hid (E = true) := by show _ = _; rw [he, decide_eq_true heq]
                generalize encR L[n] = S1 at *
                generalize encR ws[q] = S2 at *
                clear hinj heq he hX1
                go_quiet (fail)
                go_wp2_with fail
                go_meet
                case rel => exact ⟨by rw [HEE.out], below_drewN (Below.refl _ _) _⟩
              · have hd : ((encR L[n]).toList == (encR ws[q]).toList) = false := str_ne fun h => heq (hinj h)
                have HEE : Hid (E = false) := by show _ = _; rw [he, decide_eq_false heq]
                generalize encR L[n] = S1 at *
                generalize encR ws[q] = S2 at *
                clear hinj heq he hX1
                go_quiet (fail)
                go_wp2_with fail
                go_meet
                case rel => exact ⟨by rw [HEE.out], below_drewN (Below.refl _ _) _⟩
            · have hb0 := HE2.out hnl
              subst hb0
              have d1 : decide (n < L.length) = false := decide_eq_false hnl
              go_quiet (fail)
              go_wp2_with fail
              go_meet
              case rel => exact ⟨rfl, below_drewN (Below.refl _ _) _⟩
          case rest =>
          obtain ⟨rfl, hbx⟩ := hcut
          cases E with
          | true =>
            have hnl : n < L.length := by
              apply Classical.byContradiction
              intro h
              have := HE2.out h
              cases this
            have he := of_decide_eq_true (HE1.out hnl).symm
            have hfin : RowSt a ws w1 (.slice A L.length c) (.int .i64 ((q : Int) + 1)) wc := by
              refine ⟨q + 1, L, A, c, rfl, by simp, by omega, by omega, hLr.out, ?_, own_below HOC.out hbx, HB.out.trans ((HWC.out.trans (hbx.mono HWC.out.size)).mono HB.out.size)⟩
              intro z
              rw [hLm.out z, List.take_succ_eq_append_getElem hltw, List.mem_append, List.mem_singleton]
              constructor
              · exact fun h => .inl h
              · rintro (h | h)
                · exact h
                · rw [h, ← he]; exact (hLm.out _).1 (List.getElem_mem hnl)
            have HFN := Lib.hid hfin
            clear hfin he
            go_wp2_with fail
            exact ⟨HFN.out, by simp [intOf]; omega⟩
          | false =>
            have hins : Rows (rkA a) (L.take n ++ [ws[q]] ++ L.drop n) := insert_rows hLr.out hn1 hcmp.out (fun h => by
              have h1 := HSTOP.out h
              have h2 := cmpL_three (rkA a) L[n] ws[q]
              have h3 : L[n] ≠ ws[q] := fun e => by
                have := HE1.out h
                rw [decide_eq_true e] at this
                cases this
              have h4 : cmpL (rkA a) L[n] ws[q] ≠ 0 := fun e => h3 (cmpA_zero HOK.out (HWS.out _ (List.mem_of_mem_take ((hLm.out _).1 (List.getElem_mem h)))).1 hX.1 e)
              omega)
            have hmem : ∀ z, z ∈ L.take n ++ [ws[q]] ++ L.drop n ↔ z ∈ ws.take (q + 1) := fun z => by
              rw [insert_mem, hLm.out z, List.take_succ_eq_append_getElem hltw, List.mem_append, List.mem_singleton]
              exact Or.comm
            have hlen : (L.take n ++ [ws[q]] ++ L.drop n).length = L.length + 1 := by simp; omega
            have HINS := Lib.hid hins
            have HMEM := Lib.hid hmem
            have HLEN := Lib.hid hlen
            have HOX := Lib.hid (own_below HOC.out hbx)
            have HBX := Lib.hid (HB.out.trans ((HWC.out.trans (hbx.mono HWC.out.size)).mono HB.out.size))
            have x2 := ((bcell hbx).1 b (off + q) hbl2).trans x1
            have hbl3 : b < wc.heap.size := by have := hbx.size; omega
            generalize hX2 : ws[q] = X at *
            clear hins hmem hlen HE1 HE2 HSTOP x1 hbx HWC HRC
            obtain ⟨wz, rfl⟩ : ∃ wz : World, wz = wc := ⟨_, rfl⟩
            have hnc : L.length ≤ c := by
              obtain ⟨A', c', e, h1, _⟩ := own_form HOX.out
              injection e with _ _ e3
              omega
            have hL : L.length ≤ 4096 := by have := HLL.out; omega
            go_upto_region 10 with (fail)
            go_cut [8] (fun v wx => ∃ N cN, v = .slice N n cN ∧ Hid (wx.ownsRow wz.heap.size 9 1 (.slice N n cN) n (strVs ((L.take n).map encR))) ∧ Below wz.heap.size wz wx)
            case first =>
              as_aux_lemma =>
              by_cases hn0 : n = 0
              · subst hn0
                have k1 : (0 : Int) ≤ (c : Int) := by omega
                go_wp2_with (at_builtin; refine wpList_append_none rfl _ _ 22 rfl 9 i1 Tryd.underlying22 hi1 (A := none) (B := A) (n := 0) (c := 0) (d := c) rfl rfl (Nat.le_refl _) ?_)
                go_meet
                case rel => exact ⟨none, 0, rfl, World.ownsRow_nil _ _ _ _, Below.refl _ _⟩
              · obtain ⟨g, rfl, hg1, hg2, _⟩ := own_strm HOX.out (show 0 < L.length by omega)
                have hc0 : ¬ c = 0 := by omega
                have k1 : (n : Int) ≤ (c : Int) := by omega
                have k0 : 0 ≤ (n : Int) := by omega
                have hrl : (strVs ((L.take n).map encR)).length = n * 1 := by unfold strVs; simp; omega
                have hnews : ∀ j u, (strVs ((L.take n).map encR))[j]? = some u → wz.cell? ((⟨g, 0, none⟩ : Addr).add j) = some u := fun j u h => HOX.out.cells (g := g) rfl j u (take_get (by rw [strs_take]; exact h))
                have hone := strs_one ((L.take n).map encR)
                have h63 : 0 + n ≤ maxLen := by unfold maxLen; omega
                have hby : (0 + n) * 16 ≤ 140737488355328 := by omega
                have hnp : 0 < n := by omega
                go_wp2_with (at_builtin; refine wpList_append_lies _ rfl _ _ 22 rfl wz.heap.size 9 i1 (.string ⟨#[]⟩) 1 16 Tryd.underlying22 hi1 hy0 hy1 hy2 rfl (by decide) (.slice none 0 0) 0 [] rfl (World.ownsRow_nil _ _ _ _) ⟨g, 0, none⟩ n c (strVs ((L.take n).map encR)) rfl hrl hnews hone hnp h63 hby (Nat.le_refl _) _ rfl ?_)
                intro g5 cap w5 hown5 hgr5 hat5 hlt5
                have hb5 : Below wz.heap.size wz w5 := (Below.refl _ _).grown hgr5 (Nat.le_refl _) (by simp [Value.ownBlock])
                have HO5 : Hid (w5.ownsRow wz.heap.size 9 1 (.slice (some ⟨g5, 0, none⟩) n cap) n (strVs ((L.take n).map encR))) := by
                  show w5.ownsRow _ _ _ _ _ _
                  simp only [Nat.zero_add, List.nil_append, List.map_take] at hown5 ⊢
                  exact hown5
                clear hown5 hgr5 hat5 hnews hone
                go_wp2_with fail
                go_meet
                case rel => exact ⟨_, _, rfl, HO5, hb5⟩
            case rest =>
            obtain ⟨N, cN, rfl, hown5, hbx⟩ := hcut
            have x3 := ((bcell hbx).1 b (off + q) hbl3).trans x2
            have hbl4 : b < wc.heap.size := by have := hbx.size; omega
            have hrN := Row.new wc 9 [.string (encR X)]
            have hnews := hrN.news
            have hal2 : Below wc.heap.size wc (wc.alloc (.cells #[.string (encR X)] 9)) := (Below.refl _ _).alloc (Nat.le_refl _) _
            have hownB := own_below hown5.out hal2
            have hone : ∀ u ∈ [Value.string (encR X)], u.oneCell' = true := by intro u hu; rw [List.mem_singleton.1 hu]; rfl
            have h64 : n + 1 ≤ maxLen := by unfold maxLen; omega
            have hby : (n + 1) * 16 ≤ 140737488355328 := by omega
            have hlo2 : wz.heap.size ≤ (wc.alloc (.cells #[.string (encR X)] 9)).heap.size := by have := hal2.size; have := hbx.size; omega
            have hbB : Below wz.heap.size wz (wc.alloc (.cells #[.string (encR X)] 9)) := hbx.trans (hal2.mono hbx.size)
            have hge := fun j hj => (hown5.out.lt j hj).1
            clear hrN hal2 hown5 hlx
            go_wp2_with (at_builtin; refine wpList_append_lies _ rfl _ _ 22 rfl wz.heap.size 9 i1 (.string ⟨#[]⟩) 1 16 Tryd.underlying22 hi1 hy0 hy1 hy2 rfl (by decide) (.slice N n cN) n (strVs ((L.take n).map encR)) rfl hownB ⟨wc.heap.size, 0, none⟩ 1 1 [.string (encR X)] rfl rfl hnews hone (by decide) h64 hby hlo2 _ rfl ?_)
            intro g6 cap6 w6 hown6 hgr6 hat6 hlt6
            have hb6 : Below wz.heap.size wz w6 := hbB.grown hgr6 hlo2 hge
            have HN6 : Hid (w6.ownsRow wz.heap.size 9 1 (.slice (some ⟨g6, 0, none⟩) (n + 1) cap6) (n + 1) (strVs ((L.take n ++ [X]).map encR))) := by
              show w6.ownsRow _ _ _ _ _ _
              simp only [strVs, List.map_take, List.map_append, List.map_cons, List.map_nil] at hown6 ⊢
              exact hown6
            have HO6 := Lib.hid (own_below HOX.out hb6)
            have HB6 := Lib.hid hb6
            have hcap6 : n + 1 ≤ cap6 := by
              obtain ⟨A', c', e, h1, _⟩ := own_form hown6
              injection e with _ _ e3
              omega
            clear hgr6 hat6 hownB hnews hone hown6 hb6 hbB hge x3 hbl4 hlo2 hbx x2
            have k1 : (n : Int) ≤ (L.length : Int) := by omega
            have k2 : (L.length : Int) ≤ (c : Int) := by omega
            have k0 : 0 ≤ (n : Int) := by omega
            have hend : ∀ (A' : Option Addr) (c' : Nat) (w' : World), w'.ownsRow wz.heap.size 9 1 (.slice A' (L.length + 1) c') (L.length + 1) (strVs ((L.take n ++ [X] ++ L.drop n).map encR)) → Below wz.heap.size wz w' → RowSt a ws w1 (.slice A' (L.length + 1) c') (.int .i64 ((q : Int) + 1)) w' := fun A' c' w' h1 h2 => by
              refine ⟨q + 1, _, A', c', by rw [HLEN.out], by simp, by omega, by rw [HLEN.out]; omega, HINS.out, HMEM.out, ?_, HBX.out.trans (h2.mono HBX.out.size)⟩
              rw [HLEN.out]
              exact own_low h1 HBX.out.size
            have HEND := Lib.hid hend
            clear hend
            by_cases hnl : n = L.length
            · have h6 : w6.ownsRow wz.heap.size 9 1 (.slice (some ⟨g6, 0, none⟩) (L.length + 1) cap6) (L.length + 1) (strVs ((L.take n ++ [X] ++ L.drop n).map encR)) := by
                have h := HN6.out
                have e : L.take n ++ [X] ++ L.drop n = L.take n ++ [X] := by rw [hnl, List.drop_length, List.append_nil]
                rw [e, ← hnl]
                exact h
              have HE6 := Lib.hid (HEND.out _ _ _ h6 HB6.out)
              clear h6 HN6 HEND HINS HMEM HLEN
              subst hnl
              rcases A with _ | ad
              · by_cases hcn : c = L.length
                · go_wp2_with (at_builtin; refine wpList_append_none rfl _ _ 22 rfl 9 i1 Tryd.underlying22 hi1 (A := some ⟨g6, 0, none⟩) (n := L.length + 1) (c := cap6) rfl rfl hcap6 ?_)
                  exact ⟨HE6.out, by simp [intOf]; omega⟩
                · go_wp2_with (at_builtin; refine wpList_append_none rfl _ _ 22 rfl 9 i1 Tryd.underlying22 hi1 (A := some ⟨g6, 0, none⟩) (n := L.length + 1) (c := cap6) rfl rfl hcap6 ?_)
                  exact ⟨HE6.out, by simp [intOf]; omega⟩
              · by_cases hcn : c = L.length
                · go_wp2_with (at_builtin; refine wpList_append_none rfl _ _ 22 rfl 9 i1 Tryd.underlying22 hi1 (A := some ⟨g6, 0, none⟩) (n := L.length + 1) (c := cap6) rfl rfl hcap6 ?_)
                  exact ⟨HE6.out, by simp [intOf]; omega⟩
                · go_wp2_with (at_builtin; refine wpList_append_none rfl _ _ 22 rfl 9 i1 Tryd.underlying22 hi1 (A := some ⟨g6, 0, none⟩) (n := L.length + 1) (c := cap6) rfl rfl hcap6 ?_)
                  exact ⟨HE6.out, by simp [intOf]; omega⟩
            · have hcn : ¬ c = n := by omega
              obtain ⟨g, rfl, hg1, hg2, _⟩ := own_strm HO6.out (show 0 < L.length by omega)
              have hrl : (strVs ((L.drop n).map encR)).length = (L.length - n) * 1 := by unfold strVs; simp
              have hnews : ∀ j u, (strVs ((L.drop n).map encR))[j]? = some u → w6.cell? ((⟨g, n, none⟩ : Addr).add j) = some u := fun j u h => by
                have h1 := HO6.out.cells (g := g) rfl (n + j) u (by rw [← strs_drop, List.getElem?_drop] at h; exact h)
                rw [Addr.add_lit] at h1 ⊢
                rw [Nat.zero_add] at h1
                exact h1
              have hone := strs_one ((L.drop n).map encR)
              have h63 : n + 1 + (L.length - n) ≤ maxLen := by unfold maxLen; omega
              have hby2 : (n + 1 + (L.length - n)) * 16 ≤ 140737488355328 := by omega
              have hnp : 0 < L.length - n := by omega
              have hge := fun j hj => (HN6.out.lt j hj).1
              have hown6 := HN6.out
              have hlo6 := HB6.out.size
              go_wp2_with (at_builtin; refine wpList_append_lies _ rfl _ _ 22 rfl wz.heap.size 9 i1 (.string ⟨#[]⟩) 1 16 Tryd.underlying22 hi1 hy0 hy1 hy2 rfl (by decide) (.slice (some ⟨g6, 0, none⟩) (n + 1) cap6) (n + 1) (strVs ((L.take n ++ [X]).map encR)) rfl hown6 ⟨g, n, none⟩ (L.length - n) (c - n) (strVs ((L.drop n).map encR)) rfl hrl hnews hone hnp h63 hby2 hlo6 _ rfl ?_)
              intro g7 cap7 w7 hown7 hgr7 hat7 hlt7
              have hb7 : Below wz.heap.size wz w7 := HB6.out.grown hgr7 HB6.out.size hge
              have e : n + 1 + (L.length - n) = L.length + 1 := by omega
              rw [e] at hown7
              rw [e]
              have HE7 : Hid (RowSt a ws w1 (.slice (some ⟨g7, 0, none⟩) (L.length + 1) cap7) (.int .i64 ((q : Int) + 1)) w7) := HEND.out _ _ _ (by
                simp only [strVs, List.map_take, List.map_drop, List.map_append, List.map_cons, List.map_nil] at hown7 ⊢
                exact hown7) hb7
              clear hown7 hgr7 hat7 hnews hone hown6 hge HEND HINS HMEM HLEN HN6 HO6
              go_wp2_with fail
              exact ⟨HE7.out, by simp [intOf]; omega⟩
    · have hql : q = ws.length := by have := HLL.out; omega
      have hLL := HFIN.out L hLr.out (fun z => by rw [hLm.out z, hql, List.take_length])
      have hfin : ∃ A' c', (Ending.returned (.slice A L.length c)) = .returned (.slice A' (rowR (rkA a) ws).length c') ∧ wr.ownsRow w.heap.size 9 1 (.slice A' (rowR (rkA a) ws).length c') (rowR (rkA a) ws).length (strVs ((rowR (rkA a) ws).map encR)) ∧ Below w.heap.size w wr := by
        rw [← hLL]
        exact ⟨A, c, rfl, own_low hown HAL.out.size, HAL.out.trans (hb.mono HAL.out.size)⟩
      have HFN := Lib.hid hfin
      have b1 : ¬ (q : Int) < (l.length : Int) := by omega
      clear hfin hLL hql hown hb hrow
      go_wp2_with fail
      go_ret
      exact HFN.out
end Go.Proofs.YtfjccjjdgbkbiaaDoor
