/- slices.Contains of letters, walked. word.both: the letters of two words. -/
import Derived.Test.YtfjccjjdgbkbiaaDoorWo12
import Derived.Test.YtfjccjjdgbkbiaaDoorWo14
namespace Go.Proofs.YtfjccjjdgbkbiaaDoor
open Go.RowKit
set_option linter.unusedVariables false

def idxR (v : Int) (l : List Int) : Int := if l.contains v then (l.findIdx (· == v) : Int) else -1
theorem idxR_hit {v : Int} {l : List Int} {k : Nat} (hk : k < l.length) (h1 : ∀ j, j < k → l[j]? ≠ some v) (h2 : l[k] = v) : idxR v l = k := by
  have hm : l.contains v = true := by
    rw [List.contains_iff_mem, ← h2]; exact List.getElem_mem hk
  unfold idxR
  rw [if_pos hm]
  have : l.findIdx (· == v) = k := by
    rw [List.findIdx_eq hk]
    refine ⟨by simp [h2], fun j hj => ?_⟩
    have := h1 j hj
    rw [List.getElem?_eq_getElem (by omega)] at this
    simpa using this
  rw [this]
theorem idxR_miss {v : Int} {l : List Int} (h1 : ∀ j, j < l.length → l[j]? ≠ some v) : idxR v l = -1 := by
  unfold idxR
  rw [if_neg]
  intro h
  rw [List.contains_iff_mem] at h
  obtain ⟨j, hj⟩ := List.mem_iff_getElem?.1 h
  exact h1 j (List.getElem?_eq_some_iff.1 hj).1 hj
theorem idxR_pos (v : Int) (l : List Int) : decide (0 ≤ idxR v l) = l.contains v := by
  unfold idxR
  by_cases h : l.contains v = true
  · rw [if_pos h, h]; simp
  · rw [if_neg h]
    have : l.contains v = false := by simpa using h
    rw [this]; rfl
/-- A letter of a row of the call's own. -/
theorem own_rune {w : World} {base c k : Nat} {A : Option Addr} {l : List Int} (h : w.ownsRow base 21 1 (.slice A l.length c) l.length (runeVs l)) (hk : k < l.length) :
    ∃ g, A = some ⟨g, 0, none⟩ ∧ base ≤ g ∧ g < w.heap.size ∧ Cel w g k (.int .i32 l[k]) := by
  obtain ⟨g, c', e, _, _, h1, h2⟩ := own_pos h (by omega)
  injection e with e1 _ e2
  subst e1 e2
  exact ⟨g, rfl, h1, h2, own_cel h (by unfold runeVs; rw [List.getElem?_map, List.getElem?_eq_getElem hk]; rfl)⟩

theorem index_rune (v : Int) (base : Nat) (A : Option Addr) (c : Nat) (l : List Int) (w : World) (h : w.ownsRow base 21 1 (.slice A l.length c) l.length (runeVs l)) (hm : l.length ≤ 4611686018427387904) :
    Calls Tryd.prog 73 #[.slice A l.length c, .int .i32 v] w fun e w' => e = .returned (.int .i64 (idxR v l)) ∧ w = w' := by
  go_enter Tryd.func73, Tryd.ntmps73
  go_wp2_with fail
  go_loop [8] (fun i => ∃ k : Nat, k ≤ l.length ∧ i = .int .i64 k ∧ Hid (∀ j, j < k → l[j]? ≠ some v)) (fun i => l.length - (intOf i).toNat)
  case atStart => exact ⟨0, by omega, rfl, fun j hj => absurd hj (by omega)⟩
  case round =>
    obtain ⟨k, hk, rfl, hno⟩ := hrel
    by_cases hlt : k < l.length
    · obtain ⟨g, rfl, _, hg, ⟨ck, fk⟩⟩ := own_rune h hlt
      cases hv : (v == l[k]) with
      | true =>
        have hF := Lib.hid (idxR_hit hlt hno.out (by simpa using (beq_iff_eq.1 hv).symm))
        go_wp2_with fail
        go_ret
        exact ⟨by rw [hF.out]; rfl, rfl⟩
      | false =>
        have hno2 : Hid (∀ j, j < k + 1 → l[j]? ≠ some v) := fun j hj => by
          by_cases e : j = k
          · subst e
            rw [List.getElem?_eq_getElem hlt]
            simp only [beq_eq_false_iff_ne] at hv
            exact fun h => hv (by simpa using h.symm)
          · exact hno.out j (by omega)
        go_wp2_with fail
        go_round
        case rel => exact ⟨k + 1, by omega, by go_num, hno2⟩
        case measure => simp [intOf]; omega
    · obtain rfl : k = l.length := by omega
      have hF := Lib.hid (idxR_miss hno.out)
      go_wp2_with fail
      go_ret
      exact ⟨by rw [hF.out]; rfl, rfl⟩

theorem contains_rune (v : Int) (base : Nat) (A : Option Addr) (c : Nat) (l : List Int) (w : World) (h : w.ownsRow base 21 1 (.slice A l.length c) l.length (runeVs l)) (hm : l.length ≤ 4611686018427387904) :
    Calls Tryd.prog 48 #[.slice A l.length c, .int .i32 v] w fun e w' => e = .returned (.bool (l.contains v)) ∧ w = w' := by
  have hp := Lib.hid (idxR_pos v l)
  go_enter Tryd.func48, Tryd.ntmps48
  go_wp2_with (go_at_call 73; refine (index_rune v base A c l _ h hm).mono ?_; rintro e w' ⟨rfl, rfl⟩)
  go_ret
  exact ⟨by rw [← hp.out]; rfl, rfl⟩
end Go.Proofs.YtfjccjjdgbkbiaaDoor
namespace Go.Proofs.YtfjccjjdgbkbiaaDoor
open Go.RowKit
open Go.Lib (Utf8Tabs)
set_option linter.unusedVariables false

theorem results_tmp4 {fn : Func} {t u v x : Tmp} (h : fn.results = #[.tmp t, .tmp u, .tmp v, .tmp x]) (tmps : Array Value) (P : Program) (w : World) :
    (results fn tmps).run P w = .ok (.tuple #[tmps.getD t undef, tmps.getD u undef, tmps.getD v undef, tmps.getD x undef]) w := by
  simp [results, h]
/-- The letters of two words, and the error. -/
def bothS (a : Al) (x y : ByteArray) : List Int × List Int × Int := if (lettersS a x).2 ≠ 0 then ([], [], (lettersS a x).2) else if (lettersS a y).2 ≠ 0 then ([], [], (lettersS a y).2) else ((lettersS a x).1, (lettersS a y).1, 0)
def BothOut (a : Al) (r : List Int × List Int × Int) (W : World) (e : Ending) (w' : World) : Prop :=
  ∃ mv A c B d, e = .returned (.tuple #[mv, .slice A r.1.length c, .slice B r.2.1.length d, .int .i64 r.2.2]) ∧ w'.ownsRow W.heap.size 21 1 (.slice A r.1.length c) r.1.length (runeVs r.1) ∧ w'.ownsRow W.heap.size 21 1 (.slice B r.2.1.length d) r.2.1.length (runeVs r.2.1) ∧
    (r.2.2 = 0 → ∃ bm n, mv = .map (some bm) ∧ W.heap.size ≤ bm ∧ MapI Tryd.prog 21 3 .i64 w' bm n (rankF a.lets a.lets.length)) ∧ Below W.heap.size W w'
theorem BothOut.no {a : Al} {r : List Int × List Int × Int} {E : Int} {W w' : World} (h : r = ([], [], E)) (hE : E ≠ 0) (hb : Below W.heap.size W w') : BothOut a r W (.returned (.tuple #[.map none, .slice none 0 0, .slice none 0 0, .int .i64 E])) w' := by
  subst h
  exact ⟨.map none, none, 0, none, 0, rfl, World.ownsRow_nil _ _ _ _, World.ownsRow_nil _ _ _ _, fun h => absurd h hE, hb⟩

set_option maxHeartbeats 4000000 in
theorem both_any (A1 A2 : Option Addr) (c1 c2 lo : Nat) (a : Al) (x y : ByteArray) (w : World) (hin : AlIn w lo w.heap.size A1 A2 a) (hT : Utf8Tabs 0 1 w) (hx : x.size ≤ maxLen) (hy : y.size ≤ maxLen) :
    Calls Tryd.prog 52 #[.agg #[.slice A1 a.feats.length c1, .slice A2 a.lets.length c2], .string x, .string y] w (BothOut a (bothS a x y) w) := by
  have hal : Below w.heap.size w (w.alloc (.cells #[.slice A1 a.feats.length c1, .slice A2 a.lets.length c2] 25)) := (Below.refl _ _).alloc (Nat.le_refl _) _
  have hcall := Lib.hid (ranks_any A1 A2 c1 c2 lo a _ (hin.on hal))
  have HL : Hid (bothS a x y = if (lettersS a x).2 ≠ 0 then ([], [], (lettersS a x).2) else if (lettersS a y).2 ≠ 0 then ([], [], (lettersS a y).2) else ((lettersS a x).1, (lettersS a y).1, 0)) := rfl
  have HX : Hid (lettersS a x = if alOk a = true then readS a x else ([], 7)) := rfl
  have HY : Hid (lettersS a y = if alOk a = true then readS a y else ([], 7)) := rfl
  have hex := letters_err a x
  have hey := letters_err a y
  go_enter Tryd.func52, Tryd.ntmps52
  go_wp2_with fail
  refine hcall.out.mono ?_
  rintro e w1 (⟨hok, rfl, hb1⟩ | ⟨hok, bm, n, rfl, hmap, hbm, hb1⟩)
  · have e7 : lettersS a x = ([], 7) := by rw [HX.out, hok]; rfl
    have hfin := BothOut.no (a := a) (r := bothS a x y) (E := 7) (by rw [HL.out, e7]; rfl) (by decide) (hal.trans (hb1.mono (by simp)))
    have HF := Lib.hid hfin
    clear hfin hcall hok hex hey e7
    go_wp2_with fail
    (try simp only [Exit.inBlock, Exit.then])
    refine bodyPost_ret (results_tmp4 rfl _ _ _) rfl ?_
    exact HF.out
  · have hbw := hal.trans (hb1.mono (by simp))
    have hz1 := hbw.size
    have hr1 := Lib.hid (read_any x bm n _ a w1 hmap (rank_let hok) (Utf8Tabs_below hT hbw) hx)
    have HR2 := Lib.hid (fun (w2 : World) (hb2 : Below w1.heap.size w1 w2) => read_any y bm n _ a w2 (hmap.below hb2 hmap.lt) (rank_let hok) (Utf8Tabs_below hT (hbw.trans (hb2.mono hz1))) hy)
    have HM := Lib.hid (fun (w2 : World) (hb2 : Below w1.heap.size w1 w2) => hmap.below hb2 hmap.lt)
    have HEX : Hid (lettersS a x = readS a x) := by show _ = _; rw [HX.out, if_pos hok]
    have HEY : Hid (lettersS a y = readS a y) := by show _ = _; rw [HY.out, if_pos hok]
    rw [HEX.out] at hex HL
    rw [HEY.out] at hey HL
    have hbmw : w.heap.size ≤ bm := by simp at hbm; omega
    clear hcall hok hmap HX HY HEX HEY
    generalize readS a x = R at *
    generalize readS a y = S at *
    generalize bothS a x y = BS at *
    obtain ⟨l, E⟩ := R
    obtain ⟨k, F⟩ := S
    simp only at hex hey HL
    go_wp2_with fail
    refine hr1.out.mono ?_
    rintro e w2 ⟨A, c, rfl, hown, hb2⟩
    have hbw2 := hbw.trans (hb2.mono hz1)
    rcases hex with h0 | ⟨h1, h2, h3⟩
    · subst h0
      have hr2 := Lib.hid (HR2.out w2 hb2)
      clear hr1 HR2
      go_wp2_with fail
      refine hr2.out.mono ?_
      rintro e w3 ⟨B, d, rfl, hown3, hb3⟩
      have hbw3 := hbw2.trans (hb3.mono hbw2.size)
      rcases hey with h0 | ⟨h1, h2, h3⟩
      · subst h0
        have hfin : BothOut a BS w (.returned (.tuple #[.map (some bm), .slice A l.length c, .slice B k.length d, .int .i64 0])) w3 := by
          rw [show BS = (l, k, 0) by rw [HL.out]; simp]
          exact ⟨_, A, c, B, d, rfl, own_low (own_below hown hb3) hz1, own_low hown3 hbw2.size, fun _ => ⟨bm, n, rfl, hbmw, HM.out _ (hb2.trans (hb3.mono hb2.size))⟩, hbw3⟩
        have HF := Lib.hid hfin
        clear hfin hown hown3 hr2
        go_wp2_with fail
        (try simp only [Exit.inBlock, Exit.then])
        refine bodyPost_ret (results_tmp4 rfl _ _ _) rfl ?_
        exact HF.out
      · subst h3
        have hne : (F != 0) = true := by rw [bne_iff_ne]; omega
        have hfin := BothOut.no (a := a) (r := BS) (E := F) (by rw [HL.out, if_neg (by simp), if_pos (by omega)]) (by omega) hbw3
        have HF := Lib.hid hfin
        clear hfin hown hown3 hr2
        go_wp2_with fail
        (try simp only [Exit.inBlock, Exit.then])
        refine bodyPost_ret (results_tmp4 rfl _ _ _) rfl ?_
        exact HF.out
    · subst h3
      have hne : (E != 0) = true := by rw [bne_iff_ne]; omega
      have hfin := BothOut.no (a := a) (r := BS) (E := E) (by rw [HL.out, if_pos (by omega)]) (by omega) hbw2
      have HF := Lib.hid hfin
      clear hfin hown hr1
      go_wp2_with fail
      (try simp only [Exit.inBlock, Exit.then])
      refine bodyPost_ret (results_tmp4 rfl _ _ _) rfl ?_
      exact HF.out
end Go.Proofs.YtfjccjjdgbkbiaaDoor
