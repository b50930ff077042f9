/- word.Syllables. -/
import Derived.Test.YtfjccjjdgbkbiaaDoorWs25
namespace Go.Proofs.YtfjccjjdgbkbiaaDoor
open Go.RowKit
open Go.Lib (Utf8Tabs)
set_option linter.unusedVariables false

def SylSt (p : List Nat) (W : World) (v f i : Value) (wr : World) : Prop :=
  ∃ (k : Nat) (A : Option Addr) (c : Nat), v = .slice A k c ∧ f = .int .i64 (bnd p k : Int) ∧ i = .int .i64 ((k : Int) + 1) ∧ k + 1 ≤ p.length ∧ wr.ownsRow W.heap.size 48 2 (.slice A k c) k (spVs (cutL p k)) ∧ Below W.heap.size W wr

set_option maxHeartbeats 4000000 in
set_option maxRecDepth 100000 in
theorem syl_any (A1 A2 : Option Addr) (c1 c2 lo : Nat) (a : Al) (s : ByteArray) (p m : Nat) (w : World) (hin : AlIn w lo w.heap.size A1 A2 a) (hT : Utf8Tabs 0 1 w) (hs : s.size ≤ maxLen) (hp : p < 4294967296) (hm : m < 4294967296) :
    Calls Tryd.prog 23 #[.agg #[.slice A1 a.feats.length c1, .slice A2 a.lets.length c2], .string s, .int .u32 (p : Int), .int .u32 (m : Int)] w (SpansOut (sylS a s p m) w) := by
  obtain ⟨i1, hi1, hy0, hy1, hy2⟩ := info_parts span_info
  have hal : Below w.heap.size w (w.alloc (.cells #[.slice A1 a.feats.length c1, .slice A2 a.lets.length c2] 25)) := (Below.refl _ _).alloc (Nat.le_refl _) _
  have hr0 := Row.new w 25 [.slice A1 a.feats.length c1, .slice A2 a.lets.length c2]
  have hcall := Lib.hid (peaks_any A1 A2 c1 c2 lo a s p m _ (hin.on hal) (Utf8Tabs_below hT hal) hs hp hm)
  have hlet := Lib.hid (fun w' (h : Below w.heap.size w w') => letters_any A1 A2 c1 c2 lo a s w' (hin.on h) (Utf8Tabs_below hT h) hs)
  have HT : Hid (sylS a s p m = if (peaksS a s p m).2 ≠ 0 then ([], (peaksS a s p m).2) else (spansL (peaksS a s p m).1 (lettersS a s).1.length, 0)) := rfl
  have hup := peaks_up a s p m
  have herr := peaks_err a s p m
  have hlen := letters_len a s
  generalize lettersS a s = R at *
  generalize peaksS a s p m = P at *
  obtain ⟨l, E⟩ := R
  obtain ⟨ps, F⟩ := P
  simp only at *
  obtain ⟨hup1, hup2, hup3⟩ := hup
  rcases herr with ⟨h0, h1⟩ | ⟨h1, h2, h3, h4⟩
  · subst h0 h1
    by_cases hz : ps.length = 0
    · have hps := List.eq_nil_of_length_eq_zero hz
      subst hps
      have HF : Hid (sylS a s p m = ([], 0)) := by show _ = _; rw [HT.out, if_neg (by simp)]; rfl
      clear HT hlet
      go_enter Tryd.func23, Tryd.ntmps23
      go_wp2_with fail
      refine hcall.out.mono ?_
      rintro e w1 ⟨Ap, cp, rfl, hown1, hb1⟩
      have HF2 := Lib.hid (SpansOut.no (W := w) HF.out (hal.trans (hb1.mono (by simp))))
      clear hb1 hr0 hown1 hcall
      simp only [List.length_nil]
      go_wp2_with fail
      go_ret2
      exact HF2.out
    · have HF : Hid (sylS a s p m = (spansL ps l.length, 0)) := by show _ = _; rw [HT.out, if_neg (by simp)]
      have hpz : ((ps.length : Int) == 0) = false := by rw [beq_eq_false_iff_ne]; omega
      clear HT
      go_enter Tryd.func23, Tryd.ntmps23
      go_wp2_with fail
      refine hcall.out.mono ?_
      rintro e w1 ⟨Ap, cp, rfl, hown1, hb1⟩
      have hr1 := hr0.below hb1 hr0.lt
      have hbw1 := hal.trans (hb1.mono (by simp))
      have hl1 := hr1.lt
      have hz1 := hbw1.size
      obtain ⟨q0, f0⟩ := hr1.cel (i := 0) rfl
      obtain ⟨q1, f1⟩ := hr1.cel (i := 1) rfl
      clear hcall hb1
      go_wp2_with fail
      refine (hlet.out _ hbw1).mono ?_
      rintro e w2 ⟨Al, cl, rfl, hown2, hb2⟩
      have hbw2 := hbw1.trans (hb2.mono hz1)
      have hz2 := hbw2.size
      have hown1' := own_below hown1 hb2
      have hst : SylSt ps w2 (.slice none 0 0) (.int .i64 0) (.int .i64 1) w2 := ⟨0, none, 0, rfl, rfl, rfl, by omega, World.ownsRow_nil _ _ _ _, Below.refl _ _⟩
      have HST := Lib.hid hst
      clear hst hlet hr1 q0 q1 f0 f1 hown1 hr0 hb2 hal hown2
      go_wp2_with fail
      go_loopw [14, 15, 16] (fun v f i wr => SylSt ps w2 v f i wr) (fun _ _ i _ => ps.length - (intOf i).toNat)
      case atStart => exact HST.out
      case round =>
        clear HST
        obtain ⟨k, Av, cv, rfl, rfl, rfl, hk, hown, hb⟩ := hrel
        have hbs := hb.size
        have hown1r := own_below hown1' hb
        by_cases hlt : k + 1 < ps.length
        · obtain ⟨g, rfl, _, hg, ⟨x0, y0⟩⟩ := own_int hown1r hlt
          obtain ⟨g', e', _, _, ⟨x1, y1⟩⟩ := own_int hown1r (show k < ps.length by omega)
          injection e' with e'
          injection e' with e'
          subst e'
          have hbn := bnd_succ ps k hlt
          have hlt2 := List.pairwise_iff_getElem.1 hup1 k (k + 1) (by omega) hlt (by omega)
          have hx64 := hup2 ps[k + 1] (List.getElem_mem hlt)
          generalize ps[k + 1] = x at *
          generalize ps[k] = y at *
          have hbi : ((bnd ps (k + 1) : Nat) : Int) = max ((x : Int) - 1) ((y : Int) + 1) := by rw [hbn]; omega
          have HBI := Lib.hid hbi
          clear hbn hbi
          have j0 : 0 ≤ (k : Int) := by omega
          have j1 : (k : Int) + 1 < (ps.length : Int) := by omega
          have j2 : (k : Int) < (ps.length : Int) := by omega
          clear hup1 hup2
          go_wp2_with fail
          go_region
          rw [show max ((x : Int) - 1) ((y : Int) + 1) = ((bnd ps (k + 1) : Nat) : Int) from HBI.out.symm]
          have hbd : Below w2.heap.size w2 wr.drew := below_drewN hb 1
          have hownd : wr.drew.ownsRow w2.heap.size 48 2 (.slice Av k cv) k (spVs (cutL ps k)) := own_same hown fun _ _ => rfl
          generalize wr.drew = wd at *
          have hbs := hbd.size
          have hal2 : Below wd.heap.size wd (wd.alloc (.cells #[.int .i64 (bnd ps k : Int), .int .i64 (bnd ps (k + 1) : Int)] 48)) := (Below.refl _ _).alloc (Nat.le_refl _) _
          have hownB := own_below hownd hal2
          have hrN := Row.new wd 48 [.int .i64 (bnd ps k : Int), .int .i64 (bnd ps (k + 1) : Int)]
          have hnews := hrN.news
          have hone : ∀ u ∈ [Value.int .i64 (bnd ps k : Int), .int .i64 (bnd ps (k + 1) : Int)], u.oneCell' = true := by
            intro u hu
            simp only [List.mem_cons, List.not_mem_nil, or_false] at hu
            rcases hu with rfl | rfl <;> rfl
          have h63 : k + 1 ≤ maxLen := by unfold maxLen; omega
          have hby : (k + 1) * 16 ≤ 140737488355328 := by omega
          have hlo : w2.heap.size ≤ (wd.alloc (.cells #[.int .i64 (bnd ps k : Int), .int .i64 (bnd ps (k + 1) : Int)] 48)).heap.size := by have := hal2.size; omega
          have hbB : Below w2.heap.size w2 (wd.alloc (.cells #[.int .i64 (bnd ps k : Int), .int .i64 (bnd ps (k + 1) : Int)] 48)) := hbd.trans (hal2.mono hbs)
          have hge := fun j hj => (hownd.lt j hj).1
          clear hrN hal2 hownd hown x0 x1 y0 y1 hown1r hg HBI
          go_wp2_with (at_builtin; refine wpList_append_lies _ rfl _ _ 42 rfl w2.heap.size 48 i1 (.agg #[.int .i64 0, .int .i64 0]) 2 16 Tryd.underlying42 hi1 hy0 hy1 hy2 rfl (by decide) (.slice Av k cv) k (spVs (cutL ps k)) rfl hownB ⟨wd.heap.size, 0, none⟩ 1 1 [.int .i64 (bnd ps k : Int), .int .i64 (bnd ps (k + 1) : Int)] rfl rfl hnews hone (by decide) h63 hby hlo _ rfl ?_)
          intro g5 cap w5 hown5 hgr5 hat5 hlt5
          have hb5 : Below w2.heap.size w2 w5 := hbB.grown hgr5 hlo hge
          have e2 : spVs (cutL ps k) ++ [Value.int .i64 (bnd ps k : Int), .int .i64 (bnd ps (k + 1) : Int)] = spVs (cutL ps (k + 1)) := by rw [cutL_succ, spVs_append, spVs_one]; rfl
          rw [e2] at hown5
          have hfin : SylSt ps w2 (.slice (some ⟨g5, 0, none⟩) (k + 1) cap) (.int .i64 (bnd ps (k + 1) : Int)) (.int .i64 ((k : Int) + 1 + 1)) w5 := ⟨k + 1, _, _, rfl, rfl, by rw [show ((k + 1 : Nat) : Int) = (k : Int) + 1 by omega], by omega, hown5, hb5⟩
          have HF3 := Lib.hid hfin
          clear hfin hown5 hgr5 hat5 hownB hnews hone e2
          go_wp2_with fail
          exact ⟨HF3.out, by simp [intOf]; omega⟩
        · obtain rfl : k = ps.length - 1 := by omega
          have hspan : spansL ps l.length = cutL ps (ps.length - 1) ++ [(bnd ps (ps.length - 1), l.length)] := by unfold spansL; rw [if_neg hz]
          rw [hspan] at HF
          have hk1 : ps.length - 1 + 1 = ps.length := by omega
          have hkl : ps.length - 1 ≤ 64 := by omega
          have hkc : ((ps.length - 1 : Nat) : Int) + 1 = (ps.length : Int) := by omega
          generalize ps.length - 1 = k at *
          have hal2 : Below wr.heap.size wr (wr.alloc (.cells #[.int .i64 (bnd ps k : Int), .int .i64 (l.length : Int)] 48)) := (Below.refl _ _).alloc (Nat.le_refl _) _
          have hownB := own_below hown hal2
          have hrN := Row.new wr 48 [.int .i64 (bnd ps k : Int), .int .i64 (l.length : Int)]
          have hnews := hrN.news
          have hone : ∀ u ∈ [Value.int .i64 (bnd ps k : Int), .int .i64 (l.length : Int)], u.oneCell' = true := by
            intro u hu
            simp only [List.mem_cons, List.not_mem_nil, or_false] at hu
            rcases hu with rfl | rfl <;> rfl
          have h63 : k + 1 ≤ maxLen := by unfold maxLen; omega
          have hby : (k + 1) * 16 ≤ 140737488355328 := by omega
          have hlo : w2.heap.size ≤ (wr.alloc (.cells #[.int .i64 (bnd ps k : Int), .int .i64 (l.length : Int)] 48)).heap.size := by have := hal2.size; omega
          have hbB : Below w2.heap.size w2 (wr.alloc (.cells #[.int .i64 (bnd ps k : Int), .int .i64 (l.length : Int)] 48)) := hb.trans (hal2.mono hbs)
          have hge := fun j hj => (hown.lt j hj).1
          clear hrN hal2 hown hup1 hup2
          go_wp2_with (at_builtin; refine wpList_append_lies _ rfl _ _ 42 rfl w2.heap.size 48 i1 (.agg #[.int .i64 0, .int .i64 0]) 2 16 Tryd.underlying42 hi1 hy0 hy1 hy2 rfl (by decide) (.slice Av k cv) k (spVs (cutL ps k)) rfl hownB ⟨wr.heap.size, 0, none⟩ 1 1 [.int .i64 (bnd ps k : Int), .int .i64 (l.length : Int)] rfl rfl hnews hone (by decide) h63 hby hlo _ rfl ?_)
          intro g5 cap w5 hown5 hgr5 hat5 hlt5
          have hb5 : Below w2.heap.size w2 w5 := hbB.grown hgr5 hlo hge
          have e1 : k + 1 = (cutL ps k ++ [(bnd ps k, l.length)]).length := by rw [List.length_append, cutL_len]; rfl
          have e2 : spVs (cutL ps k) ++ [Value.int .i64 (bnd ps k : Int), .int .i64 (l.length : Int)] = spVs (cutL ps k ++ [(bnd ps k, l.length)]) := by rw [spVs_append, spVs_one]; rfl
          rw [e2] at hown5
          rw [hk1] at e1
          try rw [hk1] at hown5
          try rw [hk1]
          rw [e1] at hown5
          rw [e1]
          have hfin : SpansOut (sylS a s p m) w (.returned (.tuple #[.slice (some ⟨g5, 0, none⟩) (cutL ps k ++ [(bnd ps k, l.length)]).length cap, .int .i64 0])) w5 := by
            rw [HF.out]
            exact ⟨_, _, rfl, own_low hown5 hz2, hbw2.trans (hb5.mono hz2)⟩
          have HF3 := Lib.hid hfin
          clear hfin hown5 hgr5 hat5 hownB hnews hone e2
          go_wp2_with fail
          go_ret2
          exact HF3.out
  · subst h2
    have hne : (F != 0) = true := by rw [bne_iff_ne]; omega
    have HF : Hid (sylS a s p m = ([], F)) := by show _ = _; rw [HT.out, if_pos h1]
    clear HT hlet
    go_enter Tryd.func23, Tryd.ntmps23
    go_wp2_with fail
    refine hcall.out.mono ?_
    rintro e w1 ⟨Ap, cp, rfl, hown1, hb1⟩
    have HF2 := Lib.hid (SpansOut.no (W := w) HF.out (hal.trans (hb1.mono (by simp))))
    clear hb1 hr0 hown1 hcall
    go_wp2_with fail
    go_ret2
    exact HF2.out
end Go.Proofs.YtfjccjjdgbkbiaaDoor
