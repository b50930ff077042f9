/- The document's Syllables. -/
import Derived.Test.YtfjccjjdgbkbiaaDoorWr28
import Derived.Laws.EntriesVeiled
namespace Go.Proofs.YtfjccjjdgbkbiaaDoor
open Go.RowKit
open Go.Lib (Utf8Tabs)
set_option linter.unusedVariables false

def spK (p : List Nat) (n k : Nat) : List (Nat × Nat) := if k = 0 then [] else cutL p (k - 1) ++ [(bnd p (k - 1), n)]
theorem spK_succ (p : List Nat) (n k : Nat) : spK p n (k + 1) = cutL p k ++ [(bnd p k, n)] := by
  unfold spK
  rw [if_neg (by omega), Nat.add_sub_cancel]
theorem spVs_set (l : List (Nat × Nat)) (x y z : Nat) : (spVs (l ++ [(x, y)])).set (l.length * 2 + 1) (.int .i64 (z : Int)) = spVs (l ++ [(x, z)]) := by
  rw [spVs_append, spVs_append, spVs_one, spVs_one, List.set_append_right _ _ (by rw [spVs_len]; omega), spVs_len, Nat.add_sub_cancel_left]
  rfl
def RSylSt (p : List Nat) (n : Nat) (W : World) (v i : Value) (wr : World) : Prop :=
  ∃ (k : Nat) (A : Option Addr) (c : Nat), v = .slice A k c ∧ i = .int .i64 (k : Int) ∧ k ≤ p.length ∧ wr.ownsRow W.heap.size 48 2 (.slice A k c) k (spVs (spK p n k)) ∧ Below W.heap.size W wr

set_option maxHeartbeats 4000000 in
set_option maxRecDepth 100000 in
theorem rsyl_any (A1 A2 : Option Addr) (c1 c2 lo : Nat) (a : Al) (s : ByteArray) (p m : Nat) (w : World) (hin : AlIn w lo w.heap.size A1 A2 a) (hT : Utf8Tabs 0 1 w) (hs : s.size ≤ maxLen) (hp : p < 4294967296) (hm : m < 4294967296) :
    Calls Tryd.prog 24 #[.agg #[.slice A1 a.feats.length c1, .slice A2 a.lets.length c2], .string s, .int .u32 (p : Int), .int .u32 (m : Int)] w (SpansOut (sylS a s p m) w) := by
  obtain ⟨i1, hi1, hy0, hy1, hy2⟩ := info_parts span_info
  have hal : Below w.heap.size w (w.alloc (.cells #[.slice A1 a.feats.length c1, .slice A2 a.lets.length c2] 25)) := (Below.refl _ _).alloc (Nat.le_refl _) _
  have hr0 := Row.new w 25 [.slice A1 a.feats.length c1, .slice A2 a.lets.length c2]
  have hcall := Lib.hid (rpeaks_any A1 A2 c1 c2 lo a s p m _ (hin.on hal) (Utf8Tabs_below hT hal) hs hp hm)
  have HT : Hid (sylS a s p m = if (peaksS a s p m).2 ≠ 0 then ([], (peaksS a s p m).2) else (spansL (peaksS a s p m).1 (lettersS a s).1.length, 0)) := rfl
  have hup := peaks_up a s p m
  have herr := peaks_err a s p m
  have hlen := letters_len a s
  have hco := @letters_count a s
  have hsi := @letters_size a s
  generalize lettersS a s = R at *
  generalize peaksS a s p m = P at *
  obtain ⟨l, E⟩ := R
  obtain ⟨ps, F⟩ := P
  simp only at *
  obtain ⟨hup1, hup2, hup3⟩ := hup
  rcases herr with ⟨h0, h1⟩ | ⟨h1, h2, h3, h4⟩
  · subst h0 h1
    have hss := hsi rfl
    have hcc := hco rfl
    have hrc := fun w' => Tryd.utf8_RuneCountInString s w' (by omega)
    rw [runeCount_eq, hcc] at hrc
    have HRC := Lib.hid hrc
    clear hrc hsi hco hcc
    have HF : Hid (sylS a s p m = (spK ps l.length ps.length, 0)) := by
      show _ = _
      rw [HT.out, if_neg (by simp)]
      rfl
    clear HT
    go_enter Tryd.func24, Tryd.ntmps24
    go_wp2_with fail
    refine hcall.out.mono ?_
    rintro e w2 ⟨Ap, cp, rfl, hown1, hb1⟩
    have hbw2 := hal.trans (hb1.mono (by simp))
    have hz2 := hbw2.size
    have hst : RSylSt ps l.length w2 (.slice none 0 0) (.int .i64 0) w2 := ⟨0, none, 0, rfl, rfl, by omega, World.ownsRow_nil _ _ _ _, Below.refl _ _⟩
    have HST := Lib.hid hst
    clear hst hcall hb1 hal hr0
    go_wp2_with fail
    go_loopw [12, 13] (fun v i wr => RSylSt ps l.length w2 v i wr) (fun _ i _ => ps.length - (intOf i).toNat)
    case atStart => exact HST.out
    case round =>
      clear HST
      obtain ⟨k, Av, cv, rfl, rfl, hk, hown, hb⟩ := hrel
      have hbs := hb.size
      have hown1r := own_below hown1 hb
      by_cases hlt : k < ps.length
      · cases k with
        | zero =>
          have hbd := hb
          have hownd : wr.ownsRow w2.heap.size 48 2 (.slice Av 0 cv) 0 (spVs (cutL ps 0)) := hown
          generalize wr = wd at *
          clear hown hb hown1r hown1
          have hbsd := hbd.size
          go_wp2_with fail
          refine (HRC.out _).mono ?_
          rintro e w' ⟨rfl, pos, rfl⟩
          have hbe : Below w2.heap.size w2 (wd.iter s pos) := below_iter hbd hbsd _ _
          have howne := own_below hownd (below_iter (Below.refl _ _) (Nat.le_refl _) s pos)
          generalize wd.iter s pos = we at *
          have hbse := hbe.size
          have hal2 : Below we.heap.size we (we.alloc (.cells #[.int .i64 0, .int .i64 (l.length : Int)] 48)) := (Below.refl _ _).alloc (Nat.le_refl _) _
          have hownB := own_below howne hal2
          have hrN := Row.new we 48 [.int .i64 0, .int .i64 (l.length : Int)]
          have hnews := hrN.news
          have hone : ∀ u ∈ [Value.int .i64 0, .int .i64 (l.length : Int)], u.oneCell' = true := by
            intro u hu
            simp only [List.mem_cons, List.not_mem_nil, or_false] at hu
            rcases hu with rfl | rfl <;> rfl
          have h63 : 0 + 1 ≤ maxLen := by unfold maxLen; omega
          have hby : (0 + 1) * 16 ≤ 140737488355328 := by omega
          have hlo : w2.heap.size ≤ (we.alloc (.cells #[.int .i64 0, .int .i64 (l.length : Int)] 48)).heap.size := by have := hal2.size; omega
          have hbB : Below w2.heap.size w2 (we.alloc (.cells #[.int .i64 0, .int .i64 (l.length : Int)] 48)) := hbe.trans (hal2.mono hbse)
          have hge := fun j hj => (howne.lt j hj).1
          clear hrN hal2 howne hownd
          go_wp2_with (at_builtin; refine wpList_append_lies _ rfl _ _ 42 rfl w2.heap.size 48 i1 (.agg #[.int .i64 0, .int .i64 0]) 2 16 Tryd.underlying42 hi1 hy0 hy1 hy2 rfl (by decide) (.slice Av 0 cv) (0) (spVs (cutL ps (0))) rfl hownB ⟨we.heap.size, 0, none⟩ 1 1 [.int .i64 0, .int .i64 (l.length : Int)] rfl rfl hnews hone (by decide) h63 hby hlo _ rfl ?_)
          intro g5 cap w5 hown5 hgr5 hat5 hlt5
          have hb5 : Below w2.heap.size w2 w5 := hbB.grown hgr5 hlo hge
          have e2 : spVs (cutL ps (0)) ++ [Value.int .i64 0, .int .i64 (l.length : Int)] = spVs (spK ps l.length (0 + 1)) := by rw [spK_succ, spVs_append, spVs_one]; rfl
          rw [e2] at hown5
          have hfin : RSylSt ps l.length w2 (.slice (some ⟨g5, 0, none⟩) (0 + 1) cap) (.int .i64 ((0 + 1 : Nat) : Int)) w5 := ⟨0 + 1, _, _, rfl, rfl, by omega, hown5, hb5⟩
          have HF3 := Lib.hid hfin
          clear hfin hown5 hgr5 hat5 hownB hnews hone e2
          go_wp2_with fail
          exact ⟨HF3.out, by simp [intOf]; omega⟩
        | succ j =>
          rw [spK_succ] at hown
          obtain ⟨g, rfl, _, hg, ⟨x0, y0⟩⟩ := own_int hown1r hlt
          obtain ⟨g', e', _, _, ⟨x1, y1⟩⟩ := own_int hown1r (show j < ps.length by omega)
          injection e' with e'
          injection e' with e'
          subst e'
          have hbn := bnd_succ ps j hlt
          have hlt2 := List.pairwise_iff_getElem.1 hup1 j (j + 1) (by omega) hlt (by omega)
          have hx64 := hup2 ps[j + 1] (List.getElem_mem hlt)
          generalize ps[j + 1] = x at *
          generalize ps[j] = y at *
          obtain ⟨gv, c', e, _, _, hgv1, hgv2⟩ := own_pos hown (by omega)
          injection e with e1 _ e2
          subst e1 e2
          obtain ⟨q1, f1⟩ := own_cel hown (j := j * 2 + 1) (u := .int .i64 (l.length : Int)) (by
            rw [spVs_append, spVs_one, List.getElem?_append_right (by rw [spVs_len, cutL_len]; omega), spVs_len, cutL_len, Nat.add_sub_cancel_left]
            rfl)
          have hset := own_set hown (g := gv) rfl (j := j * 2 + 1) (by rw [spVs_append, List.length_append, spVs_len, cutL_len, spVs_one]; show _ < _ + 2; omega) (.int .i64 (bnd ps (j + 1) : Int))
          have hse := spVs_set (cutL ps j) (bnd ps j) l.length (bnd ps (j + 1))
          rw [cutL_len] at hse
          rw [hse, ← cutL_succ] at hset
          have HW : Hid (∀ wq : World, wq.heap = wr.heap → (wq.setCell ⟨gv, j * 2 + 1, none⟩ (.int .i64 (bnd ps (j + 1) : Int))).ownsRow w2.heap.size 48 2 (.slice (some ⟨gv, 0, none⟩) (j + 1) cv) (j + 1) (spVs (cutL ps (j + 1)))) := by
            show ∀ _, _
            intro wq hq
            exact own_same hset fun b _ => by
              show (wq.setCell _ _).heap[b]? = (wr.setCell _ _).heap[b]?
              rw [World.setCell, World.setCell, hq]
          have HBW : Hid (Below w2.heap.size w2 (wr.drew.setCell ⟨gv, j * 2 + 1, none⟩ (.int .i64 (bnd ps (j + 1) : Int)))) := (below_drewN hb 1).setCell (by exact hgv1) _
          have j0 : 0 ≤ (j : Int) := by omega
          have j1 : (j : Int) + 1 < (ps.length : Int) := by omega
          clear hset hse hown hown1
          by_cases hc : y + 1 < x
          · have hB : ((bnd ps (j + 1) : Nat) : Int) = (x : Int) - 1 := by rw [hbn]; omega
            have hgt : (y : Int) < (x : Int) - 1 := by omega
            have HWB : (wr.setCell ⟨gv, j * 2 + 1, none⟩ (.int .i64 ((x : Int) - 1))).drew.ownsRow w2.heap.size 48 2 (.slice (some ⟨gv, 0, none⟩) (j + 1) cv) (j + 1) (spVs (cutL ps (j + 1))) := by
              have h := HW.out wr rfl
              rw [hB] at h
              exact own_same h fun _ _ => rfl
            have HQQ : Below w2.heap.size w2 (wr.setCell ⟨gv, j * 2 + 1, none⟩ (.int .i64 ((x : Int) - 1))).drew := below_drewN (hb.setCell hgv1 _) 1
            have hownd := Lib.hid HWB
            have hbd := Lib.hid HQQ
            clear HWB HQQ HW HBW hbn
            go_wp2_with fail
            go_region
            all_goals go_wp2_with fail
            replace hownd := hownd.out
            replace hbd := hbd.out
            clear x0 x1 y0 y1 q1 f1 hown1r
            generalize (wr.setCell ⟨gv, j * 2 + 1, none⟩ (.int .i64 ((x : Int) - 1))).drew = wd at *
            have hbsd := hbd.size
            refine (HRC.out _).mono ?_
            rintro e w' ⟨rfl, pos, rfl⟩
            have hbe : Below w2.heap.size w2 (wd.iter s pos) := below_iter hbd hbsd _ _
            have howne := own_below hownd (below_iter (Below.refl _ _) (Nat.le_refl _) s pos)
            generalize wd.iter s pos = we at *
            have hbse := hbe.size
            have hal2 : Below we.heap.size we (we.alloc (.cells #[.int .i64 ((x : Int) - 1), .int .i64 (l.length : Int)] 48)) := (Below.refl _ _).alloc (Nat.le_refl _) _
            have hownB := own_below howne hal2
            have hrN := Row.new we 48 [.int .i64 ((x : Int) - 1), .int .i64 (l.length : Int)]
            have hnews := hrN.news
            have hone : ∀ u ∈ [Value.int .i64 ((x : Int) - 1), .int .i64 (l.length : Int)], u.oneCell' = true := by
              intro u hu
              simp only [List.mem_cons, List.not_mem_nil, or_false] at hu
              rcases hu with rfl | rfl <;> rfl
            have h63 : (j + 1) + 1 ≤ maxLen := by unfold maxLen; omega
            have hby : ((j + 1) + 1) * 16 ≤ 140737488355328 := by omega
            have hlo : w2.heap.size ≤ (we.alloc (.cells #[.int .i64 ((x : Int) - 1), .int .i64 (l.length : Int)] 48)).heap.size := by have := hal2.size; omega
            have hbB : Below w2.heap.size w2 (we.alloc (.cells #[.int .i64 ((x : Int) - 1), .int .i64 (l.length : Int)] 48)) := hbe.trans (hal2.mono hbse)
            have hge := fun j hj => (howne.lt j hj).1
            clear hrN hal2 howne hownd
            go_wp2_with (at_builtin; refine wpList_append_lies _ rfl _ _ 42 rfl w2.heap.size 48 i1 (.agg #[.int .i64 0, .int .i64 0]) 2 16 Tryd.underlying42 hi1 hy0 hy1 hy2 rfl (by decide) (.slice (some ⟨gv, 0, none⟩) (j + 1) cv) ((j + 1)) (spVs (cutL ps ((j + 1)))) rfl hownB ⟨we.heap.size, 0, none⟩ 1 1 [.int .i64 ((x : Int) - 1), .int .i64 (l.length : Int)] rfl rfl hnews hone (by decide) h63 hby hlo _ rfl ?_)
            intro g5 cap w5 hown5 hgr5 hat5 hlt5
            have hb5 : Below w2.heap.size w2 w5 := hbB.grown hgr5 hlo hge
            have e2 : spVs (cutL ps ((j + 1))) ++ [Value.int .i64 ((x : Int) - 1), .int .i64 (l.length : Int)] = spVs (spK ps l.length ((j + 1) + 1)) := by rw [spK_succ, spVs_append, spVs_one]; show _ ++ [Value.int .i64 _, _] = _ ++ [Value.int .i64 ((bnd ps (j + 1) : Nat) : Int), _]; rw [hB]
            rw [e2] at hown5
            have hfin : RSylSt ps l.length w2 (.slice (some ⟨g5, 0, none⟩) ((j + 1) + 1) cap) (.int .i64 ((j : Int) + 1 + 1)) w5 := ⟨(j + 1) + 1, _, _, rfl, by rw [show ((j + 1 + 1 : Nat) : Int) = (j : Int) + 1 + 1 by omega], by omega, hown5, hb5⟩
            have HF3 := Lib.hid hfin
            clear hfin hown5 hgr5 hat5 hownB hnews hone e2
            go_wp2_with fail
            exact ⟨HF3.out, by simp [intOf]; omega⟩
          · have hB : ((bnd ps (j + 1) : Nat) : Int) = (x : Int) := by rw [hbn]; omega
            have hgt : ¬ (y : Int) < (x : Int) - 1 := by omega
            have HWB : (wr.setCell ⟨gv, j * 2 + 1, none⟩ (.int .i64 (x : Int))).drew.ownsRow w2.heap.size 48 2 (.slice (some ⟨gv, 0, none⟩) (j + 1) cv) (j + 1) (spVs (cutL ps (j + 1))) := by
              have h := HW.out wr rfl
              rw [hB] at h
              exact own_same h fun _ _ => rfl
            have HQQ : Below w2.heap.size w2 (wr.setCell ⟨gv, j * 2 + 1, none⟩ (.int .i64 (x : Int))).drew := below_drewN (hb.setCell hgv1 _) 1
            have hownd := Lib.hid HWB
            have hbd := Lib.hid HQQ
            clear HWB HQQ HW HBW hbn
            go_wp2_with fail
            go_region
            all_goals go_wp2_with fail
            replace hownd := hownd.out
            replace hbd := hbd.out
            clear x0 x1 y0 y1 q1 f1 hown1r
            generalize (wr.setCell ⟨gv, j * 2 + 1, none⟩ (.int .i64 (x : Int))).drew = wd at *
            have hbsd := hbd.size
            refine (HRC.out _).mono ?_
            rintro e w' ⟨rfl, pos, rfl⟩
            have hbe : Below w2.heap.size w2 (wd.iter s pos) := below_iter hbd hbsd _ _
            have howne := own_below hownd (below_iter (Below.refl _ _) (Nat.le_refl _) s pos)
            generalize wd.iter s pos = we at *
            have hbse := hbe.size
            have hal2 : Below we.heap.size we (we.alloc (.cells #[.int .i64 (x : Int), .int .i64 (l.length : Int)] 48)) := (Below.refl _ _).alloc (Nat.le_refl _) _
            have hownB := own_below howne hal2
            have hrN := Row.new we 48 [.int .i64 (x : Int), .int .i64 (l.length : Int)]
            have hnews := hrN.news
            have hone : ∀ u ∈ [Value.int .i64 (x : Int), .int .i64 (l.length : Int)], u.oneCell' = true := by
              intro u hu
              simp only [List.mem_cons, List.not_mem_nil, or_false] at hu
              rcases hu with rfl | rfl <;> rfl
            have h63 : (j + 1) + 1 ≤ maxLen := by unfold maxLen; omega
            have hby : ((j + 1) + 1) * 16 ≤ 140737488355328 := by omega
            have hlo : w2.heap.size ≤ (we.alloc (.cells #[.int .i64 (x : Int), .int .i64 (l.length : Int)] 48)).heap.size := by have := hal2.size; omega
            have hbB : Below w2.heap.size w2 (we.alloc (.cells #[.int .i64 (x : Int), .int .i64 (l.length : Int)] 48)) := hbe.trans (hal2.mono hbse)
            have hge := fun j hj => (howne.lt j hj).1
            clear hrN hal2 howne hownd
            go_wp2_with (at_builtin; refine wpList_append_lies _ rfl _ _ 42 rfl w2.heap.size 48 i1 (.agg #[.int .i64 0, .int .i64 0]) 2 16 Tryd.underlying42 hi1 hy0 hy1 hy2 rfl (by decide) (.slice (some ⟨gv, 0, none⟩) (j + 1) cv) ((j + 1)) (spVs (cutL ps ((j + 1)))) rfl hownB ⟨we.heap.size, 0, none⟩ 1 1 [.int .i64 (x : Int), .int .i64 (l.length : Int)] rfl rfl hnews hone (by decide) h63 hby hlo _ rfl ?_)
            intro g5 cap w5 hown5 hgr5 hat5 hlt5
            have hb5 : Below w2.heap.size w2 w5 := hbB.grown hgr5 hlo hge
            have e2 : spVs (cutL ps ((j + 1))) ++ [Value.int .i64 (x : Int), .int .i64 (l.length : Int)] = spVs (spK ps l.length ((j + 1) + 1)) := by rw [spK_succ, spVs_append, spVs_one]; show _ ++ [Value.int .i64 _, _] = _ ++ [Value.int .i64 ((bnd ps (j + 1) : Nat) : Int), _]; rw [hB]
            rw [e2] at hown5
            have hfin : RSylSt ps l.length w2 (.slice (some ⟨g5, 0, none⟩) ((j + 1) + 1) cap) (.int .i64 ((j : Int) + 1 + 1)) w5 := ⟨(j + 1) + 1, _, _, rfl, by rw [show ((j + 1 + 1 : Nat) : Int) = (j : Int) + 1 + 1 by omega], by omega, hown5, hb5⟩
            have HF3 := Lib.hid hfin
            clear hfin hown5 hgr5 hat5 hownB hnews hone e2
            go_wp2_with fail
            exact ⟨HF3.out, by simp [intOf]; omega⟩
      · obtain rfl : k = ps.length := by omega
        have hfin : SpansOut (sylS a s p m) w (.returned (.tuple #[.slice Av ps.length cv, .int .i64 0])) wr := by
          rw [HF.out]
          have hle : (spK ps l.length ps.length).length = ps.length := by
            unfold spK
            split
            · simp only [List.length_nil]; omega
            · rw [List.length_append, cutL_len]; simp only [List.length_cons, List.length_nil]; omega
          refine ⟨Av, cv, by rw [hle], ?_, hbw2.trans (hb.mono hz2)⟩
          simp only [hle]
          exact own_low hown hz2
        have HF3 := Lib.hid hfin
        clear hfin hown
        go_wp2_with fail
        go_ret2
        exact HF3.out
  · subst h2
    have hne : (F != 0) = true := by rw [bne_iff_ne]; omega
    have HF : Hid (sylS a s p m = ([], F)) := by show _ = _; rw [HT.out, if_pos h1]
    clear HT hco hsi
    go_enter Tryd.func24, Tryd.ntmps24
    go_wp2_with fail
    refine hcall.out.mono ?_
    rintro e w1 ⟨Ap, cp, rfl, hown1, hb1⟩
    have HF2 := Lib.hid (SpansOut.no (W := w) HF.out (hal.trans (hb1.mono (by simp))))
    clear hb1 hr0 hown1 hcall
    go_wp2_with fail
    go_ret2
    exact HF2.out
end Go.Proofs.YtfjccjjdgbkbiaaDoor
