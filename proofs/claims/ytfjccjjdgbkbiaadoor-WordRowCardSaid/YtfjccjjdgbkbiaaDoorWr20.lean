/- A class's letters: the document's Class. -/
import Derived.Test.YtfjccjjdgbkbiaaDoorWr18
namespace Go.Proofs.YtfjccjjdgbkbiaaDoor
open Go.RowKit
open Go.Lib (Utf8Tabs)
set_option linter.unusedVariables false

set_option maxHeartbeats 2000000 in
theorem asked_nil (A1 A2 : Option Addr) (c1 c2 lo : Nat) (a : Al) (w : World) (hin : AlIn w lo w.heap.size A1 A2 a) :
    Calls Tryd.prog 74 #[.agg #[.slice A1 a.feats.length c1, .slice A2 a.lets.length c2], .slice none 0 0] w fun e w' => e = .returned (.int .i64 (alE a)) ∧ Below w.heap.size w w' := by
  have hal : Below w.heap.size w (w.alloc (.cells #[.slice A1 a.feats.length c1, .slice A2 a.lets.length c2] 25)) := (Below.refl _ _).alloc (Nat.le_refl _) _
  have hcall := Lib.hid (rcheck_any A1 A2 c1 c2 lo a _ (hin.on hal))
  cases hok : alOk a with
  | false =>
    have he : alE a = 7 := by unfold alE; rw [hok]; rfl
    rw [he] at hcall ⊢
    clear hok he
    go_enter Tryd.func74, Tryd.ntmps74
    go_wp2_with fail
    refine hcall.out.mono ?_
    rintro e w1 ⟨rfl, hb1⟩
    go_wp2_with fail
    go_ret
    exact ⟨rfl, hal.trans (hb1.mono (by simp))⟩
  | true =>
    have he : alE a = 0 := alE_zero.2 hok
    rw [he] at hcall ⊢
    clear hok he
    go_enter Tryd.func74, Tryd.ntmps74
    go_wp2_with fail
    refine hcall.out.mono ?_
    rintro e w1 ⟨rfl, hb1⟩
    have hb2 := hal.trans (hb1.mono (by simp))
    clear hcall hb1 hal
    go_wp2_with fail
    refine wp_loop_rounds 1 ?_
    rw [rounds_succ]
    go_wp2_with fail
    go_ret
    exact ⟨rfl, hb2⟩

set_option maxHeartbeats 4000000 in
set_option maxRecDepth 100000 in
theorem rclass_any (A1 A2 : Option Addr) (c1 c2 lo : Nat) (a : Al) (p m : Nat) (w : World) (hin : AlIn w lo w.heap.size A1 A2 a) (hp : p < 4294967296) (hm : m < 4294967296) :
    Calls Tryd.prog 49 #[.agg #[.slice A1 a.feats.length c1, .slice A2 a.lets.length c2], .int .u32 (p : Int), .int .u32 (m : Int)] w (ReadOut (classS a p m) w) := by
  obtain ⟨i1, hi1, hy0, hy1, hy2⟩ := info_parts rune_info
  have hal : Below w.heap.size w (w.alloc (.cells #[.slice A1 a.feats.length c1, .slice A2 a.lets.length c2] 25)) := (Below.refl _ _).alloc (Nat.le_refl _) _
  have hr0 := Row.new w 25 [.slice A1 a.feats.length c1, .slice A2 a.lets.length c2]
  have hcall := Lib.hid (asked_nil A1 A2 c1 c2 lo a _ (hin.on hal))
  have HT : Hid (classS a p m = if alOk a = false then ([], 7) else if classOk a.feats.length p m then (clsL a.lets p m, 0) else ([], 20)) := rfl
  cases hok : alOk a with
  | false =>
    have he : alE a = 7 := by unfold alE; rw [hok]; rfl
    rw [he] at hcall
    have HF : Hid (classS a p m = ([], 7)) := by show _ = _; rw [HT.out, if_pos hok]
    clear hok he HT
    go_enter Tryd.func49, Tryd.ntmps49
    go_wp2_with fail
    refine hcall.out.mono ?_
    rintro e w1 ⟨rfl, hb1⟩
    go_wp2_with fail
    go_ret2
    exact ReadOut.no HF.out (hal.trans (hb1.mono (by simp)))
  | true =>
    have he : alE a = 0 := alE_zero.2 hok
    rw [he] at hcall
    have hsz := alOk_size hok
    have hwi := Lib.hid (fun w => may_any A1 A2 a.feats.length c1 a.lets.length c2 p m w hsz.1 hp hm)
    cases hcl : classOk a.feats.length p m with
    | false =>
      rw [hcl] at hwi
      have HF : Hid (classS a p m = ([], 20)) := by show _ = _; rw [HT.out, if_neg (by rw [hok]; simp), hcl]; rfl
      clear hok he HT hcl
      go_enter Tryd.func49, Tryd.ntmps49
      go_wp2_with fail
      refine hcall.out.mono ?_
      rintro e w1 ⟨rfl, hb1⟩
      have hr1 := hr0.below hb1 hr0.lt
      have hbw1 := hal.trans (hb1.mono (by simp))
      have hl1 := hr1.lt
      obtain ⟨q0, f0⟩ := hr1.cel (i := 0) rfl
      obtain ⟨q1, f1⟩ := hr1.cel (i := 1) rfl
      clear hcall hb1
      go_wp2_with fail
      refine (hwi.out _).mono ?_
      rintro e w2 ⟨rfl, hb2⟩
      have HF2 := Lib.hid (ReadOut.no (W := w) HF.out (hbw1.trans (hb2.mono hbw1.size)))
      clear hb2 hr1 q0 f0 q1 f1 hbw1 hr0
      go_wp2_with fail
      go_ret2
      exact HF2.out
    | true =>
      rw [hcl] at hwi
      have HF : Hid (classS a p m = (clsL a.lets p m, 0)) := by show _ = _; rw [HT.out, if_neg (by rw [hok]; simp), hcl]; rfl
      clear hok he HT hcl
      go_enter Tryd.func49, Tryd.ntmps49
      go_wp2_with fail
      refine hcall.out.mono ?_
      rintro e w1 ⟨rfl, hb1⟩
      have hr1 := hr0.below hb1 hr0.lt
      have hbw1 := hal.trans (hb1.mono (by simp))
      have hl1 := hr1.lt
      obtain ⟨q0, f0⟩ := hr1.cel (i := 0) rfl
      obtain ⟨q1, f1⟩ := hr1.cel (i := 1) rfl
      clear hcall hb1
      go_wp2_with fail
      refine (hwi.out _).mono ?_
      rintro e w2 ⟨rfl, hb2⟩
      have hr2 := hr1.below hb2 hl1
      have hbw2 := hbw1.trans (hb2.mono hbw1.size)
      have hl2 := hr2.lt
      have hz2 := hbw2.size
      clear q0 f0 q1 f1 hr0 hb2 hr1 hbw1 hal hwi
      obtain ⟨q1, f1⟩ := hr2.cel (i := 1) rfl
      have hst : ClassSt a.lets p m w2 (.slice none 0 0) (.int .i64 0) w2 := ⟨0, [], none, 0, rfl, rfl, by omega, rfl, World.ownsRow_nil _ _ _ _, Below.refl _ _⟩
      have HST := Lib.hid hst
      clear hst
      go_wp2_with fail
      go_loopw [9, 10] (fun v i wr => ClassSt a.lets p m w2 v i wr) (fun _ i _ => a.lets.length - (intOf i).toNat)
      case atStart => exact HST.out
      case round =>
        clear HST q1 f1
        obtain ⟨k, acc, Av, cv, rfl, rfl, hk, hacc, hown, hb⟩ := hrel
        have hbs := hb.size
        have hr3 := hr2.below hb hl2
        have hl3 := hr3.lt
        obtain ⟨q1, f1⟩ := hr3.cel (i := 1) rfl
        by_cases hlt : k < a.lets.length
        · have hlt0 := hlt
          obtain ⟨b, off, rfl, _, hbb, ⟨x0, y0⟩, ⟨x1, y1⟩, ⟨x2, y2⟩, hrr, hpp, hmm'⟩ := lt_at (hin.l.below vLt_good (hbw2.trans (hb.mono hz2)) (Nat.le_refl _)) hlt
          have hsn := clsL_snoc (p := p) (m := m) hlt
          have hacl : acc.length ≤ 128 := by
            have h1 := clsL_len (a.lets.take k) p m
            rw [← hacc, List.length_take] at h1
            omega
          rw [← hacc] at hsn
          have hlk := Lib.hid (fun w => rlike_any a.lets[k] p m w ⟨hrr, hpp, hmm'⟩ hp hm)
          generalize a.lets[k] = l at *
          have hSN := Lib.hid hsn
          clear hsn hacc
          go_wp2_with fail
          refine (hlk.out _).mono ?_
          rintro e w3 ⟨rfl, hb3⟩
          have hb3' : Below w2.heap.size w2 w3 := hb.trans (hb3.mono hbs)
          have hown3 := own_below hown hb3
          obtain ⟨z0, g0⟩ := Cel.keep (Kp.of_below hb3) (Nat.zero_le _) (by omega) ⟨x0, y0⟩
          have hr4 := hr3.below hb3 hl3
          have hl4 := hr4.lt
          obtain ⟨q2, f2⟩ := hr4.cel (i := 1) rfl
          have hbl : b < w3.heap.size := by have := hb3.size; omega
          clear x0 y0 x1 y1 x2 y2 hb3 hlk q1 f1
          cases hL : likeL l p m with
          | false =>
            rw [hL] at hSN
            have hfin : ClassSt a.lets p m w2 (.slice Av acc.length cv) (.int .i64 ((k + 1 : Nat) : Int)) w3 := ⟨k + 1, acc, Av, cv, rfl, rfl, by omega, by rw [hSN.out]; rfl, hown3, hb3'⟩
            have HF3 := Lib.hid hfin
            clear hfin hown3 hown hb3' hSN
            go_wp2_with fail
            exact ⟨HF3.out, by simp [intOf]; omega⟩
          | true =>
            rw [hL] at hSN
            have hal2 : Below w3.heap.size w3 (w3.alloc (.cells #[.int .i32 l.rune] 21)) := (Below.refl _ _).alloc (Nat.le_refl _) _
            have hownB := own_below hown3 hal2
            have hrN := Row.new w3 21 [.int .i32 l.rune]
            have hnews := hrN.news
            have hone : ∀ u ∈ [Value.int .i32 l.rune], u.oneCell' = true := by intro u hu; rw [List.mem_singleton.1 hu]; rfl
            have h63 : acc.length + 1 ≤ maxLen := by unfold maxLen; omega
            have hby : (acc.length + 1) * 4 ≤ 140737488355328 := by omega
            have hlo : w2.heap.size ≤ (w3.alloc (.cells #[.int .i32 l.rune] 21)).heap.size := by have := hal2.size; have := hb3'.size; omega
            have hbB : Below w2.heap.size w2 (w3.alloc (.cells #[.int .i32 l.rune] 21)) := hb3'.trans (hal2.mono hb3'.size)
            have hge := fun j hj => (hown3.lt j hj).1
            clear hrN hal2 hown3 hown
            go_wp2_with (at_builtin; refine wpList_append_lies _ rfl _ _ 26 rfl w2.heap.size 21 i1 (.int .i32 0) 1 4 Tryd.underlying26 hi1 hy0 hy1 hy2 rfl (by decide) (.slice Av acc.length cv) acc.length (runeVs acc) rfl hownB ⟨w3.heap.size, 0, none⟩ 1 1 [.int .i32 l.rune] rfl rfl hnews hone (by decide) h63 hby hlo _ rfl ?_)
            intro g cap w5 hown5 hgr5 hat5 hlt5
            have hb5 : Below w2.heap.size w2 w5 := hbB.grown hgr5 hlo hge
            have e1 : acc.length + 1 = (acc ++ [l.rune]).length := by simp
            have e2 : runeVs acc ++ [.int .i32 l.rune] = runeVs (acc ++ [l.rune]) := by unfold runeVs; simp
            rw [e1, e2] at hown5
            rw [e1]
            have hfin : ClassSt a.lets p m w2 (.slice (some ⟨g, 0, none⟩) (acc ++ [l.rune]).length cap) (.int .i64 ((k + 1 : Nat) : Int)) w5 := ⟨k + 1, acc ++ [l.rune], _, _, rfl, rfl, by omega, by rw [hSN.out]; rfl, hown5, hb5⟩
            have HF3 := Lib.hid hfin
            clear hfin hown5 hgr5 hat5 hownB hnews hone e1 e2 hSN
            go_wp2_with fail
            exact ⟨HF3.out, by simp [intOf]; omega⟩
        · obtain rfl : k = a.lets.length := by omega
          have hRR : classS a p m = (acc, 0) := by rw [HF.out, hacc, List.take_length]
          have hfin : ReadOut (classS a p m) w (.returned (.tuple #[.slice Av acc.length cv, .int .i64 0])) wr := by
            rw [hRR]
            exact ⟨Av, cv, rfl, own_low hown hz2, hbw2.trans (hb.mono hz2)⟩
          have HF3 := Lib.hid hfin
          clear hfin hown hRR hacc
          go_wp2_with fail
          go_ret2
          exact HF3.out
end Go.Proofs.YtfjccjjdgbkbiaaDoor
