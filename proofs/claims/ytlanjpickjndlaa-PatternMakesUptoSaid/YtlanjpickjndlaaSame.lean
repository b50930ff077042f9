/- Same, the program's and the document's, walked. -/
import Derived.Test.YtlanjpickjndlaaSameIn
import Derived.Test.YtlanjpickjndlaaTree
import Derived.Test.YtlanjpickjndlaaTurn
import Derived.Laws.EntriesVeiled
namespace Go.Proofs.Ytlanjpickjndlaa
open Go.RowKit
set_option linter.unusedVariables false

theorem two_boxes (w : World) (t : TypeId) (l m : List Value) : Row ((w.alloc (.cells l.toArray t)).alloc (.cells m.toArray t)) w.heap.size t l ∧ Row ((w.alloc (.cells l.toArray t)).alloc (.cells m.toArray t)) (w.heap.size + 1) t m ∧ Below w.heap.size w ((w.alloc (.cells l.toArray t)).alloc (.cells m.toArray t)) :=
  ⟨(two_new w t l m).1, (two_new w t l m).2.1, (two_new w t l m).2.2.os, (two_new w t l m).2.2.tape, (two_new w t l m).2.2.output, (two_new w t l m).2.2.size, (two_new w t l m).2.2.block⟩

set_option maxHeartbeats 4000000 in
set_option maxRecDepth 100000 in
theorem same_any (A A' : Option Addr) (c c' lo hi lo' hi' : Nat) (ps qs : List Nd) (w : World) (hm : ps.length ≤ 9223372036854775807) (hm' : qs.length ≤ 9223372036854775807) (hhi : hi ≤ w.heap.size) (hhi' : hi' ≤ w.heap.size) (hsl : Sl 5 vNd w lo hi A ps) (hsl' : Sl 5 vNd w lo' hi' A' qs) :
    Calls Try.prog 23 #[.agg #[.slice A ps.length c], .agg #[.slice A' qs.length c']] w fun e w' => e = .returned (.bool (sameB ps qs)) ∧ Below w.heap.size w w' := by
  obtain ⟨hr1, hr2, hb⟩ := two_boxes w 25 [.slice A ps.length c] [.slice A' qs.length c']
  have hbs := hb.size
  go_enter Try.func23, Try.ntmps23
  go_wp2_with fail
  refine (tree_any A c lo hi ps _ hm (by omega) (hsl.below vNd_good hb hhi)).mono ?_
  rintro e w1 ⟨rfl, hb1⟩
  have hbw := hb.trans (hb1.mono hbs)
  have hr3 := hr1.below hb1 hr1.lt
  have hr4 := hr2.below hb1 hr2.lt
  obtain ⟨c3, f3⟩ := hr3.cel (i := 0) rfl
  obtain ⟨c4, f4⟩ := hr4.cel (i := 0) rfl
  have hbs1 := hbw.size
  clear hr1 hr2 hb hb1 hbs
  cases hp : treeB ps with
  | false =>
    have hF := Lib.hid (sameB_p (qs := qs) hp)
    go_wp2_with fail
    go_ret
    exact ⟨by rw [hF.out]; rfl, hbw⟩
  | true =>
    go_wp2_with fail
    refine (tree_any A' c' lo' hi' qs _ hm' (by omega) (hsl'.below vNd_good hbw hhi')).mono ?_
    rintro e w2 ⟨rfl, hb2⟩
    have hbw2 := hbw.trans (hb2.mono hbs1)
    have hr5 := hr3.below hb2 hr3.lt
    have hr6 := hr4.below hb2 hr4.lt
    obtain ⟨c5, f5⟩ := hr5.cel (i := 0) rfl
    obtain ⟨c6, f6⟩ := hr6.cel (i := 0) rfl
    have hbs2 := hbw2.size
    clear hr3 hr4 hb2 hbs1 hbw c3 c4 f3 f4
    cases hq : treeB qs with
    | false =>
      have hF := Lib.hid (sameB_q (ps := ps) hq)
      go_wp2_with fail
      go_ret
      exact ⟨by rw [hF.out]; rfl, hbw2⟩
    | true =>
      cases hl : ((ps.length : Int) != (qs.length : Int)) with
      | true =>
        have hF := Lib.hid (sameB_len hp hq (by rw [bne_iff_ne] at hl; omega))
        go_wp2_with fail
        go_ret
        exact ⟨by rw [hF.out]; rfl, hbw2⟩
      | false =>
        have hF := Lib.hid (sameB_like hp hq (by rw [bne_eq_false_iff_eq] at hl; omega))
        have tp := (treeB_iff ps).1 hp
        have tq := (treeB_iff qs).1 hq
        have hpos := tp.pos
        have hmax := tp.max
        have hpos' := tq.pos
        have hmax' := tq.max
        have hba : Below w2.heap.size w2 (w2.alloc (.cells #[.func (.func 34) #[] #[.pointer (some ⟨w.heap.size, 0, none⟩), .pointer (some ⟨w.heap.size + 1, 0, none⟩), .pointer (some ⟨w2.heap.size, 0, none⟩)]] 46)) := (Below.refl _ _).alloc (Nat.le_refl _) _
        have hbb := hbw2.trans (hba.mono hbs2)
        have hcall := same_in ps qs A A' c c' lo hi lo' hi' w.heap.size (w.heap.size + 1) w2.heap.size tp.inr tq.inr (by omega) (by omega) ps.length 0 0 _ hpos hpos' (by omega) (by have := hbb.size; omega) (by have := hbb.size; omega) (hsl.below vNd_good hbb hhi) (hsl'.below vNd_good hbb hhi') (hr5.alloc _) (hr6.alloc _) (Row.new w2 _ _)
        clear tp tq
        go_wp2_with fail
        refine hcall.mono ?_
        rintro e w5 ⟨rfl, hb5⟩
        go_wp2_with fail
        go_ret
        exact ⟨by rw [hF.out]; rfl, hbb.trans (hb5.mono hbb.size)⟩
end Go.Proofs.Ytlanjpickjndlaa
