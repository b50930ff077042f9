/- The document's Same, walked. -/
import Derived.Test.YtlanjpickjndlaaSame
import Derived.Deep.RegionWith
namespace Go.Proofs.Ytlanjpickjndlaa
open Go.RowKit
set_option linter.unusedVariables false

set_option maxHeartbeats 8000000 in
set_option maxRecDepth 100000 in
theorem sameR_any (A A' : Option Addr) (c c' lo hi lo' hi' : Nat) (ps qs : List Nd) (w : World) (hm : ps.length ≤ 9223372036854775807) (hm' : qs.length ≤ 9223372036854775807) (hhi : hi ≤ w.heap.size) (hhi' : hi' ≤ w.heap.size) (hsl : Sl 5 vNd w lo hi A ps) (hsl' : Sl 5 vNd w lo' hi' A' qs) :
    Calls Try.prog 24 #[.agg #[.slice A ps.length c], .agg #[.slice A' qs.length c']] w fun e w' => e = .returned (.bool (sameB ps qs)) ∧ Below w.heap.size w w' := by
  obtain ⟨hr1, hr2, hb⟩ := two_boxes w 25 [.slice A ps.length c] [.slice A' qs.length c']
  have hbs := hb.size
  go_enter Try.func24, Try.ntmps24
  go_upto_region 1 with (fail)
  generalize hW : (w.alloc (.cells #[.slice A ps.length c] 25)).alloc (.cells #[.slice A' qs.length c'] 25) = W at *
  have hc1 : ∀ wx, Below W.heap.size W wx → wx.cell? ⟨w.heap.size, 0, none⟩ = some (.slice A ps.length c) ∧ wx.cell? ⟨w.heap.size + 1, 0, none⟩ = some (.slice A' qs.length c') := fun wx hx => ⟨((hr1.below hx hr1.lt).cel (i := 0) rfl).1, ((hr2.below hx hr2.lt).cel (i := 0) rfl).1⟩
  have K1 : ∀ wx, Below W.heap.size W wx → Calls Try.prog 25 #[.agg #[.slice A ps.length c]] wx fun e w' => e = .returned (.bool (treeB ps)) ∧ Below W.heap.size W w' ∧ w'.cell? ⟨w.heap.size, 0, none⟩ = some (.slice A ps.length c) ∧ w'.cell? ⟨w.heap.size + 1, 0, none⟩ = some (.slice A' qs.length c') := by
    intro wx hx
    have hx2 := hb.trans (hx.mono hbs)
    refine (treeR_any A c lo hi ps wx hm (by have := hx2.size; omega) (hsl.below vNd_good hx2 hhi)).mono ?_
    rintro e w' ⟨rfl, hb'⟩
    exact ⟨rfl, hx.trans (hb'.mono hx.size), hc1 _ (hx.trans (hb'.mono hx.size))⟩
  have K2 : ∀ wx, Below W.heap.size W wx → Calls Try.prog 25 #[.agg #[.slice A' qs.length c']] wx fun e w' => e = .returned (.bool (treeB qs)) ∧ Below W.heap.size W w' ∧ w'.cell? ⟨w.heap.size, 0, none⟩ = some (.slice A ps.length c) ∧ w'.cell? ⟨w.heap.size + 1, 0, none⟩ = some (.slice A' qs.length c') := by
    intro wx hx
    have hx2 := hb.trans (hx.mono hbs)
    refine (treeR_any A' c' lo' hi' qs wx hm' (by have := hx2.size; omega) (hsl'.below vNd_good hx2 hhi')).mono ?_
    rintro e w' ⟨rfl, hb'⟩
    exact ⟨rfl, hx.trans (hb'.mono hx.size), hc1 _ (hx.trans (hb'.mono hx.size))⟩
  have hb0 : Below W.heap.size W W.drew := below_drewN (Below.refl _ _) 1
  obtain ⟨c1, d1⟩ := hc1 W (Below.refl _ _)
  cases hp : treeB ps with
  | false =>
    have hF := Lib.hid (sameB_p (qs := qs) hp)
    rw [hp] at K1
    go_region_with (go_at_call 25; refine (K1 _ ?_).mono ?_; assumption; rintro e w5 ⟨rfl, hb5, c5, d5⟩)
    all_goals
      go_wp2_with fail
      go_ret
      exact ⟨by rw [hF.out]; rfl, hb.trans (hb5.mono hbs)⟩
  | true =>
    cases hq : treeB qs with
    | false =>
      have hF := Lib.hid (sameB_q (ps := ps) hq)
      rw [hp] at K1
      rw [hq] at K2
      go_region_with (first
        | (go_at_call_of 25 (Value.agg #[Value.slice A ps.length c]); refine (K1 _ ?_).mono ?_; assumption; rintro e w5 ⟨rfl, hb5, c5, d5⟩)
        | (go_at_call_of 25 (Value.agg #[Value.slice A' qs.length c']); refine (K2 _ ?_).mono ?_; assumption; rintro e w6 ⟨rfl, hb6, c6, d6⟩))
      all_goals
        go_wp2_with fail
        go_ret
        exact ⟨by rw [hF.out]; rfl, hb.trans (hb6.mono hbs)⟩
    | true =>
      have tp := (treeB_iff ps).1 hp
      have tq := (treeB_iff qs).1 hq
      have hF : Hid (sameB ps qs = decide (sub ps false ps.length 0 0 = sub qs false qs.length 0 0)) := by
        show _ = _
        unfold sameB
        rw [hp, hq]
        rfl
      rw [hp] at K1
      rw [hq] at K2
      have hpm : (sub ps false ps.length 0 0).length ≤ 256 := by rw [sub_length, tree_size tp]; exact tp.max
      have hqm : (sub qs false qs.length 0 0).length ≤ 256 := by rw [sub_length, tree_size tq]; exact tq.max
      have K3 : ∀ wx, Below W.heap.size W wx → Calls Try.prog 35 #[.agg #[.slice A ps.length c]] wx fun e w' => ∃ B b, e = .returned (.agg #[.slice B (sub ps false ps.length 0 0).length b]) ∧ Below W.heap.size W w' ∧ Below wx.heap.size wx w' ∧ Sl 5 vNd w' wx.heap.size w'.heap.size B (sub ps false ps.length 0 0) ∧ w'.cell? ⟨w.heap.size, 0, none⟩ = some (.slice A ps.length c) ∧ w'.cell? ⟨w.heap.size + 1, 0, none⟩ = some (.slice A' qs.length c') := by
        intro wx hx
        have hx2 := hb.trans (hx.mono hbs)
        refine (norm_any A c _ _ ps wx tp (by have := hx2.size; omega) (hsl.below vNd_good hx2 (by omega))).mono ?_
        rintro e w' ⟨v, rfl, u, es, rfl, hn, he, hB⟩
        obtain ⟨B, b, rfl, _, _, hs⟩ := hn.sl
        rw [he] at hs
        have hlen : es.length = (sub ps false ps.length 0 0).length := by rw [← he, List.length_map]
        rw [hlen]
        exact ⟨B, b, rfl, hx.trans (hB.mono hx.size), hB, hs, hc1 _ (hx.trans (hB.mono hx.size))⟩
      have K4 : ∀ wx, Below W.heap.size W wx → Calls Try.prog 35 #[.agg #[.slice A' qs.length c']] wx fun e w' => ∃ B b, e = .returned (.agg #[.slice B (sub qs false qs.length 0 0).length b]) ∧ Below W.heap.size W w' ∧ Below wx.heap.size wx w' ∧ Sl 5 vNd w' wx.heap.size w'.heap.size B (sub qs false qs.length 0 0) ∧ w'.cell? ⟨w.heap.size, 0, none⟩ = some (.slice A ps.length c) ∧ w'.cell? ⟨w.heap.size + 1, 0, none⟩ = some (.slice A' qs.length c') := by
        intro wx hx
        have hx2 := hb.trans (hx.mono hbs)
        refine (norm_any A' c' _ _ qs wx tq (by have := hx2.size; omega) (hsl'.below vNd_good hx2 (by omega))).mono ?_
        rintro e w' ⟨v, rfl, u, es, rfl, hn, he, hB⟩
        obtain ⟨B, b, rfl, _, _, hs⟩ := hn.sl
        rw [he] at hs
        have hlen : es.length = (sub qs false qs.length 0 0).length := by rw [← he, List.length_map]
        rw [hlen]
        exact ⟨B, b, rfl, hx.trans (hB.mono hx.size), hB, hs, hc1 _ (hx.trans (hB.mono hx.size))⟩
      generalize sub ps false ps.length 0 0 = P at *
      generalize sub qs false qs.length 0 0 = Q at *
      have K5 : ∀ wx B b B' b', Below W.heap.size W wx → (∃ l h, h ≤ wx.heap.size ∧ Sl 5 vNd wx l h B P) → (∃ l h, h ≤ wx.heap.size ∧ Sl 5 vNd wx l h B' Q) → Calls Try.prog 16 #[.agg #[.slice B P.length b], .agg #[.slice B' Q.length b']] wx fun e w' => e = .returned (.bool (decide (P = Q))) ∧ Below W.heap.size W w' := by
        rintro wx B b B' b' hx ⟨l, h, h1, s1⟩ ⟨l', h', h2, s2⟩
        refine (like_any B B' b b' l h l' h' P Q wx (by omega) (by omega) h1 h2 s1 s2).mono ?_
        rintro e w' ⟨rfl, hB⟩
        exact ⟨rfl, hx.trans (hB.mono hx.size)⟩
      clear tp tq hp hq
      go_region_with (first
        | (go_at_call_of 25 (Value.agg #[Value.slice A ps.length c]); refine (K1 _ ?_).mono ?_; assumption; rintro e w5 ⟨rfl, hb5, c5, d5⟩)
        | (go_at_call_of 25 (Value.agg #[Value.slice A' qs.length c']); refine (K2 _ ?_).mono ?_; assumption; rintro e w6 ⟨rfl, hb6, c6, d6⟩)
        | (go_at_call_of 35 (Value.agg #[Value.slice A ps.length c]); refine (K3 _ ?_).mono ?_; assumption; rintro e w7 ⟨B7, b7, rfl, hb7, hB7, hs7, c7, d7⟩)
        | (go_at_call_of 35 (Value.agg #[Value.slice A' qs.length c']); refine (K4 _ ?_).mono ?_; assumption; rintro e w8 ⟨B8, b8, rfl, hb8, hB8, hs8, c8, d8⟩)
        | (go_at_call 16; refine (K5 _ _ _ _ _ ?_ ?_ ?_).mono ?_; (first | exact hb8 | exact hb7); (first | exact ⟨_, _, Nat.le_refl _, hs7⟩ | exact ⟨_, _, hB8.size, hs7.below vNd_good hB8 (Nat.le_refl _)⟩); (first | exact ⟨_, _, Nat.le_refl _, hs8⟩ | exact ⟨_, _, hB7.size, hs8.below vNd_good hB7 (Nat.le_refl _)⟩); rintro e w9 ⟨rfl, hb9⟩))
      all_goals
        go_wp2_with fail
        go_ret
        exact ⟨by rw [hF.out]; rfl, hb.trans (hb9.mono hbs)⟩
end Go.Proofs.Ytlanjpickjndlaa
