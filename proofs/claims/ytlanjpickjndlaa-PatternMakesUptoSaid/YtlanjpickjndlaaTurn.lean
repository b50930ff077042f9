/- Turned (both) and the document's Norm, walked. -/
import Derived.Test.YtlanjpickjndlaaLeaf
import Derived.Test.YtlanjpickjndlaaPut
import Derived.Test.YtlanjpickjndlaaTreeR
namespace Go.Proofs.Ytlanjpickjndlaa
open Go.RowKit
set_option linter.unusedVariables false

def turnedE (ns : List Nd) : Int := if treeB ns then 0 else 40
def turnedN (ns : List Nd) : List Nd := if treeB ns then sub ns true ns.length 0 0 else []
theorem turned_false {ns : List Nd} (h : treeB ns = false) : turnedE ns = 40 ∧ turnedN ns = [] := by unfold turnedE turnedN; rw [h]; exact ⟨rfl, rfl⟩
theorem turned_true {ns : List Nd} (h : treeB ns = true) : turnedE ns = 0 ∧ turnedN ns = sub ns true ns.length 0 0 := by unfold turnedE turnedN; rw [h]; exact ⟨rfl, rfl⟩
theorem walked_top {ns : List Nd} (tn : Bool) {A : Option Addr} {c lo hi : Nat} {w : World} (ht : IsTree ns) (hhi : hi ≤ w.heap.size) (hsl : Sl 5 vNd w lo hi A ns) :
    Calls Try.prog 30 #[.slice none 0 0, .slice A ns.length c, .int .i64 0, .bool tn] w fun e w' =>
      ∃ A' n' c', e = .returned (.slice A' n' c') ∧ PatRes w w' (.agg #[.slice A' n' c']) (sub ns tn ns.length 0 0) := by
  refine (walked_any tn (c := c) (es := []) (v := .slice none 0 0) ht (by simp) (Nat.le_refl _) (hsl.wide vNd_good (Nat.le_refl _) hhi) (Nodes.nil w _)).mono ?_
  rintro e w' ⟨v', es', rfl, hn, he, hF⟩
  obtain ⟨A', c', rfl, _, _⟩ := own_form hn.row
  exact ⟨A', _, c', rfl, _, es', rfl, hn, he, hF.below (fun k h => by simp [Value.ownBlock] at h) (Nat.le_refl _)⟩
theorem put_top {ns : List Nd} (tn : Bool) {A : Option Addr} {c lo hi : Nat} {w : World} (ht : IsTree ns) (hhi : hi ≤ w.heap.size) (hsl : Sl 5 vNd w lo hi A ns) :
    Calls Try.prog 31 #[.slice none 0 0, .slice A ns.length c, .int .i64 0, .bool tn] w fun e w' =>
      ∃ A' n' c', e = .returned (.slice A' n' c') ∧ PatRes w w' (.agg #[.slice A' n' c']) (sub ns tn ns.length 0 0) := by
  have hmax := ht.max
  have hpos := ht.pos
  have hsz := tree_size ht
  refine (put_any ns tn A c lo w.heap.size ht.inr (by omega) (fun x hx => by have := kids_le ht hx; omega) ns.length 0 [] (.slice none 0 0) w hpos (by omega) (by rw [hsz, List.length_nil]; omega) (hsl.wide vNd_good (Nat.le_refl _) hhi) (Nat.le_refl _) (Nodes.nil w _)).mono ?_
  rintro e w' ⟨v', es', rfl, hn, he, hF, _, _⟩
  obtain ⟨A', c', rfl, _, _⟩ := own_form hn.row
  exact ⟨A', _, c', rfl, _, es', rfl, hn, he, hF.below (fun k h => by simp [Value.ownBlock] at h) (Nat.le_refl _)⟩

section
variable (A : Option Addr) (c lo hi : Nat) (ns : List Nd) (w : World)
set_option maxHeartbeats 4000000 in
theorem norm_any (ht : IsTree ns) (hhi : hi ≤ w.heap.size) (hsl : Sl 5 vNd w lo hi A ns) :
    Calls Try.prog 35 #[.agg #[.slice A ns.length c]] w fun e w' => ∃ v, e = .returned v ∧ PatRes w w' v (sub ns false ns.length 0 0) := by
  have hr1 : Row ((w.alloc (.cells #[.slice A ns.length c] 25)).alloc (.cells #[.slice none 0 0] 25)) w.heap.size 25 [.slice A ns.length c] := (Row.new w _ _).alloc _
  have hr2 : Row ((w.alloc (.cells #[.slice A ns.length c] 25)).alloc (.cells #[.slice none 0 0] 25)) (w.heap.size + 1) 25 [.slice none 0 0] := by
    have h := Row.new (w.alloc (.cells #[.slice A ns.length c] 25)) 25 [.slice none 0 0]
    simpa using h
  have hb : Below w.heap.size w ((w.alloc (.cells #[.slice A ns.length c] 25)).alloc (.cells #[.slice none 0 0] 25)) := ((Below.refl _ _).alloc (Nat.le_refl _) _).alloc (by simp) _
  have hbs := hb.size
  go_enter Try.func35, Try.ntmps35
  go_wp2_with fail
  refine (put_top false ht (by omega) (hsl.below vNd_good hb hhi)).mono ?_
  rintro e w1 ⟨A', n', c', rfl, hp⟩
  have hfin := hp.up hb (H := w.heap.size + 1) (by omega) hr2.lt (.slice A' n' c')
  obtain ⟨_, _, _, _, _, hB⟩ := hp
  have hr3 := hr2.below hB hr2.lt
  obtain ⟨c1, f1⟩ := hr3.cel (i := 0) rfl
  clear hr1 hr2
  go_wp2_with fail
  (try simp only [Exit.inBlock, Exit.then])
  refine bodyPost_ret (res_cell rfl _ _ (w.heap.size + 1) _ rfl (hr3.set_ 0 _)) rfl ?_
  exact ⟨_, rfl, hfin⟩

set_option maxHeartbeats 4000000 in
theorem turned_any (hm : ns.length ≤ 9223372036854775807) (hhi : hi ≤ w.heap.size) (hsl : Sl 5 vNd w lo hi A ns) :
    Calls Try.prog 14 #[.agg #[.slice A ns.length c]] w fun e w' => ∃ v, e = .returned (.tuple #[v, .int .i64 (turnedE ns)]) ∧ PatRes w w' v (turnedN ns) := by
  have hr1 : Row ((w.alloc (.cells #[.slice A ns.length c] 25)).alloc (.cells #[.slice none 0 0] 25)) w.heap.size 25 [.slice A ns.length c] := (Row.new w _ _).alloc _
  have hr2 : Row ((w.alloc (.cells #[.slice A ns.length c] 25)).alloc (.cells #[.slice none 0 0] 25)) (w.heap.size + 1) 25 [.slice none 0 0] := by
    have h := Row.new (w.alloc (.cells #[.slice A ns.length c] 25)) 25 [.slice none 0 0]
    simpa using h
  have hb : Below w.heap.size w ((w.alloc (.cells #[.slice A ns.length c] 25)).alloc (.cells #[.slice none 0 0] 25)) := ((Below.refl _ _).alloc (Nat.le_refl _) _).alloc (by simp) _
  have hbs := hb.size
  go_enter Try.func14, Try.ntmps14
  go_wp2_with fail
  refine (tree_any A c lo hi ns _ hm (by omega) (hsl.below vNd_good hb hhi)).mono ?_
  rintro e w1 ⟨rfl, hb1⟩
  have hbw : Below w.heap.size w w1 := hb.trans (hb1.mono hbs)
  have hr3 := hr1.below hb1 hr1.lt
  have hr4 := hr2.below hb1 hr2.lt
  obtain ⟨c3, f3⟩ := hr3.cel (i := 0) rfl
  obtain ⟨c4, f4⟩ := hr4.cel (i := 0) rfl
  have hl4 := hr4.lt
  clear hr1 hr2 hb hb1 hbs
  cases ht : treeB ns with
  | false =>
    have HT := Lib.hid (turned_false ht)
    go_wp2_with fail
    (try simp only [Exit.inBlock, Exit.then])
    refine bodyPost_ret (res_cell_tmp rfl _ _ (w.heap.size + 1) _ rfl (hr4.set_ 0 _)) rfl ?_
    refine ⟨_, by rw [HT.out.1]; rfl, ?_⟩
    rw [HT.out.2]
    exact PatRes.nothing (hbw.setCell (by simp) _)
  | true =>
    have HT := Lib.hid (turned_true ht)
    go_wp2_with fail
    refine (walked_top true ((treeB_iff ns).1 ht) (by have := hbw.size; omega) (hsl.below vNd_good hbw hhi)).mono ?_
    rintro e w2 ⟨A', n', c', rfl, hp⟩
    have hfin := hp.up hbw (H := w.heap.size + 1) (by omega) hr4.lt (.slice A' n' c')
    obtain ⟨_, _, _, _, _, hB⟩ := hp
    have hr5 := hr4.below hB hr4.lt
    obtain ⟨c5, f5⟩ := hr5.cel (i := 0) rfl
    clear hr3 hr4 c3 c4 f3 f4
    go_wp2_with fail
    (try simp only [Exit.inBlock, Exit.then])
    refine bodyPost_ret (res_cell_tmp rfl _ _ (w.heap.size + 1) _ rfl (hr5.set_ 0 _)) rfl ?_
    refine ⟨_, by rw [HT.out.1]; rfl, ?_⟩
    rw [HT.out.2]
    exact hfin

set_option maxHeartbeats 4000000 in
theorem turnedR_any (hm : ns.length ≤ 9223372036854775807) (hhi : hi ≤ w.heap.size) (hsl : Sl 5 vNd w lo hi A ns) :
    Calls Try.prog 15 #[.agg #[.slice A ns.length c]] w fun e w' => ∃ v, e = .returned (.tuple #[v, .int .i64 (turnedE ns)]) ∧ PatRes w w' v (turnedN ns) := by
  have hr1 : Row ((w.alloc (.cells #[.slice A ns.length c] 25)).alloc (.cells #[.slice none 0 0] 25)) w.heap.size 25 [.slice A ns.length c] := (Row.new w _ _).alloc _
  have hr2 : Row ((w.alloc (.cells #[.slice A ns.length c] 25)).alloc (.cells #[.slice none 0 0] 25)) (w.heap.size + 1) 25 [.slice none 0 0] := by
    have h := Row.new (w.alloc (.cells #[.slice A ns.length c] 25)) 25 [.slice none 0 0]
    simpa using h
  have hb : Below w.heap.size w ((w.alloc (.cells #[.slice A ns.length c] 25)).alloc (.cells #[.slice none 0 0] 25)) := ((Below.refl _ _).alloc (Nat.le_refl _) _).alloc (by simp) _
  have hbs := hb.size
  go_enter Try.func15, Try.ntmps15
  go_wp2_with fail
  refine (treeR_any A c lo hi ns _ hm (by omega) (hsl.below vNd_good hb hhi)).mono ?_
  rintro e w1 ⟨rfl, hb1⟩
  have hbw : Below w.heap.size w w1 := hb.trans (hb1.mono hbs)
  have hr3 := hr1.below hb1 hr1.lt
  have hr4 := hr2.below hb1 hr2.lt
  obtain ⟨c3, f3⟩ := hr3.cel (i := 0) rfl
  obtain ⟨c4, f4⟩ := hr4.cel (i := 0) rfl
  have hl4 := hr4.lt
  clear hr1 hr2 hb hb1 hbs
  cases ht : treeB ns with
  | false =>
    have HT := Lib.hid (turned_false ht)
    go_wp2_with fail
    (try simp only [Exit.inBlock, Exit.then])
    refine bodyPost_ret (res_cell_tmp rfl _ _ (w.heap.size + 1) _ rfl (hr4.set_ 0 _)) rfl ?_
    refine ⟨_, by rw [HT.out.1]; rfl, ?_⟩
    rw [HT.out.2]
    exact PatRes.nothing (hbw.setCell (by simp) _)
  | true =>
    have HT := Lib.hid (turned_true ht)
    go_wp2_with fail
    refine (put_top true ((treeB_iff ns).1 ht) (by have := hbw.size; omega) (hsl.below vNd_good hbw hhi)).mono ?_
    rintro e w2 ⟨A', n', c', rfl, hp⟩
    have hfin := hp.up hbw (H := w.heap.size + 1) (by omega) hr4.lt (.slice A' n' c')
    obtain ⟨_, _, _, _, _, hB⟩ := hp
    have hr5 := hr4.below hB hr4.lt
    obtain ⟨c5, f5⟩ := hr5.cel (i := 0) rfl
    clear hr3 hr4 c3 c4 f3 f4
    go_wp2_with fail
    (try simp only [Exit.inBlock, Exit.then])
    refine bodyPost_ret (res_cell_tmp rfl _ _ (w.heap.size + 1) _ rfl (hr5.set_ 0 _)) rfl ?_
    refine ⟨_, by rw [HT.out.1]; rfl, ?_⟩
    rw [HT.out.2]
    exact hfin
end
end Go.Proofs.Ytlanjpickjndlaa
