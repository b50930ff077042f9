/- Patterns of one node, walked. -/
import Derived.Test.YtlanjpickjndlaaNodes
import Derived.Test.YtlanjpickjndlaaTree
import Derived.Test.YtlanjpickjndlaaWalked
import Derived.Test.YtlanjpickjndlaaChecked
import Derived.Laws.ResultCell
namespace Go.Proofs.Ytlanjpickjndlaa
open Go.RowKit
set_option linter.unusedVariables false

/-- A pattern of new memory. -/
def PatRes (w w' : World) (v : Value) (ns : List Nd) : Prop := ∃ u es, v = .agg #[u] ∧ Nodes w' w.heap.size u es ∧ es.map Prod.fst = ns ∧ Below w.heap.size w w'
theorem PatRes.nothing {w w' : World} (h : Below w.heap.size w w') : PatRes w w' (.agg #[.slice none 0 0]) [] := ⟨_, [], rfl, Nodes.nil _ _, rfl, h⟩

theorem Nodes.low {w : World} {lo lo' : Nat} {v : Value} {es : List (Nd × Value)} (h : Nodes w lo v es) (hl : lo' ≤ lo) : Nodes w lo' v es :=
  ⟨own_low h.row hl, fun i x u hi => ⟨own_low (h.kid i x u hi).1 hl, (h.kid i x u hi).2⟩, h.far, h.apart⟩
theorem PatRes.up {w wA w1 : World} {H : Nat} {v : Value} {ns : List Nd} (h : PatRes wA w1 v ns) (hb : Below w.heap.size w wA) (hH : w.heap.size ≤ H) (hA : H < wA.heap.size) (z : Value) : PatRes w (w1.setCell ⟨H, 0, none⟩ z) v ns := by
  obtain ⟨u, es, rfl, hn, he, hB⟩ := h
  refine ⟨u, es, rfl, (hn.same fun g hg => Below.heap_setCell _ _ _ g (fun e => ?_)).low hb.size, he, (hb.trans (hB.mono hb.size)).setCell hH _⟩
  have := (hn.lt hg).1
  simp only at e
  omega
theorem res_cell {fn : Func} {p : Tmp} (h : fn.results = #[.cell p 25]) (tmps : Array Value) (w : World) (g : Nat) (u : Value) (hp : tmps.getD p undef = .pointer (some ⟨g, 0, none⟩)) (hg : Row w g 25 [u]) :
    (results fn tmps).run Try.prog w = .ok (.agg #[u]) w :=
  results_cell_row h tmps w g 25 #[u] (0, 0) _ hp hg Try.underlying25 rfl (by kernel_rfl)
theorem res_cell_tmp {fn : Func} {p q : Tmp} (h : fn.results = #[.cell p 25, .tmp q]) (tmps : Array Value) (w : World) (g : Nat) (u : Value) (hp : tmps.getD p undef = .pointer (some ⟨g, 0, none⟩)) (hg : Row w g 25 [u]) :
    (results fn tmps).run Try.prog w = .ok (.tuple #[.agg #[u], tmps.getD q undef]) w := by
  have hl := run_loadVar_row (P := Try.prog) w g 25 25 #[u] (0, 0) _ hg Try.underlying25 rfl (by kernel_rfl)
  rw [results_cell_tmp h, hp]
  simp [asAddr, hl, Result.andThen]

def leafN (k r p m : Int) : Nd := ⟨k, r, p, m, []⟩
section
variable (k r p m : Int) (w : World)
set_option maxHeartbeats 4000000 in
theorem leaf_any (h : kinNd (leafN k r p m)) :
    Calls Try.prog 32 #[.agg #[.int .u8 k, .int .i32 r, .int .u32 p, .int .u32 m, .slice none 0 0]] w fun e w' => ∃ v, e = .returned v ∧ PatRes w w' v [leafN k r p m] := by
  go_enter Try.func32, Try.ntmps32
  go_wp2_with fail
  have hr : Row ((w.alloc (.cells #[.int .u8 k, .int .i32 r, .int .u32 p, .int .u32 m, .slice none 0 0] 42)).alloc (.cells #[.slice (some ⟨w.heap.size + 1 + 1, 0, none⟩) 1 1] 25)) (w.heap.size + 1) 25 [.slice (some ⟨w.heap.size + 1 + 1, 0, none⟩) 1 1] := by
    have h := Row.new (w.alloc (.cells #[.int .u8 k, .int .i32 r, .int .u32 p, .int .u32 m, .slice none 0 0] 42)) 25 [.slice (some ⟨w.heap.size + 1 + 1, 0, none⟩) 1 1]
    simpa using h
  refine bodyPost_ret (res_cell rfl _ _ (w.heap.size + 1) _ rfl (hr.alloc _)) rfl ?_
  refine ⟨_, rfl, _, [(leafN k r p m, .slice none 0 0)], rfl, ⟨⟨rfl, .inr ⟨w.heap.size + 1 + 1, 1, #[.int .u8 k, .int .i32 r, .int .u32 p, .int .u32 m, .slice none 0 0], rfl, by omega, ?_, Nat.le_refl _, by unfold maxLen; omega, rfl, rfl⟩⟩, fun i x u hi => ?_, fun i x u g hi hg => ?_, fun i j x u y t g hi hj _ _ => ?_⟩, rfl, by go_grown⟩
  · have h := Row.new ((w.alloc (.cells #[.int .u8 k, .int .i32 r, .int .u32 p, .int .u32 m, .slice none 0 0] 42)).alloc (.cells #[.slice (some ⟨w.heap.size + 1 + 1, 0, none⟩) 1 1] 25)) 42 [.int .u8 k, .int .i32 r, .int .u32 p, .int .u32 m, .slice none 0 0]
    simp only [World.size_alloc] at h
    exact h
  · match i, hi with
    | 0, hi =>
      simp only [List.getElem?_cons_zero, Option.some.injEq, Prod.mk.injEq] at hi
      obtain ⟨rfl, rfl⟩ := hi
      exact ⟨World.ownsRow_nil _ _ _ _, ‹kinNd _›⟩
  · match i, hi with
    | 0, hi =>
      simp only [List.getElem?_cons_zero, Option.some.injEq, Prod.mk.injEq] at hi
      obtain ⟨rfl, rfl⟩ := hi
      simp [Value.ownBlock] at hg
  · match i, j, hi, hj with
    | 0, 0, _, _ => rfl

set_option maxHeartbeats 4000000 in
theorem empty_any :
    Calls Try.prog 17 #[] w fun e w' => ∃ v, e = .returned v ∧ PatRes w w' v [leafN 1 0 0 0] := by
  have hr := Row.new w 25 [.slice none 0 0]
  have hb : Below w.heap.size w (w.alloc (.cells #[.slice none 0 0] 25)) := (Below.refl _ _).alloc (Nat.le_refl _) _
  go_enter Try.func17, Try.ntmps17
  go_wp2_with fail
  refine (leaf_any 1 0 0 0 _ ⟨show (Lit.int .u8 1).wf = true from rfl, show (Lit.int .i32 0).wf = true from rfl, show (Lit.int .u32 0).wf = true from rfl, show (Lit.int .u32 0).wf = true from rfl, by simp [leafN]⟩).mono ?_
  rintro e w1 ⟨v, rfl, hp⟩
  obtain ⟨u, es, rfl, hp2⟩ := id hp
  obtain ⟨Au, cu, rfl, _, _⟩ := own_form hp2.1.row
  have hr1 := hr.below hp2.2.2 (by simp)
  obtain ⟨c1, f1⟩ := hr1.cel (i := 0) rfl
  have hfin := hp.up hb (Nat.le_refl _) (by simp) (.slice Au es.length cu)
  clear hp hp2 hr
  go_wp2_with fail
  (try simp only [Exit.inBlock, Exit.then])
  refine bodyPost_ret (res_cell rfl _ _ w.heap.size _ rfl (hr1.set_ 0 _)) rfl ?_
  exact ⟨_, rfl, hfin⟩
set_option maxHeartbeats 4000000 in
theorem rune_any (hk : kin .i32 r) :
    Calls Try.prog 19 #[.int .i32 r] w fun e w' => ∃ v, e = .returned v ∧ PatRes w w' v [leafN 2 r 0 0] := by
  have hr := Row.new w 25 [.slice none 0 0]
  have hb : Below w.heap.size w (w.alloc (.cells #[.slice none 0 0] 25)) := (Below.refl _ _).alloc (Nat.le_refl _) _
  go_enter Try.func19, Try.ntmps19
  go_wp2_with fail
  refine (leaf_any 2 r 0 0 _ ⟨show (Lit.int .u8 2).wf = true from rfl, hk, show (Lit.int .u32 0).wf = true from rfl, show (Lit.int .u32 0).wf = true from rfl, by simp [leafN]⟩).mono ?_
  rintro e w1 ⟨v, rfl, hp⟩
  obtain ⟨u, es, rfl, hp2⟩ := id hp
  obtain ⟨Au, cu, rfl, _, _⟩ := own_form hp2.1.row
  have hr1 := hr.below hp2.2.2 (by simp)
  obtain ⟨c1, f1⟩ := hr1.cel (i := 0) rfl
  have hfin := hp.up hb (Nat.le_refl _) (by simp) (.slice Au es.length cu)
  clear hp hp2 hr
  go_wp2_with fail
  (try simp only [Exit.inBlock, Exit.then])
  refine bodyPost_ret (res_cell rfl _ _ w.heap.size _ rfl (hr1.set_ 0 _)) rfl ?_
  exact ⟨_, rfl, hfin⟩
set_option maxHeartbeats 4000000 in
theorem class_any (hk : kin .u32 p) (hk2 : kin .u32 m) :
    Calls Try.prog 21 #[.int .u32 p, .int .u32 m] w fun e w' => ∃ v, e = .returned v ∧ PatRes w w' v [leafN 3 0 p m] := by
  have hr := Row.new w 25 [.slice none 0 0]
  have hb : Below w.heap.size w (w.alloc (.cells #[.slice none 0 0] 25)) := (Below.refl _ _).alloc (Nat.le_refl _) _
  go_enter Try.func21, Try.ntmps21
  go_wp2_with fail
  refine (leaf_any 3 0 p m _ ⟨show (Lit.int .u8 3).wf = true from rfl, show (Lit.int .i32 0).wf = true from rfl, hk, hk2, by simp [leafN]⟩).mono ?_
  rintro e w1 ⟨v, rfl, hp⟩
  obtain ⟨u, es, rfl, hp2⟩ := id hp
  obtain ⟨Au, cu, rfl, _, _⟩ := own_form hp2.1.row
  have hr1 := hr.below hp2.2.2 (by simp)
  obtain ⟨c1, f1⟩ := hr1.cel (i := 0) rfl
  have hfin := hp.up hb (Nat.le_refl _) (by simp) (.slice Au es.length cu)
  clear hp hp2 hr
  go_wp2_with fail
  (try simp only [Exit.inBlock, Exit.then])
  refine bodyPost_ret (res_cell rfl _ _ w.heap.size _ rfl (hr1.set_ 0 _)) rfl ?_
  exact ⟨_, rfl, hfin⟩
set_option maxHeartbeats 4000000 in
theorem leaf_any_r (h : kinNd (leafN k r p m)) :
    Calls Try.prog 33 #[.agg #[.int .u8 k, .int .i32 r, .int .u32 p, .int .u32 m, .slice none 0 0]] w fun e w' => ∃ v, e = .returned v ∧ PatRes w w' v [leafN k r p m] := by
  go_enter Try.func33, Try.ntmps33
  go_wp2_with fail
  have hr : Row ((w.alloc (.cells #[.int .u8 k, .int .i32 r, .int .u32 p, .int .u32 m, .slice none 0 0] 42)).alloc (.cells #[.slice (some ⟨w.heap.size + 1 + 1, 0, none⟩) 1 1] 25)) (w.heap.size + 1) 25 [.slice (some ⟨w.heap.size + 1 + 1, 0, none⟩) 1 1] := by
    have h := Row.new (w.alloc (.cells #[.int .u8 k, .int .i32 r, .int .u32 p, .int .u32 m, .slice none 0 0] 42)) 25 [.slice (some ⟨w.heap.size + 1 + 1, 0, none⟩) 1 1]
    simpa using h
  refine bodyPost_ret (res_cell rfl _ _ (w.heap.size + 1) _ rfl (hr.alloc _)) rfl ?_
  refine ⟨_, rfl, _, [(leafN k r p m, .slice none 0 0)], rfl, ⟨⟨rfl, .inr ⟨w.heap.size + 1 + 1, 1, #[.int .u8 k, .int .i32 r, .int .u32 p, .int .u32 m, .slice none 0 0], rfl, by omega, ?_, Nat.le_refl _, by unfold maxLen; omega, rfl, rfl⟩⟩, fun i x u hi => ?_, fun i x u g hi hg => ?_, fun i j x u y t g hi hj _ _ => ?_⟩, rfl, by go_grown⟩
  · have h := Row.new ((w.alloc (.cells #[.int .u8 k, .int .i32 r, .int .u32 p, .int .u32 m, .slice none 0 0] 42)).alloc (.cells #[.slice (some ⟨w.heap.size + 1 + 1, 0, none⟩) 1 1] 25)) 42 [.int .u8 k, .int .i32 r, .int .u32 p, .int .u32 m, .slice none 0 0]
    simp only [World.size_alloc] at h
    exact h
  · match i, hi with
    | 0, hi =>
      simp only [List.getElem?_cons_zero, Option.some.injEq, Prod.mk.injEq] at hi
      obtain ⟨rfl, rfl⟩ := hi
      exact ⟨World.ownsRow_nil _ _ _ _, ‹kinNd _›⟩
  · match i, hi with
    | 0, hi =>
      simp only [List.getElem?_cons_zero, Option.some.injEq, Prod.mk.injEq] at hi
      obtain ⟨rfl, rfl⟩ := hi
      simp [Value.ownBlock] at hg
  · match i, j, hi, hj with
    | 0, 0, _, _ => rfl

set_option maxHeartbeats 4000000 in
theorem empty_any_r :
    Calls Try.prog 18 #[] w fun e w' => ∃ v, e = .returned v ∧ PatRes w w' v [leafN 1 0 0 0] := by
  have hr := Row.new w 25 [.slice none 0 0]
  have hb : Below w.heap.size w (w.alloc (.cells #[.slice none 0 0] 25)) := (Below.refl _ _).alloc (Nat.le_refl _) _
  go_enter Try.func18, Try.ntmps18
  go_wp2_with fail
  refine (leaf_any_r 1 0 0 0 _ ⟨show (Lit.int .u8 1).wf = true from rfl, show (Lit.int .i32 0).wf = true from rfl, show (Lit.int .u32 0).wf = true from rfl, show (Lit.int .u32 0).wf = true from rfl, by simp [leafN]⟩).mono ?_
  rintro e w1 ⟨v, rfl, hp⟩
  obtain ⟨u, es, rfl, hp2⟩ := id hp
  obtain ⟨Au, cu, rfl, _, _⟩ := own_form hp2.1.row
  have hr1 := hr.below hp2.2.2 (by simp)
  obtain ⟨c1, f1⟩ := hr1.cel (i := 0) rfl
  have hfin := hp.up hb (Nat.le_refl _) (by simp) (.slice Au es.length cu)
  clear hp hp2 hr
  go_wp2_with fail
  (try simp only [Exit.inBlock, Exit.then])
  refine bodyPost_ret (res_cell rfl _ _ w.heap.size _ rfl (hr1.set_ 0 _)) rfl ?_
  exact ⟨_, rfl, hfin⟩
set_option maxHeartbeats 4000000 in
theorem rune_any_r (hk : kin .i32 r) :
    Calls Try.prog 20 #[.int .i32 r] w fun e w' => ∃ v, e = .returned v ∧ PatRes w w' v [leafN 2 r 0 0] := by
  have hr := Row.new w 25 [.slice none 0 0]
  have hb : Below w.heap.size w (w.alloc (.cells #[.slice none 0 0] 25)) := (Below.refl _ _).alloc (Nat.le_refl _) _
  go_enter Try.func20, Try.ntmps20
  go_wp2_with fail
  refine (leaf_any_r 2 r 0 0 _ ⟨show (Lit.int .u8 2).wf = true from rfl, hk, show (Lit.int .u32 0).wf = true from rfl, show (Lit.int .u32 0).wf = true from rfl, by simp [leafN]⟩).mono ?_
  rintro e w1 ⟨v, rfl, hp⟩
  obtain ⟨u, es, rfl, hp2⟩ := id hp
  obtain ⟨Au, cu, rfl, _, _⟩ := own_form hp2.1.row
  have hr1 := hr.below hp2.2.2 (by simp)
  obtain ⟨c1, f1⟩ := hr1.cel (i := 0) rfl
  have hfin := hp.up hb (Nat.le_refl _) (by simp) (.slice Au es.length cu)
  clear hp hp2 hr
  go_wp2_with fail
  (try simp only [Exit.inBlock, Exit.then])
  refine bodyPost_ret (res_cell rfl _ _ w.heap.size _ rfl (hr1.set_ 0 _)) rfl ?_
  exact ⟨_, rfl, hfin⟩
set_option maxHeartbeats 4000000 in
theorem class_any_r (hk : kin .u32 p) (hk2 : kin .u32 m) :
    Calls Try.prog 22 #[.int .u32 p, .int .u32 m] w fun e w' => ∃ v, e = .returned v ∧ PatRes w w' v [leafN 3 0 p m] := by
  have hr := Row.new w 25 [.slice none 0 0]
  have hb : Below w.heap.size w (w.alloc (.cells #[.slice none 0 0] 25)) := (Below.refl _ _).alloc (Nat.le_refl _) _
  go_enter Try.func22, Try.ntmps22
  go_wp2_with fail
  refine (leaf_any_r 3 0 p m _ ⟨show (Lit.int .u8 3).wf = true from rfl, show (Lit.int .i32 0).wf = true from rfl, hk, hk2, by simp [leafN]⟩).mono ?_
  rintro e w1 ⟨v, rfl, hp⟩
  obtain ⟨u, es, rfl, hp2⟩ := id hp
  obtain ⟨Au, cu, rfl, _, _⟩ := own_form hp2.1.row
  have hr1 := hr.below hp2.2.2 (by simp)
  obtain ⟨c1, f1⟩ := hr1.cel (i := 0) rfl
  have hfin := hp.up hb (Nat.le_refl _) (by simp) (.slice Au es.length cu)
  clear hp hp2 hr
  go_wp2_with fail
  (try simp only [Exit.inBlock, Exit.then])
  refine bodyPost_ret (res_cell rfl _ _ w.heap.size _ rfl (hr1.set_ 0 _)) rfl ?_
  exact ⟨_, rfl, hfin⟩
end
end Go.Proofs.Ytlanjpickjndlaa
