/- pattern.walked, walked. Patterns of one node, walked. -/
import Derived.Test.YtimhlnndobfehaaGreatDoorMd34
import Derived.Laws.EntriesVeiled
import Derived.Test.YtimhlnndobfehaaGreatDoorMd26
import Derived.Test.YtimhlnndobfehaaGreatDoorMd17
import Derived.Test.YtimhlnndobfehaaGreatDoorChecked
import Derived.Laws.ResultCell
namespace Go.Proofs.YtimhlnndobfehaaGreatDoor
open Go.RowKit
set_option linter.unusedVariables false

set_option maxHeartbeats 4000000 in
set_option maxRecDepth 100000 in
theorem walked_any {ns : List Nd} (tn : Bool) {A : Option Addr} {c flo lo : Nat} {v : Value} {es : List (Nd × Value)} {w : World} (ht : IsTree ns) (hes : es.length ≤ 4000) (hlo : lo ≤ w.heap.size)
    (hsl : Sl 5 vNd w flo lo A ns) (hnd : Nodes w lo v es) :
    Calls Tryz.prog 49 #[v, .slice A ns.length c, .int .i64 0, .bool tn] w fun e w' =>
      ∃ v' es', e = .returned v' ∧ Nodes w' lo v' (es ++ es') ∧ es'.map Prod.fst = sub ns tn ns.length es.length 0 ∧ Fr (fun k => v.ownBlock = some k) w w' := by
  have hpos := ht.pos
  have hmax := ht.max
  obtain ⟨Av, cv, rfl, _, _⟩ := own_form hnd.row
  obtain ⟨wa, hwa⟩ : ∃ wa : World, wa = w.alloc (.cells #[.slice Av es.length cv] 26) := ⟨_, rfl⟩
  obtain ⟨wb, hwb⟩ : ∃ wb : World, wb = wa.alloc (.cells #[.slice A ns.length c] 26) := ⟨_, rfl⟩
  obtain ⟨wc, hwc⟩ : ∃ wc : World, wc = wb.alloc (.cells #[.bool tn] 4) := ⟨_, rfl⟩
  obtain ⟨wd, hwd⟩ : ∃ wd : World, wd = wc.alloc (.cells #[.func (.func 80) #[] #[.pointer (some ⟨w.heap.size + 1, 0, none⟩), .pointer (some ⟨w.heap.size + 2, 0, none⟩), .pointer (some ⟨w.heap.size, 0, none⟩), .pointer (some ⟨w.heap.size + 3, 0, none⟩)]] 71) := ⟨_, rfl⟩
  have sa : wa.heap.size = w.heap.size + 1 := by rw [hwa]; simp
  have sb : wb.heap.size = w.heap.size + 2 := by rw [hwb]; simp; omega
  have sc : wc.heap.size = w.heap.size + 3 := by rw [hwc]; simp; omega
  have sd : wd.heap.size = w.heap.size + 4 := by rw [hwd]; simp; omega
  have hbd : Below w.heap.size w wd := by
    have h1 : Below w.heap.size w wa := by rw [hwa]; exact (Below.refl _ _).alloc (Nat.le_refl _) _
    have h2 : Below w.heap.size w wb := by rw [hwb]; exact h1.alloc (by omega) _
    have h3 : Below w.heap.size w wc := by rw [hwc]; exact h2.alloc (by omega) _
    rw [hwd]; exact h3.alloc (by omega) _
  have ra : Row wd w.heap.size 26 [.slice Av es.length cv] := by
    have h : Row wa w.heap.size 26 [.slice Av es.length cv] := by rw [hwa]; exact Row.new w _ _
    rw [hwd, hwc, hwb]; exact ((h.alloc _).alloc _).alloc _
  have rb : Row wd (w.heap.size + 1) 26 [.slice A ns.length c] := by
    have h : Row wb wa.heap.size 26 [.slice A ns.length c] := by rw [hwb]; exact Row.new wa _ _
    rw [sa] at h
    rw [hwd, hwc]; exact (h.alloc _).alloc _
  have rc : Row wd (w.heap.size + 2) 4 [.bool tn] := by
    have h : Row wc wb.heap.size 4 [.bool tn] := by rw [hwc]; exact Row.new wb _ _
    rw [sb] at h
    rw [hwd]; exact h.alloc _
  have rd : Row wd (w.heap.size + 3) 71 [.func (.func 80) #[] #[.pointer (some ⟨w.heap.size + 1, 0, none⟩), .pointer (some ⟨w.heap.size + 2, 0, none⟩), .pointer (some ⟨w.heap.size, 0, none⟩), .pointer (some ⟨w.heap.size + 3, 0, none⟩)]] := by
    have h := Row.new wc 71 [.func (.func 80) #[] #[.pointer (some ⟨w.heap.size + 1, 0, none⟩), .pointer (some ⟨w.heap.size + 2, 0, none⟩), .pointer (some ⟨w.heap.size, 0, none⟩), .pointer (some ⟨w.heap.size + 3, 0, none⟩)]]
    rw [sc] at h
    rw [hwd]; exact h
  have hsz := tree_size ht
  have hcall := walk_any ns tn A c flo lo (w.heap.size + 1) (w.heap.size + 2) w.heap.size (w.heap.size + 3) ht.inr (by omega) (fun x hx => by have := kids_le ht hx; omega) ns.length 0 es (.slice Av es.length cv) wd hpos (by omega) (by rw [hsz]; omega) (hsl.below vNd_good hbd hlo) (by omega) (by omega) hlo (by omega) (by omega) rb rc ra rd (hnd.below hbd)
  rw [hwd, hwc, hwb, hwa] at hcall
  have HWD : Hid (wd = ((((w.alloc (.cells #[.slice Av es.length cv] 26)).alloc (.cells #[.slice A ns.length c] 26)).alloc (.cells #[.bool tn] 4)).alloc (.cells #[.func (.func 80) #[] #[.pointer (some ⟨w.heap.size + 1, 0, none⟩), .pointer (some ⟨w.heap.size + 2, 0, none⟩), .pointer (some ⟨w.heap.size, 0, none⟩), .pointer (some ⟨w.heap.size + 3, 0, none⟩)]] 71))) := by
    show _ = _
    rw [hwd, hwc, hwb, hwa]
  have HSD := Lib.hid sd
  clear hwa hwb hwc hwd sa sb sc sd hsz
  go_enter Tryz.func49, Tryz.ntmps49
  go_wp2_with fail
  refine hcall.mono ?_
  rw [← HWD.out]
  rintro e w5 ⟨rfl, v5, es5, hr5, hn5, hes5, hF5, hat5⟩
  have HE := Lib.hid hes5
  clear hes5 hcall
  obtain ⟨c5, f5⟩ := hr5.cel (i := 0) rfl
  go_wp2_with fail
  go_ret
  refine ⟨v5, es5, rfl, hn5, HE.out, (Fr.of_below hbd).trans hF5 (fun k h1 h2 => ?_)⟩
  rcases h2 with h2 | h2
  · omega
  · exact h2
end Go.Proofs.YtimhlnndobfehaaGreatDoor
namespace Go.Proofs.YtimhlnndobfehaaGreatDoor
open Go.RowKit
set_option linter.unusedVariables false

/-- A pattern of new memory. -/
def PatRes (w w' : World) (v : Value) (ns : List Nd) : Prop := ∃ u es, v = .agg #[u] ∧ Nodes w' w.heap.size u es ∧ es.map Prod.fst = ns ∧ Below w.heap.size w w'
theorem PatRes.nothing {w w' : World} (h : Below w.heap.size w w') : PatRes w w' (.agg #[.slice none 0 0]) [] := ⟨_, [], rfl, Nodes.nil _ _, rfl, h⟩

theorem Nodes.low {w : World} {lo lo' : Nat} {v : Value} {es : List (Nd × Value)} (h : Nodes w lo v es) (hl : lo' ≤ lo) : Nodes w lo' v es :=
  ⟨own_low h.row hl, fun i x u hi => ⟨own_low (h.kid i x u hi).1 hl, (h.kid i x u hi).2⟩, h.far, h.apart⟩
theorem PatRes.up {w wA w1 : World} {H : Nat} {v : Value} {ns : List Nd} (h : PatRes wA w1 v ns) (hb : Below w.heap.size w wA) (hH : w.heap.size ≤ H) (hA : H < wA.heap.size) (z : Value) : PatRes w (w1.setCell ⟨H, 0, none⟩ z) v ns := by
  obtain ⟨u, es, rfl, hn, he, hB⟩ := h
  refine ⟨u, es, rfl, (hn.same fun g hg => Below.heap_setCell _ _ _ g (fun e => ?_)).low hb.size, he, (hb.trans (hB.mono hb.size)).setCell hH _⟩
  have := (hn.lt hg).1
  simp only at e
  omega
theorem res_cell {fn : Func} {p : Tmp} (h : fn.results = #[.cell p 28]) (tmps : Array Value) (w : World) (g : Nat) (u : Value) (hp : tmps.getD p undef = .pointer (some ⟨g, 0, none⟩)) (hg : Row w g 28 [u]) :
    (results fn tmps).run Tryz.prog w = .ok (.agg #[u]) w :=
  results_cell_row h tmps w g 28 #[u] (0, 0) _ hp hg Tryz.underlying28 rfl (by kernel_rfl)
theorem res_cell_tmp {fn : Func} {p q : Tmp} (h : fn.results = #[.cell p 28, .tmp q]) (tmps : Array Value) (w : World) (g : Nat) (u : Value) (hp : tmps.getD p undef = .pointer (some ⟨g, 0, none⟩)) (hg : Row w g 28 [u]) :
    (results fn tmps).run Tryz.prog w = .ok (.tuple #[.agg #[u], tmps.getD q undef]) w := by
  have hl := run_loadVar_row (P := Tryz.prog) w g 28 28 #[u] (0, 0) _ hg Tryz.underlying28 rfl (by kernel_rfl)
  rw [results_cell_tmp h, hp]
  simp [asAddr, hl, Result.andThen]

def leafN (k r p m : Int) : Nd := ⟨k, r, p, m, []⟩
section
variable (k r p m : Int) (w : World)
end
end Go.Proofs.YtimhlnndobfehaaGreatDoor
