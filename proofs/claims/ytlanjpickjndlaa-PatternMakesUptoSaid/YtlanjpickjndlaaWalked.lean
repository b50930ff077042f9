/- pattern.walked, walked. -/
import Derived.Test.YtlanjpickjndlaaWalk1
import Derived.Laws.EntriesVeiled
namespace Go.Proofs.Ytlanjpickjndlaa
open Go.RowKit
set_option linter.unusedVariables false

set_option maxHeartbeats 4000000 in
set_option maxRecDepth 100000 in
theorem walked_any {ns : List Nd} (tn : Bool) {A : Option Addr} {c flo lo : Nat} {v : Value} {es : List (Nd × Value)} {w : World} (ht : IsTree ns) (hes : es.length ≤ 4000) (hlo : lo ≤ w.heap.size)
    (hsl : Sl 5 vNd w flo lo A ns) (hnd : Nodes w lo v es) :
    Calls Try.prog 30 #[v, .slice A ns.length c, .int .i64 0, .bool tn] w fun e w' =>
      ∃ v' es', e = .returned v' ∧ Nodes w' lo v' (es ++ es') ∧ es'.map Prod.fst = sub ns tn ns.length es.length 0 ∧ Fr (fun k => v.ownBlock = some k) w w' := by
  have hpos := ht.pos
  have hmax := ht.max
  obtain ⟨Av, cv, rfl, _, _⟩ := own_form hnd.row
  obtain ⟨wa, hwa⟩ : ∃ wa : World, wa = w.alloc (.cells #[.slice Av es.length cv] 23) := ⟨_, rfl⟩
  obtain ⟨wb, hwb⟩ : ∃ wb : World, wb = wa.alloc (.cells #[.slice A ns.length c] 23) := ⟨_, rfl⟩
  obtain ⟨wc, hwc⟩ : ∃ wc : World, wc = wb.alloc (.cells #[.bool tn] 4) := ⟨_, rfl⟩
  obtain ⟨wd, hwd⟩ : ∃ wd : World, wd = wc.alloc (.cells #[.func (.func 38) #[] #[.pointer (some ⟨w.heap.size + 1, 0, none⟩), .pointer (some ⟨w.heap.size + 2, 0, none⟩), .pointer (some ⟨w.heap.size, 0, none⟩), .pointer (some ⟨w.heap.size + 3, 0, none⟩)]] 50) := ⟨_, rfl⟩
  have sa : wa.heap.size = w.heap.size + 1 := by rw [hwa]; simp
  have sb : wb.heap.size = w.heap.size + 2 := by rw [hwb]; simp; omega
  have sc : wc.heap.size = w.heap.size + 3 := by rw [hwc]; simp; omega
  have sd : wd.heap.size = w.heap.size + 4 := by rw [hwd]; simp; omega
  have hbd : Below w.heap.size w wd := by
    have h1 : Below w.heap.size w wa := by rw [hwa]; exact (Below.refl _ _).alloc (Nat.le_refl _) _
    have h2 : Below w.heap.size w wb := by rw [hwb]; exact h1.alloc (by omega) _
    have h3 : Below w.heap.size w wc := by rw [hwc]; exact h2.alloc (by omega) _
    rw [hwd]; exact h3.alloc (by omega) _
  have ra : Row wd w.heap.size 23 [.slice Av es.length cv] := by
    have h : Row wa w.heap.size 23 [.slice Av es.length cv] := by rw [hwa]; exact Row.new w _ _
    rw [hwd, hwc, hwb]; exact ((h.alloc _).alloc _).alloc _
  have rb : Row wd (w.heap.size + 1) 23 [.slice A ns.length c] := by
    have h : Row wb wa.heap.size 23 [.slice A ns.length c] := by rw [hwb]; exact Row.new wa _ _
    rw [sa] at h
    rw [hwd, hwc]; exact (h.alloc _).alloc _
  have rc : Row wd (w.heap.size + 2) 4 [.bool tn] := by
    have h : Row wc wb.heap.size 4 [.bool tn] := by rw [hwc]; exact Row.new wb _ _
    rw [sb] at h
    rw [hwd]; exact h.alloc _
  have rd : Row wd (w.heap.size + 3) 50 [.func (.func 38) #[] #[.pointer (some ⟨w.heap.size + 1, 0, none⟩), .pointer (some ⟨w.heap.size + 2, 0, none⟩), .pointer (some ⟨w.heap.size, 0, none⟩), .pointer (some ⟨w.heap.size + 3, 0, none⟩)]] := by
    have h := Row.new wc 50 [.func (.func 38) #[] #[.pointer (some ⟨w.heap.size + 1, 0, none⟩), .pointer (some ⟨w.heap.size + 2, 0, none⟩), .pointer (some ⟨w.heap.size, 0, none⟩), .pointer (some ⟨w.heap.size + 3, 0, none⟩)]]
    rw [sc] at h
    rw [hwd]; exact h
  have hsz := tree_size ht
  have hcall := walk_any ns tn A c flo lo (w.heap.size + 1) (w.heap.size + 2) w.heap.size (w.heap.size + 3) ht.inr (by omega) (fun x hx => by have := kids_le ht hx; omega) ns.length 0 es (.slice Av es.length cv) wd hpos (by omega) (by rw [hsz]; omega) (hsl.below vNd_good hbd hlo) (by omega) (by omega) hlo (by omega) (by omega) rb rc ra rd (hnd.below hbd)
  rw [hwd, hwc, hwb, hwa] at hcall
  have HWD : Hid (wd = ((((w.alloc (.cells #[.slice Av es.length cv] 23)).alloc (.cells #[.slice A ns.length c] 23)).alloc (.cells #[.bool tn] 4)).alloc (.cells #[.func (.func 38) #[] #[.pointer (some ⟨w.heap.size + 1, 0, none⟩), .pointer (some ⟨w.heap.size + 2, 0, none⟩), .pointer (some ⟨w.heap.size, 0, none⟩), .pointer (some ⟨w.heap.size + 3, 0, none⟩)]] 50))) := by
    show _ = _
    rw [hwd, hwc, hwb, hwa]
  have HSD := Lib.hid sd
  clear hwa hwb hwc hwd sa sb sc sd hsz
  go_enter Try.func30, Try.ntmps30
  go_wp2_with fail
  refine hcall.mono ?_
  rw [← HWD.out]
  rintro e w5 ⟨rfl, v5, es5, hr5, hn5, hes5, hF5, hat5⟩
  have HE := Lib.hid hes5
  clear hes5 hcall
  obtain ⟨c5, f5⟩ := hr5.cel (i := 0) rfl
  go_wp2_with fail
  go_ret
  refine ⟨v5, es5, rfl, hn5, HE.out, (Fr.of_below hbd).trans hF5 (fun k h1 h2 => ?_)⟩
  rcases h2 with h2 | h2
  · omega
  · exact h2
end Go.Proofs.Ytlanjpickjndlaa
