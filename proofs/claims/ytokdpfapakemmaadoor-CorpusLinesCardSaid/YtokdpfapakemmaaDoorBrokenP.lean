/- The program's Broken. -/
import Derived.Test.YtokdpfapakemmaaDoorEachBroken
import Derived.Test.YtokdpfapakemmaaDoorPiecesP
import Derived.Test.YtokdpfapakemmaaDoorLinesSpec
namespace Go.Proofs.YtokdpfapakemmaaDoor
open Go.RowKit Go.Lib
set_option linter.unusedVariables false

def BrkI (w : World) (l : List Pc) (wa : World) : Prop :=
  Utf8Tabs 1 2 w ∧ Below w.heap.size w wa ∧ w.heap.size + 1 ≤ wa.heap.size ∧ Row wa w.heap.size 3 [.int .i64 (-1)] ∧ ∀ p ∈ l, p.broken = false
def BrkJ (w : World) (l : List Pc) (wa : World) : Prop := ∃ k : Nat, k ≤ 65536 ∧ Below w.heap.size w wa ∧ Row wa w.heap.size 3 [.int .i64 (k : Int)]
def BrokenOut (s : ByteArray) (e : Ending) : Prop := ∃ r : Int, e = .returned (.tuple #[.int .i64 r, .int .i64 0]) ∧ -1 ≤ r ∧ r ≤ 65536 ∧ (r < 0 → Sound s)
theorem pcs_at_le {s : ByteArray} {p : Pc} (hp : p ∈ pcs s) : p.at_ < s.size := by
  obtain ⟨k, hk, rfl⟩ := List.getElem_of_mem hp
  obtain ⟨e, hlt⟩ := pcs_at s 0 k hk
  have e' : (pcs s)[k] = pcAt s (placeOf s 0 k) := e
  rw [e']
  exact hlt

set_option maxHeartbeats 4000000 in
set_option maxRecDepth 100000 in
theorem broken_cl (s : ByteArray) (w : World) (hs : s.size ≤ 65536) (wa : World) (l : List Pc) (p : Pc) (r : List Pc) (hp : pcs s = l ++ p :: r) (hI : BrkI w l wa) (hit : w.heap.size + 1 < wa.heap.size) :
    Calls Tryd.prog 31 #[vPc p, .pointer (some ⟨w.heap.size, 0, none⟩)] wa fun e w' =>
      ((e = .returned (.bool true) ∧ BrkI w (l ++ [p]) w') ∨ (e = .returned (.bool false) ∧ BrkJ w (l ++ [p]) w')) ∧ ∀ pos, wa.heap[w.heap.size + 1]? = some (.stringIter s pos) → w'.heap[w.heap.size + 1]? = some (.stringIter s pos) := by
  obtain ⟨hT, hb, hz, hr, hl⟩ := hI
  have hat : p.at_ < s.size := pcs_at_le (by rw [hp]; simp)
  have hrA := Row.new wa 66 [.int .i32 p.rune, .int .i64 p.at_, .int .i64 p.len, .bool p.broken]
  have hal : Below wa.heap.size wa (wa.alloc (.cells #[.int .i32 p.rune, .int .i64 p.at_, .int .i64 p.len, .bool p.broken] 66)) := (Below.refl _ _).alloc (Nat.le_refl _) _
  have hr1 := hr.below hal hr.lt
  have hbA : Below w.heap.size w (wa.alloc (.cells #[.int .i32 p.rune, .int .i64 p.at_, .int .i64 p.len, .bool p.broken] 66)) := hb.trans (hal.mono (by omega))
  obtain ⟨c0, f0⟩ := hr.cel (i := 0) rfl
  have hlt := hr.lt
  have hitA : ∀ pos, wa.heap[w.heap.size + 1]? = some (.stringIter s pos) → (wa.alloc (.cells #[.int .i32 p.rune, .int .i64 p.at_, .int .i64 p.len, .bool p.broken] 66)).heap[w.heap.size + 1]? = some (.stringIter s pos) := fun pos hh => (hal.block _ hit).trans hh
  rw [show vPc p = .agg #[.int .i32 p.rune, .int .i64 p.at_, .int .i64 p.len, .bool p.broken] from rfl]
  have HP := Lib.hid hp
  clear hp hal hrA
  obtain ⟨rune, at_, len, broken⟩ := p
  simp only at *
  cases broken with
  | true =>
    have hfin : BrkJ w (l ++ [⟨rune, at_, len, true⟩]) ((wa.setCell ⟨w.heap.size, 0, none⟩ (.int .i64 at_)).alloc (.cells #[.int .i32 rune, .int .i64 at_, .int .i64 len, .bool true] 66)) := ⟨at_, by omega, (hb.setCell (Nat.le_refl _) _).alloc (by simp; omega) _, (hr.set_ 0 _).alloc _⟩
    have hitB : ∀ pos, wa.heap[w.heap.size + 1]? = some (.stringIter s pos) → ((wa.setCell ⟨w.heap.size, 0, none⟩ (.int .i64 at_)).alloc (.cells #[.int .i32 rune, .int .i64 at_, .int .i64 len, .bool true] 66)).heap[w.heap.size + 1]? = some (.stringIter s pos) := fun pos hh =>
      (Below.heap_alloc _ _ _ (by simp; omega)).trans ((Below.heap_setCell _ _ _ _ (by show w.heap.size + 1 ≠ w.heap.size; omega)).trans hh)
    clear hr1 hbA hitA hr
    go_enter Tryd.func31, Tryd.ntmps31
    go_wp2_with fail
    go_ret
    exact ⟨.inr ⟨rfl, hfin⟩, hitB⟩
  | false =>
    have hfin : BrkI w (l ++ [⟨rune, at_, len, false⟩]) (wa.alloc (.cells #[.int .i32 rune, .int .i64 at_, .int .i64 len, .bool false] 66)) := by
      refine ⟨hT, hbA, by simp; omega, hr1, fun q hq => ?_⟩
      rcases List.mem_append.1 hq with h | h
      · exact hl q h
      · rw [List.mem_singleton.1 h]
    clear hr1 hbA hr
    go_enter Tryd.func31, Tryd.ntmps31
    go_wp2_with fail
    go_ret
    exact ⟨.inl ⟨rfl, hfin⟩, hitA⟩
theorem broken_each (s : ByteArray) (w : World) (hs : s.size ≤ 65536) : EachOk s (w.heap.size + 1) 31 w.heap.size (BrkI w) (BrkJ w) where
  tabs := fun l wa ⟨h1, h2, h3, _⟩ => ⟨Utf8Tabs_below h1 h2, h3⟩
  keep := fun l wa wb ⟨h1, h2, h3, h4, h5⟩ hk => ⟨h1, hk.below h2 (by omega) (by omega), Nat.le_trans h3 hk.size, hk.hrow h4, h5⟩
  call := fun l p r wa hp hI hit => broken_cl s w hs wa l p r hp hI hit

set_option maxHeartbeats 2000000 in
theorem broken_any (s : ByteArray) (w : World) (hs : s.size ≤ 65536) (hT : Utf8Tabs 1 2 w) : Calls Tryd.prog 13 #[.string s] w fun e w' => BrokenOut s e ∧ Below w.heap.size w w' := by
  have hE := broken_each s w hs
  have hI : BrkI w [] (w.alloc (.cells #[.int .i64 (-1)] 3)) := ⟨hT, (Below.refl _ _).alloc (Nat.le_refl _) _, by simp, Row.new w _ _, by simp⟩
  have hcall := each_broken s w.heap.size (w.alloc (.cells #[.int .i64 (-1)] 3)) (BrkI w) (BrkJ w) (by simpa using hE) hs hI
  have HC := Lib.hid hcall
  clear hcall hE hI
  go_enter Tryd.func13, Tryd.ntmps13
  go_wp2_with (go_at_call 29; refine (long_rok s _ hs).mono ?_; rintro e w' ⟨rfl, rfl⟩)
  refine HC.out.mono ?_
  rintro e w1 ⟨rfl, h | ⟨l, p, r, _, h⟩⟩
  · obtain ⟨_, hb, hz, hr, hl⟩ := h
    obtain ⟨c0, f0⟩ := hr.cel (i := 0) rfl
    have HL : Hid (Sound s) := hl
    clear hr hl
    go_wp2_with fail
    go_ret2
    exact ⟨⟨-1, rfl, by omega, by omega, fun _ => HL.out⟩, hb⟩
  · obtain ⟨k, hk, hb, hr⟩ := h
    obtain ⟨c0, f0⟩ := hr.cel (i := 0) rfl
    clear hr
    go_wp2_with fail
    go_ret2
    exact ⟨⟨k, rfl, by omega, by omega, fun h => by omega⟩, hb⟩
end Go.Proofs.YtokdpfapakemmaaDoor
