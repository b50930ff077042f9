/- The program's Pieces. -/
import Derived.Test.YtimhlnndobfehaaDoorMc19
import Derived.Deep.AppendLies
namespace Go.Proofs.YtimhlnndobfehaaDoor
open Go.RowKit Go.Lib
set_option linter.unusedVariables false

def PcsI (w : World) (l : List Pc) (wa : World) : Prop :=
  Utf8Tabs 0 1 w ∧ Below w.heap.size w wa ∧ w.heap.size + 1 ≤ wa.heap.size ∧ l.length ≤ 65536 ∧
    ∃ A c, Row wa w.heap.size 147 [.slice A l.length c] ∧ wa.ownsRow (w.heap.size + 1) 151 4 (.slice A l.length c) l.length (pcFlat l)

set_option maxHeartbeats 1000000 in
theorem long_rok (s : ByteArray) (w : World) (hs : s.size ≤ 65536) : Calls Tryd.prog 114 #[.string s] w fun e w' => e = .returned (.int .i64 0) ∧ w = w' := by
  go_enter Tryd.func114, Tryd.ntmps114
  go_wp2_with fail
  go_ret
  exact ⟨rfl, rfl⟩
set_option maxHeartbeats 4000000 in
set_option maxRecDepth 100000 in
theorem pieces_cl (s : ByteArray) (w : World) (hs : s.size ≤ 65536) (wa : World) (l : List Pc) (p : Pc) (r : List Pc) (hp : pcs s = l ++ p :: r) (hI : PcsI w l wa) (hit : w.heap.size + 1 < wa.heap.size) :
    Calls Tryd.prog 116 #[vPc p, .pointer (some ⟨w.heap.size, 0, none⟩)] wa fun e w' =>
      ((e = .returned (.bool true) ∧ PcsI w (l ++ [p]) w') ∨ (e = .returned (.bool false) ∧ False)) ∧ ∀ pos, wa.heap[w.heap.size + 1]? = some (.stringIter s pos) → w'.heap[w.heap.size + 1]? = some (.stringIter s pos) := by
  obtain ⟨i1, hi1, hy0, hy1, hy2⟩ := info_parts piece_info
  obtain ⟨hT, hb, hz, hll, Av, cv, hr, hown⟩ := hI
  have hlen := pcs_le s
  rw [hp, List.length_append, List.length_cons] at hlen
  rw [show vPc p = .agg #[.int .i32 p.rune, .int .i64 p.at_, .int .i64 p.len, .bool p.broken] from rfl]
  obtain ⟨hrA, hrB, hal⟩ := boxes2 wa 151 [.int .i32 p.rune, .int .i64 p.at_, .int .i64 p.len, .bool p.broken] [.int .i32 p.rune, .int .i64 p.at_, .int .i64 p.len, .bool p.broken]
  have hr1 := hr.below hal hr.lt
  have hownA := own_below hown hal
  have hnews := hrB.news
  have hone : ∀ u ∈ [Value.int .i32 p.rune, .int .i64 p.at_, .int .i64 p.len, .bool p.broken], u.oneCell' = true := by
    intro u hu
    simp only [List.mem_cons, List.not_mem_nil, or_false] at hu
    rcases hu with rfl | rfl | rfl | rfl <;> rfl
  have h63 : l.length + 1 ≤ maxLen := by unfold maxLen; omega
  have hby : (l.length + 1) * 32 ≤ 140737488355328 := by omega
  have hlo : w.heap.size + 1 ≤ ((wa.alloc (.cells #[.int .i32 p.rune, .int .i64 p.at_, .int .i64 p.len, .bool p.broken] 151)).alloc (.cells #[.int .i32 p.rune, .int .i64 p.at_, .int .i64 p.len, .bool p.broken] 151)).heap.size := by have := hal.size; omega
  obtain ⟨c0, f0⟩ := hr.cel (i := 0) rfl
  have hlt := hr.lt
  have HP := Lib.hid hp
  clear hp
  go_enter Tryd.func116, Tryd.ntmps116
  go_wp2_with (at_builtin; refine wpList_append_lies _ rfl _ _ 147 rfl (w.heap.size + 1) 151 i1 (.agg #[.int .i32 0, .int .i64 0, .int .i64 0, .bool false]) 4 32 Tryd.underlying147 hi1 hy0 hy1 hy2 rfl (by decide) (.slice Av l.length cv) l.length (pcFlat l) rfl hownA ⟨wa.heap.size + 1, 0, none⟩ 1 1 [.int .i32 p.rune, .int .i64 p.at_, .int .i64 p.len, .bool p.broken] rfl rfl hnews hone (by decide) h63 hby hlo _ rfl ?_)
  intro g cap w2 hown2 hgr2 hat2 hlt2
  have hr2 := hr1.grown hgr2 (fun e => row_ne_own hr hown (by decide) e.symm)
  obtain ⟨c2, f2⟩ := hr2.cel (i := 0) rfl
  have hge : ∀ k, (Value.slice Av l.length cv).ownBlock = some k → w.heap.size + 1 ≤ k := fun k hk => (hown.lt k hk).1
  have hb2 : Below w.heap.size w w2 := (hb.trans (hal.mono (by omega))).grown hgr2 (by omega) (fun j hj => by have := hge j hj; omega)
  have hit2 : ∀ pos, wa.heap[w.heap.size + 1]? = some (.stringIter s pos) → w2.heap[w.heap.size + 1]? = some (.stringIter s pos) := fun pos hh => by
    refine (hgr2.block _ (by have := hal.size; omega) (fun e => ?_)).trans ((hal.block _ hit).trans hh)
    rcases hown.2 with ⟨hv, _⟩ | ⟨g', cap', cur, hv, _, hh', _⟩
    · rw [hv] at e
      simp [Value.ownBlock] at e
    · rw [hv] at e
      simp only [Value.ownBlock, Option.some.injEq] at e
      subst e
      rw [hh] at hh'
      cases hh'
  have hz2 : wa.heap.size ≤ w2.heap.size := Nat.le_trans hal.size hgr2.size
  have hfin : PcsI w (l ++ [p]) (w2.setCell ⟨w.heap.size, 0, none⟩ (.slice (some ⟨g, 0, none⟩) (l.length + 1) cap)) := by
    refine ⟨hT, hb2.setCell (Nat.le_refl _) _, by simp; omega, by simp; omega, some ⟨g, 0, none⟩, cap, ?_, ?_⟩
    · rw [List.length_append, List.length_singleton]
      exact hr2.set_ 0 _
    · rw [List.length_append, List.length_singleton, pcFlat_snoc]
      exact own_same hown2 fun g' hg' => Below.heap_setCell _ _ _ g' (fun e => by have := (hown2.lt g' hg').1; simp only at e; omega)
  have hit3 : ∀ pos, wa.heap[w.heap.size + 1]? = some (.stringIter s pos) → (w2.setCell ⟨w.heap.size, 0, none⟩ (.slice (some ⟨g, 0, none⟩) (l.length + 1) cap)).heap[w.heap.size + 1]? = some (.stringIter s pos) := fun pos hh =>
    (Below.heap_setCell _ _ _ _ (by show w.heap.size + 1 ≠ w.heap.size; omega)).trans (hit2 pos hh)
  clear hgr2 hr2 hown2 hT hit2 hb2 hat2 hownA hnews hr1 hrA hrB hal hone hr hown
  go_wp2_with fail
  go_ret
  exact ⟨.inl ⟨rfl, hfin⟩, hit3⟩
theorem pieces_each (s : ByteArray) (w : World) (hs : s.size ≤ 65536) : EachOk s (w.heap.size + 1) 116 w.heap.size (PcsI w) (fun _ _ => False) where
  tabs := fun l wa ⟨h1, h2, h3, _⟩ => ⟨Utf8Tabs_below h1 h2, h3⟩
  keep := fun l wa wb ⟨h1, h2, h3, h4, A, c, h5, h6⟩ hk => ⟨h1, hk.below h2 (by omega) (by omega), Nat.le_trans h3 hk.size, h4, A, c, hk.hrow h5, hk.own h6⟩
  call := fun l p r wa hp hI hit => pieces_cl s w hs wa l p r hp hI hit
set_option maxHeartbeats 2000000 in
theorem pieces_any (s : ByteArray) (w : World) (hs : s.size ≤ 65536) (hT : Utf8Tabs 0 1 w) : Calls Tryd.prog 93 #[.string s] w (PcsOut2 (pcs s) w) := by
  have hE := pieces_each s w hs
  have hI : PcsI w [] (w.alloc (.cells #[.slice none 0 0] 147)) := ⟨hT, (Below.refl _ _).alloc (Nat.le_refl _) _, by simp, by simp, none, 0, Row.new w _ _, World.ownsRow_nil _ _ _ _⟩
  have hcall := each_pieces s w.heap.size (w.alloc (.cells #[.slice none 0 0] 147)) (PcsI w) (fun _ _ => False) (by simpa using hE) hs hI
  have HC := Lib.hid hcall
  clear hcall hE hI
  go_enter Tryd.func93, Tryd.ntmps93
  go_wp2_with (go_at_call 114; refine (long_rok s _ hs).mono ?_; rintro e w' ⟨rfl, rfl⟩)
  refine HC.out.mono ?_
  rintro e w1 ⟨rfl, h | ⟨l, p, r, _, h⟩⟩
  · obtain ⟨_, hb, hz, hl, A, c, hr, hown⟩ := h
    obtain ⟨c0, f0⟩ := hr.cel (i := 0) rfl
    obtain ⟨A', c', e, h1, h2, h3⟩ := own_sl hown (pcFlat_fits (lo := w.heap.size) (hi := w1.heap.size) (pcs s) (fun p hp => pcs_ok s (by omega) hp)) vPiece_good (by omega) (Nat.le_refl _)
    injection e with e1 _ e2
    subst e1 e2
    clear hr hown
    go_wp2_with fail
    go_ret2
    exact ⟨A, c, rfl, h1, h2, h3, hb⟩
  · exact h.elim
end Go.Proofs.YtimhlnndobfehaaDoor
