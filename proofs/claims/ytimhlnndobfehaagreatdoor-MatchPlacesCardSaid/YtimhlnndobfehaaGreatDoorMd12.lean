/- The program's each, with the function value of Pieces. The program's Pieces. -/
import Derived.Test.YtimhlnndobfehaaGreatDoorMd11
import Derived.Deep.AppendLies
namespace Go.Proofs.YtimhlnndobfehaaGreatDoor
open Go.RowKit Go.Lib
set_option linter.unusedVariables false

set_option maxHeartbeats 4000000 in
set_option maxRecDepth 100000 in
theorem each_pieces (s : ByteArray) (b : Nat) (w : World) (I J : List Pc → World → Prop) (ho : EachOk s w.heap.size 158 b I J) (hs : s.size ≤ 65536) (hI : I [] w) :
    Calls Tryz.prog 157 #[.string s, .func (.func 158) #[] #[.pointer (some ⟨b, 0, none⟩)]] w (EachOut s I J) := by
  have HO := Lib.hid ho
  clear ho
  go_enter Tryz.func157, Tryz.ntmps157
  go_wp2_with fail
  go_loopw [] (fun wr => EachSt s w.heap.size I wr) (fun wr => s.size - wr.iterPos w.heap.size)
  case atStart =>
    exact ⟨0, [], by omega, rfl, HO.out.keep _ _ _ hI ((CellsKept.refl w.heap.size w).alloc _), World.iter_heap w s 0⟩
  case round =>
    obtain ⟨pos, l, hpos, hl, hIl, hit⟩ := hrel
    by_cases hp : pos < s.size
    · have hnx : ∀ ty, (Instr.next (.pointer (some ⟨w.heap.size, 0, none⟩)) true ty).run Tryz.prog wr = _ := fun ty => Lib.run_next_any_at wr w.heap.size s pos ty hit hp
      have hw := decode_width s pos hp
      have hrn := decode_rune s pos
      have hstep := pcsFrom_step s pos hp
      have hdl := decode_len s pos
      have hdt := decode_tail s pos hp
      obtain ⟨hT, hz⟩ := HO.out.tabs _ _ hIl
      have hitl := (Array.getElem?_eq_some_iff.1 hit).1
      have hk1 : CellsKept w.heap.size wr (wr.iterAt w.heap.size s (pos + (Utf8.decode s pos).2)) := (CellsKept.refl w.heap.size wr).iterAt hit _
      have hit1 := Lib.iterAt_heap wr w.heap.size s pos (pos + (Utf8.decode s pos).2) hit
      have hz1 := Lib.iterAt_size wr w.heap.size s (pos + (Utf8.decode s pos).2)
      have HQ : Hid (pcAt s pos = ⟨((Utf8.decode s pos).1 : Int), pos, (Utf8.decode s pos).2, decide ((Utf8.decode s pos).1 = 65533 ∧ (Utf8.decode s pos).2 = 1)⟩) := rfl
      have hgo : decodeGo (s.extract pos s.size) = Utf8.decode s pos := by
        unfold decodeGo
        rw [if_neg (by rw [ByteArray.size_extract]; omega), hdt]
      rw [hstep] at hl
      clear hdt hstep
      generalize pcAt s pos = x at *
      generalize hD : Utf8.decode s pos = D at *
      obtain ⟨r, n⟩ := D
      simp only at *
      generalize hW1 : wr.iterAt w.heap.size s (pos + n) = W1 at *
      have HD := Lib.hid hD
      have HGO := Lib.hid hgo
      have HL := Lib.hid hl
      have HZ := Lib.hid hz1
      clear hD hW1 hgo hl hz1
      by_cases h65 : r = 65533
      · subst h65
        have HDEC : Hid (∀ wx, Utf8Tabs 0 1 wx → Calls Tryz.prog 140 #[.string (s.extract pos s.size)] wx fun e w' => e = .returned (.tuple #[.int .i32 65533, .int .i64 (n : Int)]) ∧ Below wx.heap.size wx w') := by
          intro wx hx
          have := Tryz.utf8_DecodeRuneInString (s.extract pos s.size) wx hx
          rw [HGO.out] at this
          exact this
        have HRL : Hid (∀ wx, Calls Tryz.prog 174 #[.int .i32 65533] wx fun e w' => e = .returned (.int .i64 3) ∧ wx = w') := by
          intro wx
          exact calls_flip (Tryz.utf8_RuneLen 65533 wx)
        have hk2 : CellsKept w.heap.size wr (W1.alloc (.cells #[.int .i32 65533, .int .i64 (pos : Int), .int .i64 3, .bool false] 174)) := hk1.alloc _
        have hT2 := hk2.tabs hT
        have hit2 : (W1.alloc (.cells #[.int .i32 65533, .int .i64 (pos : Int), .int .i64 3, .bool false] 174)).heap[w.heap.size]? = some (.stringIter s (pos + n)) := (Below.heap_alloc _ _ _ (by rw [HZ.out]; exact hitl)).trans hit1
        have hr2 := Row.new W1 174 [.int .i32 65533, .int .i64 (pos : Int), .int .i64 3, .bool false]
        by_cases h1 : n = 1
        · subst h1
          have HX : Hid (vPc x = .agg #[.int .i32 65533, .int .i64 (pos : Int), .int .i64 1, .bool true]) := by
            show _ = _
            rw [HQ.out]
            rfl
          clear hdl HQ
          go_wp2_with (go_at_call 174; refine (HRL.out _).mono ?_; rintro e w' ⟨rfl, rfl⟩)
          refine (HDEC.out _ hT2).mono ?_
          rintro e w3 ⟨rfl, hb3⟩
          have hr3 := hr2.below hb3 hr2.lt
          have hl3 := hr3.lt
          obtain ⟨c0, f0⟩ := hr3.cel (i := 0) rfl
          obtain ⟨c1, f1⟩ := hr3.cel (i := 1) rfl
          obtain ⟨c2, f2⟩ := hr3.cel (i := 2) rfl
          obtain ⟨c3, f3⟩ := hr3.cel (i := 3) rfl
          have hzz : wr.heap.size ≤ W1.heap.size := by rw [HZ.out]; exact Nat.le_refl _
          have hk4 : CellsKept w.heap.size wr ((w3.setCell ⟨W1.heap.size, 2, none⟩ (.int .i64 1)).setCell ⟨W1.heap.size, 3, none⟩ (.bool true)) := ((hk2.trans (CellsKept.of_below hb3)).setCell hzz _).setCell hzz _
          have hI4 := HO.out.keep _ _ _ hIl hk4
          have hit4 : ((w3.setCell ⟨W1.heap.size, 2, none⟩ (.int .i64 1)).setCell ⟨W1.heap.size, 3, none⟩ (.bool true)).heap[w.heap.size]? = some (.stringIter s (pos + 1)) :=
            (Below.heap_setCell _ _ _ _ (by show w.heap.size ≠ W1.heap.size; omega)).trans ((Below.heap_setCell _ _ _ _ (by show w.heap.size ≠ W1.heap.size; omega)).trans ((hb3.block _ (by simp; omega)).trans hit2))
          have hcall := HO.out.call l x _ _ HL.out hI4 (by have := (Array.getElem?_eq_some_iff.1 hit4).1; exact this)
          rw [HX.out] at hcall
          clear hk4 hI4 hk2 hT2 hr2 hr3
          go_wp2_with fail
          refine hcall.mono ?_
          rintro e w5 ⟨h5 | h5, hit5⟩
          · obtain ⟨rfl, hI5⟩ := h5
            have hi5 := hit5 _ hit4
            clear hit4 hit5 hcall c0 c1 c2 c3 f0 f1 f2 f3
            go_wp2_with fail
            exact ⟨⟨pos + 1, l ++ [x], by omega, by rw [HL.out, List.append_assoc]; rfl, hI5, hi5⟩, by simp only [World.iterPos, hi5, hit]; omega⟩
          · obtain ⟨rfl, hJ5⟩ := h5
            clear hit4 hit5 hcall c0 c1 c2 c3 f0 f1 f2 f3
            go_wp2_with fail
            go_end0
            exact ⟨rfl, .inr ⟨l, x, _, HL.out, hJ5⟩⟩
        · have e1 : ((n : Int) == 1) = false := by rw [beq_eq_false_iff_ne]; omega
          have hn : (n : Int) = 3 := by
            rcases hdl with h | h
            · rw [h]; rfl
            · cases h
              omega
          have HX : Hid (vPc x = .agg #[.int .i32 65533, .int .i64 (pos : Int), .int .i64 3, .bool false]) := by
            show _ = _
            rw [HQ.out, ← hn]
            unfold vPc
            simp [h1]
          have HN := Lib.hid hn
          clear hdl HQ hn
          go_wp2_with (go_at_call 174; refine (HRL.out _).mono ?_; rintro e w' ⟨rfl, rfl⟩)
          refine (HDEC.out _ hT2).mono ?_
          rintro e w3 ⟨rfl, hb3⟩
          have hr3 := hr2.below hb3 hr2.lt
          have hl3 := hr3.lt
          obtain ⟨c0, f0⟩ := hr3.cel (i := 0) rfl
          obtain ⟨c1, f1⟩ := hr3.cel (i := 1) rfl
          obtain ⟨c2, f2⟩ := hr3.cel (i := 2) rfl
          obtain ⟨c3, f3⟩ := hr3.cel (i := 3) rfl
          have hzz : wr.heap.size ≤ W1.heap.size := by rw [HZ.out]; exact Nat.le_refl _
          have hk4 : CellsKept w.heap.size wr w3 := hk2.trans (CellsKept.of_below hb3)
          have hI4 := HO.out.keep _ _ _ hIl hk4
          have hit4 : w3.heap[w.heap.size]? = some (.stringIter s (pos + n)) := (hb3.block _ (by simp; omega)).trans hit2
          have hcall := HO.out.call l x _ _ HL.out hI4 (by have := (Array.getElem?_eq_some_iff.1 hit4).1; exact this)
          rw [HX.out] at hcall
          clear hk4 hI4 hk2 hT2 hr2 hr3
          go_wp2_with fail
          refine hcall.mono ?_
          rintro e w5 ⟨h5 | h5, hit5⟩
          · obtain ⟨rfl, hI5⟩ := h5
            have hi5 := hit5 _ hit4
            clear hit4 hit5 hcall c0 c1 c2 c3 f0 f1 f2 f3
            go_wp2_with fail
            exact ⟨⟨pos + n, l ++ [x], by omega, by rw [HL.out, List.append_assoc]; rfl, hI5, hi5⟩, by simp only [World.iterPos, hi5, hit]; omega⟩
          · obtain ⟨rfl, hJ5⟩ := h5
            clear hit4 hit5 hcall c0 c1 c2 c3 f0 f1 f2 f3
            go_wp2_with fail
            go_end0
            exact ⟨rfl, .inr ⟨l, x, _, HL.out, hJ5⟩⟩
      · have e65 : ((r : Int) == 65533) = false := by rw [beq_eq_false_iff_ne]; omega
        have hn : (n : Int) = runeLen (r : Int) := by
          rcases hdl with h | h
          · exact h
          · cases h
            omega
        have HX : Hid (vPc x = .agg #[.int .i32 (r : Int), .int .i64 (pos : Int), .int .i64 (runeLen (r : Int)), .bool false]) := by
          show _ = _
          rw [HQ.out, ← hn]
          unfold vPc
          simp [h65]
        have HN := Lib.hid hn
        clear hdl hn HQ
        have hk2 : CellsKept w.heap.size wr (W1.alloc (.cells #[.int .i32 (r : Int), .int .i64 (pos : Int), .int .i64 (runeLen (r : Int)), .bool false] 174)) := hk1.alloc _
        have hI2 := HO.out.keep _ _ _ hIl hk2
        have hit2 : (W1.alloc (.cells #[.int .i32 (r : Int), .int .i64 (pos : Int), .int .i64 (runeLen (r : Int)), .bool false] 174)).heap[w.heap.size]? = some (.stringIter s (pos + n)) := (Below.heap_alloc _ _ _ (by rw [HZ.out]; exact hitl)).trans hit1
        have hcall := HO.out.call l x _ _ HL.out hI2 (by simp; rw [HZ.out]; omega)
        rw [HX.out] at hcall
        go_wp2_with (go_at_call 174; refine (calls_flip (Tryz.utf8_RuneLen _ _)).mono ?_; rintro e w' ⟨rfl, rfl⟩)
        refine hcall.mono ?_
        rintro e w3 ⟨h3 | h3, hit3⟩
        · obtain ⟨rfl, hI3⟩ := h3
          have hi3 := hit3 _ hit2
          go_wp2_with fail
          exact ⟨⟨pos + n, l ++ [x], by omega, by rw [HL.out, List.append_assoc]; rfl, hI3, hi3⟩, by simp only [World.iterPos, hi3, hit]; omega⟩
        · obtain ⟨rfl, hJ3⟩ := h3
          go_wp2_with fail
          go_end0
          exact ⟨rfl, .inr ⟨l, x, _, HL.out, hJ3⟩⟩
    · have hnx : ∀ ty, (Instr.next (.pointer (some ⟨w.heap.size, 0, none⟩)) true ty).run Tryz.prog wr = _ := fun ty => Lib.run_next_end_at wr w.heap.size s pos ty hit hp
      have hfin : EachOut s I J (.returned (.tuple #[])) wr := by
        have : pos = s.size := by omega
        subst this
        rw [pcsFrom_end s _ (Nat.le_refl _), List.append_nil] at hl
        exact ⟨rfl, .inl (by rw [hl]; exact hIl)⟩
      go_wp2_with fail
      go_end0
      exact hfin
end Go.Proofs.YtimhlnndobfehaaGreatDoor
namespace Go.Proofs.YtimhlnndobfehaaGreatDoor
open Go.RowKit Go.Lib
set_option linter.unusedVariables false

def PcsI (w : World) (l : List Pc) (wa : World) : Prop :=
  Utf8Tabs 0 1 w ∧ Below w.heap.size w wa ∧ w.heap.size + 1 ≤ wa.heap.size ∧ l.length ≤ 65536 ∧
    ∃ A c, Row wa w.heap.size 170 [.slice A l.length c] ∧ wa.ownsRow (w.heap.size + 1) 174 4 (.slice A l.length c) l.length (pcFlat l)

set_option maxHeartbeats 1000000 in
theorem long_rok (s : ByteArray) (w : World) (hs : s.size ≤ 65536) : Calls Tryz.prog 156 #[.string s] w fun e w' => e = .returned (.int .i64 0) ∧ w = w' := by
  go_enter Tryz.func156, Tryz.ntmps156
  go_wp2_with fail
  go_ret
  exact ⟨rfl, rfl⟩
set_option maxHeartbeats 4000000 in
set_option maxRecDepth 100000 in
theorem pieces_cl (s : ByteArray) (w : World) (hs : s.size ≤ 65536) (wa : World) (l : List Pc) (p : Pc) (r : List Pc) (hp : pcs s = l ++ p :: r) (hI : PcsI w l wa) (hit : w.heap.size + 1 < wa.heap.size) :
    Calls Tryz.prog 158 #[vPc p, .pointer (some ⟨w.heap.size, 0, none⟩)] wa fun e w' =>
      ((e = .returned (.bool true) ∧ PcsI w (l ++ [p]) w') ∨ (e = .returned (.bool false) ∧ False)) ∧ ∀ pos, wa.heap[w.heap.size + 1]? = some (.stringIter s pos) → w'.heap[w.heap.size + 1]? = some (.stringIter s pos) := by
  obtain ⟨i1, hi1, hy0, hy1, hy2⟩ := info_parts piece_info
  obtain ⟨hT, hb, hz, hll, Av, cv, hr, hown⟩ := hI
  have hlen := pcs_le s
  rw [hp, List.length_append, List.length_cons] at hlen
  rw [show vPc p = .agg #[.int .i32 p.rune, .int .i64 p.at_, .int .i64 p.len, .bool p.broken] from rfl]
  obtain ⟨hrA, hrB, hal⟩ := boxes2 wa 174 [.int .i32 p.rune, .int .i64 p.at_, .int .i64 p.len, .bool p.broken] [.int .i32 p.rune, .int .i64 p.at_, .int .i64 p.len, .bool p.broken]
  have hr1 := hr.below hal hr.lt
  have hownA := own_below hown hal
  have hnews := hrB.news
  have hone : ∀ u ∈ [Value.int .i32 p.rune, .int .i64 p.at_, .int .i64 p.len, .bool p.broken], u.oneCell' = true := by
    intro u hu
    simp only [List.mem_cons, List.not_mem_nil, or_false] at hu
    rcases hu with rfl | rfl | rfl | rfl <;> rfl
  have h63 : l.length + 1 ≤ maxLen := by unfold maxLen; omega
  have hby : (l.length + 1) * 32 ≤ 140737488355328 := by omega
  have hlo : w.heap.size + 1 ≤ ((wa.alloc (.cells #[.int .i32 p.rune, .int .i64 p.at_, .int .i64 p.len, .bool p.broken] 174)).alloc (.cells #[.int .i32 p.rune, .int .i64 p.at_, .int .i64 p.len, .bool p.broken] 174)).heap.size := by have := hal.size; omega
  obtain ⟨c0, f0⟩ := hr.cel (i := 0) rfl
  have hlt := hr.lt
  have HP := Lib.hid hp
  clear hp
  go_enter Tryz.func158, Tryz.ntmps158
  go_wp2_with (at_builtin; refine wpList_append_lies _ rfl _ _ 170 rfl (w.heap.size + 1) 174 i1 (.agg #[.int .i32 0, .int .i64 0, .int .i64 0, .bool false]) 4 32 Tryz.underlying170 hi1 hy0 hy1 hy2 rfl (by decide) (.slice Av l.length cv) l.length (pcFlat l) rfl hownA ⟨wa.heap.size + 1, 0, none⟩ 1 1 [.int .i32 p.rune, .int .i64 p.at_, .int .i64 p.len, .bool p.broken] rfl rfl hnews hone (by decide) h63 hby hlo _ rfl ?_)
  intro g cap w2 hown2 hgr2 hat2 hlt2
  have hr2 := hr1.grown hgr2 (fun e => row_ne_own hr hown (by decide) e.symm)
  obtain ⟨c2, f2⟩ := hr2.cel (i := 0) rfl
  have hge : ∀ k, (Value.slice Av l.length cv).ownBlock = some k → w.heap.size + 1 ≤ k := fun k hk => (hown.lt k hk).1
  have hb2 : Below w.heap.size w w2 := (hb.trans (hal.mono (by omega))).grown hgr2 (by omega) (fun j hj => by have := hge j hj; omega)
  have hit2 : ∀ pos, wa.heap[w.heap.size + 1]? = some (.stringIter s pos) → w2.heap[w.heap.size + 1]? = some (.stringIter s pos) := fun pos hh => by
    refine (hgr2.block _ (by have := hal.size; omega) (fun e => ?_)).trans ((hal.block _ hit).trans hh)
    rcases hown.2 with ⟨hv, _⟩ | ⟨g', cap', cur, hv, _, hh', _⟩
    · rw [hv] at e
      simp [Value.ownBlock] at e
    · rw [hv] at e
      simp only [Value.ownBlock, Option.some.injEq] at e
      subst e
      rw [hh] at hh'
      cases hh'
  have hz2 : wa.heap.size ≤ w2.heap.size := Nat.le_trans hal.size hgr2.size
  have hfin : PcsI w (l ++ [p]) (w2.setCell ⟨w.heap.size, 0, none⟩ (.slice (some ⟨g, 0, none⟩) (l.length + 1) cap)) := by
    refine ⟨hT, hb2.setCell (Nat.le_refl _) _, by simp; omega, by simp; omega, some ⟨g, 0, none⟩, cap, ?_, ?_⟩
    · rw [List.length_append, List.length_singleton]
      exact hr2.set_ 0 _
    · rw [List.length_append, List.length_singleton, pcFlat_snoc]
      exact own_same hown2 fun g' hg' => Below.heap_setCell _ _ _ g' (fun e => by have := (hown2.lt g' hg').1; simp only at e; omega)
  have hit3 : ∀ pos, wa.heap[w.heap.size + 1]? = some (.stringIter s pos) → (w2.setCell ⟨w.heap.size, 0, none⟩ (.slice (some ⟨g, 0, none⟩) (l.length + 1) cap)).heap[w.heap.size + 1]? = some (.stringIter s pos) := fun pos hh =>
    (Below.heap_setCell _ _ _ _ (by show w.heap.size + 1 ≠ w.heap.size; omega)).trans (hit2 pos hh)
  clear hgr2 hr2 hown2 hT hit2 hb2 hat2 hownA hnews hr1 hrA hrB hal hone hr hown
  go_wp2_with fail
  go_ret
  exact ⟨.inl ⟨rfl, hfin⟩, hit3⟩
theorem pieces_each (s : ByteArray) (w : World) (hs : s.size ≤ 65536) : EachOk s (w.heap.size + 1) 158 w.heap.size (PcsI w) (fun _ _ => False) where
  tabs := fun l wa ⟨h1, h2, h3, _⟩ => ⟨Utf8Tabs_below h1 h2, h3⟩
  keep := fun l wa wb ⟨h1, h2, h3, h4, A, c, h5, h6⟩ hk => ⟨h1, hk.below h2 (by omega) (by omega), Nat.le_trans h3 hk.size, h4, A, c, hk.hrow h5, hk.own h6⟩
  call := fun l p r wa hp hI hit => pieces_cl s w hs wa l p r hp hI hit
set_option maxHeartbeats 2000000 in
theorem pieces_any (s : ByteArray) (w : World) (hs : s.size ≤ 65536) (hT : Utf8Tabs 0 1 w) : Calls Tryz.prog 129 #[.string s] w (PcsOut2 (pcs s) w) := by
  have hE := pieces_each s w hs
  have hI : PcsI w [] (w.alloc (.cells #[.slice none 0 0] 170)) := ⟨hT, (Below.refl _ _).alloc (Nat.le_refl _) _, by simp, by simp, none, 0, Row.new w _ _, World.ownsRow_nil _ _ _ _⟩
  have hcall := each_pieces s w.heap.size (w.alloc (.cells #[.slice none 0 0] 170)) (PcsI w) (fun _ _ => False) (by simpa using hE) hs hI
  have HC := Lib.hid hcall
  clear hcall hE hI
  go_enter Tryz.func129, Tryz.ntmps129
  go_wp2_with (go_at_call 156; refine (long_rok s _ hs).mono ?_; rintro e w' ⟨rfl, rfl⟩)
  refine HC.out.mono ?_
  rintro e w1 ⟨rfl, h | ⟨l, p, r, _, h⟩⟩
  · obtain ⟨_, hb, hz, hl, A, c, hr, hown⟩ := h
    obtain ⟨c0, f0⟩ := hr.cel (i := 0) rfl
    obtain ⟨A', c', e, h1, h2, h3⟩ := own_sl hown (pcFlat_fits (lo := w.heap.size) (hi := w1.heap.size) (pcs s) (fun p hp => pcs_ok s (by omega) hp)) vPiece_good (by omega) (Nat.le_refl _)
    injection e with e1 _ e2
    subst e1 e2
    clear hr hown
    go_wp2_with fail
    go_ret2
    exact ⟨A, c, rfl, h1, h2, h3, hb⟩
  · exact h.elim
end Go.Proofs.YtimhlnndobfehaaGreatDoor
