/- The program's each, with the function value of Pieces. -/
import Derived.Test.YtimhlnndobfehaaDoorMc18
namespace Go.Proofs.YtimhlnndobfehaaDoor
open Go.RowKit Go.Lib
set_option linter.unusedVariables false

set_option maxHeartbeats 4000000 in
set_option maxRecDepth 100000 in
theorem each_pieces (s : ByteArray) (b : Nat) (w : World) (I J : List Pc → World → Prop) (ho : EachOk s w.heap.size 116 b I J) (hs : s.size ≤ 65536) (hI : I [] w) :
    Calls Tryd.prog 115 #[.string s, .func (.func 116) #[] #[.pointer (some ⟨b, 0, none⟩)]] w (EachOut s I J) := by
  have HO := Lib.hid ho
  clear ho
  go_enter Tryd.func115, Tryd.ntmps115
  go_wp2_with fail
  go_loopw [] (fun wr => EachSt s w.heap.size I wr) (fun wr => s.size - wr.iterPos w.heap.size)
  case atStart =>
    exact ⟨0, [], by omega, rfl, HO.out.keep _ _ _ hI ((CellsKept.refl w.heap.size w).alloc _), World.iter_heap w s 0⟩
  case round =>
    obtain ⟨pos, l, hpos, hl, hIl, hit⟩ := hrel
    by_cases hp : pos < s.size
    · have hnx : ∀ ty, (Instr.next (.pointer (some ⟨w.heap.size, 0, none⟩)) true ty).run Tryd.prog wr = _ := fun ty => Lib.run_next_any_at wr w.heap.size s pos ty hit hp
      have hw := decode_width s pos hp
      have hrn := decode_rune s pos
      have hstep := pcsFrom_step s pos hp
      have hdl := decode_len s pos
      have hdt := decode_tail s pos hp
      obtain ⟨hT, hz⟩ := HO.out.tabs _ _ hIl
      have hitl := (Array.getElem?_eq_some_iff.1 hit).1
      have hk1 : CellsKept w.heap.size wr (wr.iterAt w.heap.size s (pos + (Utf8.decode s pos).2)) := (CellsKept.refl w.heap.size wr).iterAt hit _
      have hit1 := Lib.iterAt_heap wr w.heap.size s pos (pos + (Utf8.decode s pos).2) hit
      have hz1 := Lib.iterAt_size wr w.heap.size s (pos + (Utf8.decode s pos).2)
      have HQ : Hid (pcAt s pos = ⟨((Utf8.decode s pos).1 : Int), pos, (Utf8.decode s pos).2, decide ((Utf8.decode s pos).1 = 65533 ∧ (Utf8.decode s pos).2 = 1)⟩) := rfl
      have hgo : decodeGo (s.extract pos s.size) = Utf8.decode s pos := by
        unfold decodeGo
        rw [if_neg (by rw [ByteArray.size_extract]; omega), hdt]
      rw [hstep] at hl
      clear hdt hstep
      generalize pcAt s pos = x at *
      generalize hD : Utf8.decode s pos = D at *
      obtain ⟨r, n⟩ := D
      simp only at *
      generalize hW1 : wr.iterAt w.heap.size s (pos + n) = W1 at *
      have HD := Lib.hid hD
      have HGO := Lib.hid hgo
      have HL := Lib.hid hl
      have HZ := Lib.hid hz1
      clear hD hW1 hgo hl hz1
      by_cases h65 : r = 65533
      · subst h65
        have HDEC : Hid (∀ wx, Utf8Tabs 0 1 wx → Calls Tryd.prog 102 #[.string (s.extract pos s.size)] wx fun e w' => e = .returned (.tuple #[.int .i32 65533, .int .i64 (n : Int)]) ∧ Below wx.heap.size wx w') := by
          intro wx hx
          have := Tryd.utf8_DecodeRuneInString (s.extract pos s.size) wx hx
          rw [HGO.out] at this
          exact this
        have HRL : Hid (∀ wx, Calls Tryd.prog 129 #[.int .i32 65533] wx fun e w' => e = .returned (.int .i64 3) ∧ wx = w') := by
          intro wx
          exact calls_flip (Tryd.utf8_RuneLen 65533 wx)
        have hk2 : CellsKept w.heap.size wr (W1.alloc (.cells #[.int .i32 65533, .int .i64 (pos : Int), .int .i64 3, .bool false] 151)) := hk1.alloc _
        have hT2 := hk2.tabs hT
        have hit2 : (W1.alloc (.cells #[.int .i32 65533, .int .i64 (pos : Int), .int .i64 3, .bool false] 151)).heap[w.heap.size]? = some (.stringIter s (pos + n)) := (Below.heap_alloc _ _ _ (by rw [HZ.out]; exact hitl)).trans hit1
        have hr2 := Row.new W1 151 [.int .i32 65533, .int .i64 (pos : Int), .int .i64 3, .bool false]
        by_cases h1 : n = 1
        · subst h1
          have HX : Hid (vPc x = .agg #[.int .i32 65533, .int .i64 (pos : Int), .int .i64 1, .bool true]) := by
            show _ = _
            rw [HQ.out]
            rfl
          clear hdl HQ
          go_wp2_with (go_at_call 129; refine (HRL.out _).mono ?_; rintro e w' ⟨rfl, rfl⟩)
          refine (HDEC.out _ hT2).mono ?_
          rintro e w3 ⟨rfl, hb3⟩
          have hr3 := hr2.below hb3 hr2.lt
          have hl3 := hr3.lt
          obtain ⟨c0, f0⟩ := hr3.cel (i := 0) rfl
          obtain ⟨c1, f1⟩ := hr3.cel (i := 1) rfl
          obtain ⟨c2, f2⟩ := hr3.cel (i := 2) rfl
          obtain ⟨c3, f3⟩ := hr3.cel (i := 3) rfl
          have hzz : wr.heap.size ≤ W1.heap.size := by rw [HZ.out]; exact Nat.le_refl _
          have hk4 : CellsKept w.heap.size wr ((w3.setCell ⟨W1.heap.size, 2, none⟩ (.int .i64 1)).setCell ⟨W1.heap.size, 3, none⟩ (.bool true)) := ((hk2.trans (CellsKept.of_below hb3)).setCell hzz _).setCell hzz _
          have hI4 := HO.out.keep _ _ _ hIl hk4
          have hit4 : ((w3.setCell ⟨W1.heap.size, 2, none⟩ (.int .i64 1)).setCell ⟨W1.heap.size, 3, none⟩ (.bool true)).heap[w.heap.size]? = some (.stringIter s (pos + 1)) :=
            (Below.heap_setCell _ _ _ _ (by show w.heap.size ≠ W1.heap.size; omega)).trans ((Below.heap_setCell _ _ _ _ (by show w.heap.size ≠ W1.heap.size; omega)).trans ((hb3.block _ (by simp; omega)).trans hit2))
          have hcall := HO.out.call l x _ _ HL.out hI4 (by have := (Array.getElem?_eq_some_iff.1 hit4).1; exact this)
          rw [HX.out] at hcall
          clear hk4 hI4 hk2 hT2 hr2 hr3
          go_wp2_with fail
          refine hcall.mono ?_
          rintro e w5 ⟨h5 | h5, hit5⟩
          · obtain ⟨rfl, hI5⟩ := h5
            have hi5 := hit5 _ hit4
            clear hit4 hit5 hcall c0 c1 c2 c3 f0 f1 f2 f3
            go_wp2_with fail
            exact ⟨⟨pos + 1, l ++ [x], by omega, by rw [HL.out, List.append_assoc]; rfl, hI5, hi5⟩, by simp only [World.iterPos, hi5, hit]; omega⟩
          · obtain ⟨rfl, hJ5⟩ := h5
            clear hit4 hit5 hcall c0 c1 c2 c3 f0 f1 f2 f3
            go_wp2_with fail
            go_end0
            exact ⟨rfl, .inr ⟨l, x, _, HL.out, hJ5⟩⟩
        · have e1 : ((n : Int) == 1) = false := by rw [beq_eq_false_iff_ne]; omega
          have hn : (n : Int) = 3 := by
            rcases hdl with h | h
            · rw [h]; rfl
            · cases h
              omega
          have HX : Hid (vPc x = .agg #[.int .i32 65533, .int .i64 (pos : Int), .int .i64 3, .bool false]) := by
            show _ = _
            rw [HQ.out, ← hn]
            unfold vPc
            simp [h1]
          have HN := Lib.hid hn
          clear hdl HQ hn
          go_wp2_with (go_at_call 129; refine (HRL.out _).mono ?_; rintro e w' ⟨rfl, rfl⟩)
          refine (HDEC.out _ hT2).mono ?_
          rintro e w3 ⟨rfl, hb3⟩
          have hr3 := hr2.below hb3 hr2.lt
          have hl3 := hr3.lt
          obtain ⟨c0, f0⟩ := hr3.cel (i := 0) rfl
          obtain ⟨c1, f1⟩ := hr3.cel (i := 1) rfl
          obtain ⟨c2, f2⟩ := hr3.cel (i := 2) rfl
          obtain ⟨c3, f3⟩ := hr3.cel (i := 3) rfl
          have hzz : wr.heap.size ≤ W1.heap.size := by rw [HZ.out]; exact Nat.le_refl _
          have hk4 : CellsKept w.heap.size wr w3 := hk2.trans (CellsKept.of_below hb3)
          have hI4 := HO.out.keep _ _ _ hIl hk4
          have hit4 : w3.heap[w.heap.size]? = some (.stringIter s (pos + n)) := (hb3.block _ (by simp; omega)).trans hit2
          have hcall := HO.out.call l x _ _ HL.out hI4 (by have := (Array.getElem?_eq_some_iff.1 hit4).1; exact this)
          rw [HX.out] at hcall
          clear hk4 hI4 hk2 hT2 hr2 hr3
          go_wp2_with fail
          refine hcall.mono ?_
          rintro e w5 ⟨h5 | h5, hit5⟩
          · obtain ⟨rfl, hI5⟩ := h5
            have hi5 := hit5 _ hit4
            clear hit4 hit5 hcall c0 c1 c2 c3 f0 f1 f2 f3
            go_wp2_with fail
            exact ⟨⟨pos + n, l ++ [x], by omega, by rw [HL.out, List.append_assoc]; rfl, hI5, hi5⟩, by simp only [World.iterPos, hi5, hit]; omega⟩
          · obtain ⟨rfl, hJ5⟩ := h5
            clear hit4 hit5 hcall c0 c1 c2 c3 f0 f1 f2 f3
            go_wp2_with fail
            go_end0
            exact ⟨rfl, .inr ⟨l, x, _, HL.out, hJ5⟩⟩
      · have e65 : ((r : Int) == 65533) = false := by rw [beq_eq_false_iff_ne]; omega
        have hn : (n : Int) = runeLen (r : Int) := by
          rcases hdl with h | h
          · exact h
          · cases h
            omega
        have HX : Hid (vPc x = .agg #[.int .i32 (r : Int), .int .i64 (pos : Int), .int .i64 (runeLen (r : Int)), .bool false]) := by
          show _ = _
          rw [HQ.out, ← hn]
          unfold vPc
          simp [h65]
        have HN := Lib.hid hn
        clear hdl hn HQ
        have hk2 : CellsKept w.heap.size wr (W1.alloc (.cells #[.int .i32 (r : Int), .int .i64 (pos : Int), .int .i64 (runeLen (r : Int)), .bool false] 151)) := hk1.alloc _
        have hI2 := HO.out.keep _ _ _ hIl hk2
        have hit2 : (W1.alloc (.cells #[.int .i32 (r : Int), .int .i64 (pos : Int), .int .i64 (runeLen (r : Int)), .bool false] 151)).heap[w.heap.size]? = some (.stringIter s (pos + n)) := (Below.heap_alloc _ _ _ (by rw [HZ.out]; exact hitl)).trans hit1
        have hcall := HO.out.call l x _ _ HL.out hI2 (by simp; rw [HZ.out]; omega)
        rw [HX.out] at hcall
        go_wp2_with (go_at_call 129; refine (calls_flip (Tryd.utf8_RuneLen _ _)).mono ?_; rintro e w' ⟨rfl, rfl⟩)
        refine hcall.mono ?_
        rintro e w3 ⟨h3 | h3, hit3⟩
        · obtain ⟨rfl, hI3⟩ := h3
          have hi3 := hit3 _ hit2
          go_wp2_with fail
          exact ⟨⟨pos + n, l ++ [x], by omega, by rw [HL.out, List.append_assoc]; rfl, hI3, hi3⟩, by simp only [World.iterPos, hi3, hit]; omega⟩
        · obtain ⟨rfl, hJ3⟩ := h3
          go_wp2_with fail
          go_end0
          exact ⟨rfl, .inr ⟨l, x, _, HL.out, hJ3⟩⟩
    · have hnx : ∀ ty, (Instr.next (.pointer (some ⟨w.heap.size, 0, none⟩)) true ty).run Tryd.prog wr = _ := fun ty => Lib.run_next_end_at wr w.heap.size s pos ty hit hp
      have hfin : EachOut s I J (.returned (.tuple #[])) wr := by
        have : pos = s.size := by omega
        subst this
        rw [pcsFrom_end s _ (Nat.le_refl _), List.append_nil] at hl
        exact ⟨rfl, .inl (by rw [hl]; exact hIl)⟩
      go_wp2_with fail
      go_end0
      exact hfin
end Go.Proofs.YtimhlnndobfehaaDoor
