/- The program's Lines. -/
import Derived.Test.YtokdpfapakemmaaDoorLinesSpec
import Derived.Test.YtokdpfapakemmaaDoorLineP
import Derived.Test.YtokdpfapakemmaaDoorOwn
import Derived.Deep.AppendLies
namespace Go.Proofs.YtokdpfapakemmaaDoor
open Go.RowKit
set_option linter.unusedVariables false

def natCells (l : List Nat) : List Value := l.map fun (n : Nat) => Value.int .i64 ((n : Nat) : Int)
def LinesOut (s : ByteArray) (w : World) (e : Ending) (w' : World) : Prop :=
  ∃ g c, e = .returned (.tuple #[.slice (some ⟨g, 0, none⟩) (linesTo s s.size).length c, .int .i64 0]) ∧ w'.ownsRow w.heap.size 3 1 (.slice (some ⟨g, 0, none⟩) (linesTo s s.size).length c) (linesTo s s.size).length (natCells (linesTo s s.size)) ∧ Below w.heap.size w w'
def LinesSt (s : ByteArray) (w : World) (v i : Value) (wr : World) : Prop :=
  ∃ k g c, k ≤ s.size ∧ i = .int .i64 (k : Int) ∧ v = .slice (some ⟨g, 0, none⟩) (linesTo s k).length c ∧ wr.ownsRow w.heap.size 3 1 (.slice (some ⟨g, 0, none⟩) (linesTo s k).length c) (linesTo s k).length (natCells (linesTo s k)) ∧ Below w.heap.size w wr
theorem linesTo_le (s : ByteArray) (k : Nat) : (linesTo s k).length ≤ k + 1 := by
  have h1 := (linesTo_spec s k).1
  have h2 := lineN_le s k
  omega
theorem int_info : (Tryd.prog.info? 3).map (fun i => (i.zero, i.size, i.bytes)) = some (some (.int .i64 0), 1, 8) := by kernel_rfl
theorem own_new (w : World) (t : TypeId) (l : List Value) (n : Nat) (hl : l.length = n) (h1 : n ≤ maxLen) : (w.alloc (.cells l.toArray t)).ownsRow w.heap.size t 1 (.slice (some ⟨w.heap.size, 0, none⟩) n n) n l := by
  refine ⟨by rw [hl, Nat.mul_one], .inr ⟨w.heap.size, n, l.toArray, rfl, Nat.le_refl _, heap_alloc_new w _, Nat.le_refl _, h1, by simp [hl], by simp [← hl]⟩⟩

set_option maxHeartbeats 4000000 in
set_option maxRecDepth 100000 in
theorem lines_any (s : ByteArray) (w : World) (hs : s.size ≤ 65536) : Calls Tryd.prog 12 #[.string s] w (LinesOut s w) := by
  obtain ⟨i0, hi0, hz0, hz1, hz2⟩ := info_parts int_info
  have hst0 : LinesSt s w (.slice (some ⟨w.heap.size, 0, none⟩) 1 1) (.int .i64 0) (w.alloc (.cells #[.int .i64 0] 3)) :=
    ⟨0, w.heap.size, 1, by omega, rfl, rfl, own_new w 3 [.int .i64 0] 1 rfl (by unfold maxLen; omega), (Below.refl _ _).alloc (Nat.le_refl _) _⟩
  go_enter Tryd.func12, Tryd.ntmps12
  go_wp2_with (go_at_call 19; refine (text_ok s _ (by omega)).mono ?_; rintro e w' ⟨rfl, rfl⟩)
  go_loopw [5, 15] (fun v i wr => LinesSt s w v i wr) (fun _ i _ => s.size - (intOf i).toNat)
  case atStart => exact hst0
  case round =>
    clear hst0
    obtain ⟨k, g, c, hk, rfl, rfl, hown, hb⟩ := hrel
    have hbs := hb.size
    have hll := linesTo_le s k
    by_cases hlt : k < s.size
    · have HBT := Lib.hid (bt_get s k hlt)
      by_cases h10 : bt s k = 10
      · have hd : (((s[k]'hlt).toNat : Int) == 10) = true := by rw [HBT.out, beq_iff_eq]; omega
        have hnext : linesTo s (k + 1) = linesTo s k ++ [k + 1] := by
          show (if bt s k = 10 then _ else _) = _
          rw [if_pos h10]
        have HN := Lib.hid hnext
        have HX := Lib.hid h10
        clear hnext h10
        have hal : Below wr.heap.size wr (wr.alloc (.cells #[.int .i64 ((k : Int) + 1)] 3)) := (Below.refl _ _).alloc (Nat.le_refl _) _
        have hrN := Row.new wr 3 [.int .i64 ((k : Int) + 1)]
        have hownA := own_below hown hal
        have hnews := hrN.news
        have hone : ∀ u ∈ [Value.int .i64 ((k : Int) + 1)], u.oneCell' = true := by intro u hu; rw [List.mem_singleton.1 hu]; rfl
        have h63 : (linesTo s k).length + 1 ≤ maxLen := by unfold maxLen; omega
        have hby : ((linesTo s k).length + 1) * 8 ≤ 140737488355328 := by omega
        have hlo : w.heap.size ≤ (wr.alloc (.cells #[.int .i64 ((k : Int) + 1)] 3)).heap.size := by have := hal.size; omega
        go_wp2_with (at_builtin; refine wpList_append_lies _ rfl _ _ 30 rfl w.heap.size 3 i0 (.int .i64 0) 1 8 Tryd.underlying30 hi0 hz0 hz1 hz2 rfl (by decide) (.slice (some ⟨g, 0, none⟩) (linesTo s k).length c) (linesTo s k).length (natCells (linesTo s k)) rfl hownA ⟨wr.heap.size, 0, none⟩ 1 1 [.int .i64 ((k : Int) + 1)] rfl rfl hnews hone (by decide) h63 hby hlo _ rfl ?_)
        intro g2 cap w2 hown2 hgr2 hat2 hlt2
        have hb2 : Below w.heap.size w w2 := (hb.trans (hal.mono hbs)).grown hgr2 hlo (fun j hj => (hown.lt j hj).1)
        have e1 : (linesTo s k).length + 1 = (linesTo s (k + 1)).length := by rw [HN.out]; simp
        have e2 : natCells (linesTo s k) ++ [.int .i64 ((k : Int) + 1)] = natCells (linesTo s (k + 1)) := by rw [HN.out]; simp [natCells]
        rw [e1, e2] at hown2
        rw [e1]
        have hfin : LinesSt s w (.slice (some ⟨g2, 0, none⟩) (linesTo s (k + 1)).length cap) (.int .i64 ((k + 1 : Nat) : Int)) w2 := ⟨k + 1, g2, cap, by omega, rfl, rfl, hown2, hb2⟩
        have HF := Lib.hid hfin
        clear hfin hown2 hgr2 hat2 hownA hnews hone hown e1 e2 hal hrN
        go_wp2_with fail
        exact ⟨HF.out, by simp [intOf]; omega⟩
      · have hd : (((s[k]'hlt).toNat : Int) == 10) = false := by rw [HBT.out, beq_eq_false_iff_ne]; omega
        have hnext : linesTo s (k + 1) = linesTo s k := by
          show (if bt s k = 10 then _ else _) = _
          rw [if_neg h10]
        have hfin : LinesSt s w (.slice (some ⟨g, 0, none⟩) (linesTo s k).length c) (.int .i64 ((k + 1 : Nat) : Int)) wr := ⟨k + 1, g, c, by omega, rfl, by rw [hnext], by rw [hnext]; exact hown, hb⟩
        have HF := Lib.hid hfin
        clear hfin hnext hown h10
        go_wp2_with fail
        exact ⟨HF.out, by simp [intOf]; omega⟩
    · obtain rfl : k = s.size := by omega
      have hfin : LinesOut s w (.returned (.tuple #[.slice (some ⟨g, 0, none⟩) (linesTo s s.size).length c, .int .i64 0])) wr := ⟨g, c, rfl, hown, hb⟩
      have HF := Lib.hid hfin
      clear hfin hown
      go_wp2_with fail
      go_ret2
      exact HF.out
end Go.Proofs.YtokdpfapakemmaaDoor
