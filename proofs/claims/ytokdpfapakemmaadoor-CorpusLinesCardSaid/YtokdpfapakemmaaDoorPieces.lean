/- The document's All: the pieces of a text, in a row of the call's own. -/
import Derived.Test.YtokdpfapakemmaaDoorAt
import Derived.Test.YtokdpfapakemmaaDoorOwn
import Derived.Deep.AppendLies
namespace Go.Proofs.YtokdpfapakemmaaDoor
open Go.RowKit
set_option linter.unusedVariables false

def pcCells (p : Pc) : List Value := [.int .i32 p.rune, .int .i64 p.at_, .int .i64 p.len, .bool p.broken]
def pcFlat (l : List Pc) : List Value := l.flatMap pcCells
theorem piece_info : (Tryd.prog.info? 66).map (fun i => (i.zero, i.size, i.bytes)) = some (some (.agg #[.int .i32 0, .int .i64 0, .int .i64 0, .bool false]), 4, 32) := by kernel_rfl

theorem pcFlat_snoc (l : List Pc) (p : Pc) : pcFlat (l ++ [p]) = pcFlat l ++ pcCells p := by unfold pcFlat; simp

def AllSt (s : ByteArray) (w : World) (v at_ : Value) (wr : World) : Prop :=
  ∃ (p : Nat) (l : List Pc) (A : Option Addr) (c : Nat), v = .slice A l.length c ∧ p ≤ s.size ∧ l.length ≤ p ∧ pcs s = l ++ pcsFrom s p ∧ at_ = .int .i64 p ∧ wr.ownsRow w.heap.size 66 4 (.slice A l.length c) l.length (pcFlat l) ∧ Below w.heap.size w wr
def AllOut (s : ByteArray) (w : World) (e : Ending) (w' : World) : Prop :=
  ∃ v, e = .returned v ∧ w'.ownsRow w.heap.size 66 4 v (pcs s).length (pcFlat (pcs s)) ∧ Below w.heap.size w w'

set_option maxHeartbeats 4000000 in
set_option maxRecDepth 100000 in
theorem all_any (s : ByteArray) (w : World) (hs : s.size ≤ 65536) :
    Calls Tryd.prog 24 #[.string s] w (AllOut s w) := by
  obtain ⟨i1, hi1, hy0, hy1, hy2⟩ := info_parts piece_info
  go_enter Tryd.func24, Tryd.ntmps24
  go_wp2_with fail
  go_loopw [3, 4] (fun v at_ wr => AllSt s w v at_ wr) (fun _ i _ => s.size - (intOf i).toNat)
  case atStart => exact ⟨0, [], none, 0, rfl, by omega, by simp, rfl, rfl, World.ownsRow_nil _ _ _ _, Below.refl _ _⟩
  case round =>
    obtain ⟨p, l, Av, cv, rfl, hp, hlp, hl, rfl, hown, hb⟩ := hrel
    have hbs := hb.size
    by_cases hlt : p < s.size
    · have hcall := at_any s p wr hlt (by omega)
      have hw := decode_width s p hlt
      have hstep := Lib.hid (pcsFrom_step s p hlt)
      have HL := Lib.hid hl
      clear hl
      go_wp2_with fail
      refine hcall.mono ?_
      rintro e w1 ⟨rfl, hb1⟩
      have hlen : (pcAt s p).len = (Utf8.decode s p).2 := rfl
      generalize hx : pcAt s p = x at *
      have HX := Lib.hid hx
      clear hx
      rw [show vPc x = .agg #[.int .i32 x.rune, .int .i64 x.at_, .int .i64 x.len, .bool x.broken] from rfl]
      have hbw1 := hb.trans (hb1.mono hbs)
      have hbs1 := hbw1.size
      have hown1 := own_below hown hb1
      have hal : Below w1.heap.size w1 ((w1.alloc (.cells #[.int .i32 x.rune, .int .i64 x.at_, .int .i64 x.len, .bool x.broken] 66)).alloc (.cells #[.int .i32 x.rune, .int .i64 x.at_, .int .i64 x.len, .bool x.broken] 66)) := ((Below.refl _ _).alloc (Nat.le_refl _) _).alloc (by simp) _
      have hownA := own_below hown1 hal
      obtain ⟨hrA, hrB, _⟩ := boxes2 w1 66 [.int .i32 x.rune, .int .i64 x.at_, .int .i64 x.len, .bool x.broken] [.int .i32 x.rune, .int .i64 x.at_, .int .i64 x.len, .bool x.broken]
      have hnews := hrB.news
      have hone : ∀ u ∈ [Value.int .i32 x.rune, .int .i64 x.at_, .int .i64 x.len, .bool x.broken], u.oneCell' = true := by
        intro u hu
        simp only [List.mem_cons, List.not_mem_nil, or_false] at hu
        rcases hu with rfl | rfl | rfl | rfl <;> rfl
      have h63 : l.length + 1 ≤ maxLen := by unfold maxLen; omega
      have hby : (l.length + 1) * 32 ≤ 140737488355328 := by omega
      have hlo : w.heap.size ≤ ((w1.alloc (.cells #[.int .i32 x.rune, .int .i64 x.at_, .int .i64 x.len, .bool x.broken] 66)).alloc (.cells #[.int .i32 x.rune, .int .i64 x.at_, .int .i64 x.len, .bool x.broken] 66)).heap.size := by have := hal.size; omega
      have HLEN := Lib.hid hlen
      clear hlen
      go_wp2_with (at_builtin; refine wpList_append_lies _ rfl _ _ 57 rfl w.heap.size 66 i1 (.agg #[.int .i32 0, .int .i64 0, .int .i64 0, .bool false]) 4 32 Tryd.underlying57 hi1 hy0 hy1 hy2 rfl (by decide) (.slice Av l.length cv) l.length (pcFlat l) rfl hownA ⟨w1.heap.size + 1, 0, none⟩ 1 1 [.int .i32 x.rune, .int .i64 x.at_, .int .i64 x.len, .bool x.broken] rfl rfl hnews hone (by decide) h63 hby hlo _ rfl ?_)
      intro g cap w2 hown2 hgr2 hat2 hlt2
      have hr2 := hrA.grown hgr2 (fun e => by have := (hown1.lt _ e.symm).2; omega)
      obtain ⟨c2, f2⟩ := hr2.cel (i := 2) rfl
      have hb2 : Below w.heap.size w w2 := (hbw1.trans (hal.mono hbs1)).grown hgr2 hlo (fun j hj => (hown1.lt j hj).1)
      have hfin : w2.ownsRow w.heap.size 66 4 (.slice (some ⟨g, 0, none⟩) (l ++ [x]).length cap) (l ++ [x]).length (pcFlat (l ++ [x])) := by
        rw [List.length_append, List.length_singleton, pcFlat_snoc]
        exact hown2
      have hpcs : Hid (pcs s = (l ++ [x]) ++ pcsFrom s (p + x.len)) := by
        show _ = _
        rw [HL.out, hstep.out, HLEN.out, List.append_assoc]
        rfl
      have hle : p + x.len ≤ s.size ∧ 1 ≤ x.len := by rw [HLEN.out]; omega
      clear hgr2 hown2 hownA hrA hrB hal hnews hone hcall hown1 hr2 hb1 hstep
      go_wp2_with fail
      exact ⟨⟨p + x.len, l ++ [x], _, _, by simp, hle.1, by simp; omega, hpcs.out, by go_num, hfin, hb2⟩, by simp [intOf]; omega⟩
    · have hfin : AllOut s w (.returned (.slice Av l.length cv)) wr := by
        have : p = s.size := by omega
        subst this
        rw [pcsFrom_end s _ (Nat.le_refl _), List.append_nil] at hl
        exact ⟨_, rfl, by rw [hl]; exact hown, hb⟩
      go_wp2_with fail
      go_ret
      exact hfin
end Go.Proofs.YtokdpfapakemmaaDoor
