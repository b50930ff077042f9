/- spoil -/
import Derived.Test.YtlanjpickjndlaaSpoil
import Derived.Test.YtlanjpickjndlaaLeaf
namespace Go.Proofs.Ytlanjpickjndlaa
open Go.RowKit
set_option linter.unusedVariables false

def SpoilSt (w : World) (lo hi n g c : Nat) (es : List (Nd × Value)) (wr : World) : Prop :=
  Row wr w.heap.size 25 [.slice (some ⟨g, 0, none⟩) n c] ∧ Nodes wr lo (.slice (some ⟨g, 0, none⟩) n c) es ∧ es.length = n ∧ Fr (fun b => lo ≤ b ∧ b < hi) w wr ∧ ∀ (i : Nat) (x : Nd) (t : Value) (b : Nat), es[i]? = some (x, t) → t.ownBlock = some b → b < hi
theorem set_some {α β : Type} {es : List (α × β)} {i j : Nat} {x x' : α} {u t : β} (h : (es.set i (x', u))[j]? = some (x, t)) : (∃ y, es[j]? = some (y, t)) ∨ t = u := by
  rw [List.getElem?_set] at h
  split at h
  · split at h
    · simp only [Option.some.injEq, Prod.mk.injEq] at h
      exact .inr h.2.symm
    · cases h
  · exact .inl ⟨x, h⟩

set_option maxHeartbeats 8000000 in
set_option maxRecDepth 100000 in
theorem spoil_pos (lo hi n g c : Nat) (es : List (Nd × Value)) (w : World) (hlo : lo ≤ w.heap.size) (hn : Nodes w lo (.slice (some ⟨g, 0, none⟩) n c) es) (hln : es.length = n) (hm : n ≤ maxLen) (hgh : g < hi) (hh : ∀ (i : Nat) (x : Nd) (t : Value) (b : Nat), es[i]? = some (x, t) → t.ownBlock = some b → b < hi) :
    Calls Try.prog 26 #[.agg #[.slice (some ⟨g, 0, none⟩) n c]] w fun e w' => e = .returned (.tuple #[]) ∧ Fr (fun b => lo ≤ b ∧ b < hi) w w' := by
  have hm : n ≤ 9223372036854775807 := by unfold maxLen at hm; omega
  go_enter Try.func26, Try.ntmps26
  go_wp2_with fail
  go_loopw [2] (fun i wr => ∃ k es', k ≤ n ∧ i = .int .i64 (k : Int) ∧ SpoilSt w lo hi n g c es' wr) (fun i _ => n - (intOf i).toNat)
  case atStart =>
    refine ⟨0, es, by omega, rfl, Row.new w _ _, ?_, hln, ?_, hh⟩
    · exact hn.alloc _
    · exact (Fr.refl _ _).alloc _
  case round =>
    obtain ⟨k, es1, hk, rfl, hr, hn1, hl1, hb1, hh1⟩ := hrel
    obtain ⟨cb0, fb0⟩ := hr.cel (i := 0) rfl
    by_cases hlt : k < n
    · have hkl : k < es1.length := by omega
      obtain ⟨x1, u1, he1⟩ : ∃ x u, es1[k]? = some (x, u) := ⟨_, _, List.getElem?_eq_getElem hkl⟩
      obtain ⟨m, hmk⟩ : ∃ m, m = x1.kids.length := ⟨_, rfl⟩
      obtain ⟨A1, c1, hu1, hcm1, hcm2⟩ := own_form (hn1.kid k x1 u1 he1).1
      subst hu1
      rw [← hmk] at he1 hcm1
      have hm1 : m ≤ 9223372036854775807 := by unfold maxLen at hcm2; omega
      have hgw : lo ≤ g ∧ g < w.heap.size := hn.row.lt g rfl
      have hst : SpoilSt w lo hi n g c es1 wr := ⟨hr, hn1, hl1, hb1, hh1⟩
      clear hr hn1 hl1 hb1 hh1
      go_wp2_with fail
      go_loopw [3] (fun j wr => ∃ (q : Nat) (x : Nd) (es' : List (Nd × Value)), q ≤ m ∧ j = .int .i64 (q : Int) ∧ SpoilSt w lo hi n g c es' wr ∧ es'[k]? = some (x, .slice A1 m c1) ∧ x.kids.length = m) (fun j _ => m - (intOf j).toNat)
      case atStart => exact ⟨0, x1, es1, by omega, rfl, hst, he1, hmk.symm⟩
      case round =>
        obtain ⟨q, x, es2, hq, rfl, ⟨hr, hn2, hl2, hb2, hh2⟩, he2, hx⟩ := hrel
        clear cb0 fb0
        obtain ⟨cb0, fb0⟩ := hr.cel (i := 0) rfl
        obtain ⟨cn4, fn4⟩ := hn2.cel hl2.symm he2 4 (by omega)
        simp only [ndCells, List.getD_cons_succ, List.getD_cons_zero] at cn4
        by_cases hqm : q < m
        · obtain ⟨g', c', eg, _, _, hg1, hg2⟩ := own_pos (hn2.kid k x _ he2).1 (by omega)
          injection eg with eg1 eg2 eg3
          subst eg1
          have hkin := (hn2.kid k x _ he2).2.2.2.2.2 _ (List.getElem_mem (show q < x.kids.length by omega))
          have hck := own_cel (j := q) (by have := (hn2.kid k x _ he2).1; rw [hx] at this; exact this) (show (x.kids.map (Value.int .i64))[q]? = some (.int .i64 (x.kids[q]'(by omega))) by rw [List.getElem?_map, List.getElem?_eq_getElem (by omega)]; rfl)
          obtain ⟨ck, fk⟩ := hck
          have hst2 : SpoilSt w lo hi n g c (es2.set k ({ x with kids := x.kids.set q 77 }, .slice (some ⟨g', 0, none⟩) m c1)) (wr.setCell ⟨g', q, none⟩ (.int .i64 77)) := by
            refine ⟨hr.far ?_ _, hn2.kid_set he2 rfl (by omega) (by rfl), by rw [List.length_set]; exact hl2, hb2.setc _ _ (fun _ => ⟨hg1, hh2 k x _ g' he2 rfl⟩), fun i y t b hi hb => ?_⟩
            · have := row_ne_own hr (hn2.kid k x _ he2).1 (by decide)
              intro e
              exact this (by rw [e]; rfl)
            · rcases set_some hi with ⟨y', hy⟩ | rfl
              · exact hh2 i y' t b hy hb
              · exact hh2 k x _ b he2 hb
          generalize x.kids[q]'(by omega) = xq at *
          go_wp2_with fail
          exact ⟨⟨q + 1, _, _, by omega, by go_num, hst2, List.getElem?_set_self (by omega), by simp [hx]⟩, by simp [intOf]; omega⟩
        · obtain ⟨cn0, fn0⟩ := hn2.cel hl2.symm he2 0 (by omega)
          obtain ⟨cn1, fn1⟩ := hn2.cel hl2.symm he2 1 (by omega)
          obtain ⟨cn2, fn2⟩ := hn2.cel hl2.symm he2 2 (by omega)
          obtain ⟨cn3, fn3⟩ := hn2.cel hl2.symm he2 3 (by omega)
          simp only [ndCells, List.getD_cons_succ, List.getD_cons_zero, Nat.add_zero] at cn0 cn1 cn2 cn3 fn0
          have hgl := hn2.row.lt g rfl
          have hfin : SpoilSt w lo hi n g c (es2.set k (⟨77, 0, 0, 0, []⟩, .slice none 0 0)) (((((wr.setCell ⟨g, k * 5, none⟩ (.int .u8 77)).setCell ⟨g, k * 5 + 1, none⟩ (.int .i32 0)).setCell ⟨g, k * 5 + 2, none⟩ (.int .u32 0)).setCell ⟨g, k * 5 + 3, none⟩ (.int .u32 0)).setCell ⟨g, k * 5 + 4, none⟩ (.slice none 0 0)) := by
            have hne : w.heap.size ≠ g := by omega
            refine ⟨((((hr.far hne _).far hne _).far hne _).far hne _).far hne _, ?_, by rw [List.length_set]; exact hl2, ((((hb2.setc _ _ (fun _ => ⟨hgl.1, hgh⟩)).setc _ _ (fun _ => ⟨hgl.1, hgh⟩)).setc _ _ (fun _ => ⟨hgl.1, hgh⟩)).setc _ _ (fun _ => ⟨hgl.1, hgh⟩)).setc _ _ (fun _ => ⟨hgl.1, hgh⟩), fun i y t b hi hb => ?_⟩
            · exact hn2.node_set (by omega) rfl ⟨77, 0, 0, 0, []⟩ rfl ⟨show (Lit.int .u8 77).wf = true from rfl, show (Lit.int .i32 0).wf = true from rfl, show (Lit.int .u32 0).wf = true from rfl, show (Lit.int .u32 0).wf = true from rfl, by simp⟩
            · rcases set_some hi with ⟨y', hy⟩ | rfl
              · exact hh2 i y' t b hy hb
              · simp [Value.ownBlock] at hb
          go_wp2_with fail
          exact ⟨⟨k + 1, _, by omega, by go_num, hfin⟩, by simp [intOf]; omega⟩
    · go_wp2_with fail
      go_end0
      exact ⟨rfl, hb1⟩

theorem spoil_any (lo hi : Nat) (v : Value) (es : List (Nd × Value)) (w : World) (hlo : lo ≤ w.heap.size) (hn : Nodes w lo v es) (hh : ∀ b, (v.ownBlock = some b ∨ ∃ (i : Nat) (x : Nd) (t : Value), es[i]? = some (x, t) ∧ t.ownBlock = some b) → b < hi) :
    Calls Try.prog 26 #[.agg #[v]] w fun e w' => e = .returned (.tuple #[]) ∧ Fr (fun b => lo ≤ b ∧ b < hi) w w' := by
  by_cases h : 0 < es.length
  · obtain ⟨g, c, rfl, h1, h2, h3, h4⟩ := own_pos hn.row h
    exact spoil_pos lo hi es.length g c es w hlo hn rfl (by omega) (hh g (.inl rfl)) (fun i x t b hi hb => hh b (.inr ⟨i, x, t, hi, hb⟩))
  · obtain ⟨A, c, rfl, h1, h2⟩ := own_form hn.row
    have h0 : es.length = 0 := by omega
    rw [h0]
    clear h0 h1 h hn hh
    go_enter Try.func26, Try.ntmps26
    go_wp2_with fail
    go_loopw [2] (fun i wr => i = .int .i64 0 ∧ Row wr w.heap.size 25 [.slice A 0 c] ∧ Fr (fun b => lo ≤ b ∧ b < hi) w wr) (fun i _ => 1)
    case atStart => exact ⟨rfl, Row.new w _ _, (Fr.refl _ _).alloc _⟩
    case round =>
      obtain ⟨rfl, hr, hb1⟩ := hrel
      obtain ⟨cb0, fb0⟩ := hr.cel (i := 0) rfl
      go_wp2_with fail
      go_end0
      exact ⟨rfl, hb1⟩
end Go.Proofs.Ytlanjpickjndlaa
