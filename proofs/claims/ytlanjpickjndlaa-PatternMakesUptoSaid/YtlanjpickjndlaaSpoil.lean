/- The law's spoil and long, walked. -/
import Derived.Test.YtlanjpickjndlaaNodes
import Derived.Test.YtlanjpickjndlaaChecked
import Derived.Deep.DeepCutAuto
import Derived.Deep.CutBlock
namespace Go.Proofs.Ytlanjpickjndlaa
open Go.RowKit
set_option linter.unusedVariables false

theorem Nodes.kid_set {w : World} {lo : Nat} {v : Value} {es : List (Nd × Value)} (h : Nodes w lo v es) {i k : Nat} {x : Nd} {u : Value} {g : Nat} (hi : es[i]? = some (x, u)) (hg : u.ownBlock = some g) (hk : k < x.kids.length) {n : Int} (hn : kin .i64 n) :
    Nodes (w.setCell ⟨g, k, none⟩ (.int .i64 n)) lo v (es.set i ({ x with kids := x.kids.set k n }, u)) := by
  have hil : i < es.length := (List.getElem?_eq_some_iff.1 hi).1
  have hold : ∀ (j : Nat) (y : Nd) (t : Value), (es.set i ({ x with kids := x.kids.set k n }, u))[j]? = some (y, t) → (j ≠ i ∧ es[j]? = some (y, t)) ∨ (j = i ∧ y = { x with kids := x.kids.set k n } ∧ t = u) := by
    intro j y t hj
    rw [List.getElem?_set] at hj
    by_cases e : i = j
    · subst e
      simp only [if_true, hil, Option.some.injEq, Prod.mk.injEq] at hj
      exact .inr ⟨rfl, hj.1.symm, hj.2.symm⟩
    · rw [if_neg e] at hj
      exact .inl ⟨fun e2 => e e2.symm, hj⟩
  have hold2 : ∀ (j : Nat) (y : Nd) (t : Value), (es.set i ({ x with kids := x.kids.set k n }, u))[j]? = some (y, t) → ∃ y', es[j]? = some (y', t) := by
    intro j y t hj
    rcases hold j y t hj with ⟨_, hj⟩ | ⟨rfl, rfl, rfl⟩
    · exact ⟨y, hj⟩
    · exact ⟨x, hi⟩
  have hout : ∀ b, b ≠ g → (w.setCell ⟨g, k, none⟩ (.int .i64 n)).heap[b]? = w.heap[b]? := fun b hb => Below.heap_setCell _ _ _ b hb
  have hflat : flat (es.set i ({ x with kids := x.kids.set k n }, u)) = flat es := by
    have h1 := flat_set (u' := u) (x.kids.set k n) hi
    rw [← h1]
    refine List.ext_getElem? fun j => ?_
    rw [List.getElem?_set]
    by_cases e : i * 5 + 4 = j
    · subst e
      rw [if_pos rfl, if_pos (by rw [flat_length]; omega), flat_get (by omega) hi]
      rfl
    · rw [if_neg e]
  refine ⟨?_, fun j y t hj => ?_, fun j y t b hj hb => ?_, fun j l y t z s b hj hl hbt hbs => ?_⟩
  · rw [List.length_set, hflat]
    exact own_same h.row fun b hb => hout b (fun e => h.far i x u g hi hg (by rw [hb, e]))
  · rcases hold j y t hj with ⟨hne, hj⟩ | ⟨rfl, rfl, rfl⟩
    · exact ⟨own_same (h.kid j y t hj).1 fun b hb => hout b (fun e => hne (h.apart j i y t x u g hj hi (by rw [hb, e]) hg)), (h.kid j y t hj).2⟩
    · obtain ⟨h1, h2, h3, h4, h5, h6⟩ := h.kid _ x _ hi
      refine ⟨?_, h2, h3, h4, h5, fun m hm => ?_⟩
      · have := own_set h1 hg (j := k) (by simpa using hk) (.int .i64 n)
        simpa [List.map_set] using this
      · rcases List.mem_or_eq_of_mem_set hm with hm | rfl
        · exact h6 m hm
        · exact hn
  · obtain ⟨y', hy⟩ := hold2 j y t hj
    exact h.far j y' t b hy hb
  · obtain ⟨y', hy⟩ := hold2 j y t hj
    obtain ⟨z', hz⟩ := hold2 l z s hl
    exact h.apart j l y' t z' s b hy hz hbt hbs
theorem flat_put {y : Nd} {t : Value} : ∀ {es : List (Nd × Value)} {i : Nat}, i < es.length →
    (((((flat es).set (i * 5) (.int .u8 y.kind)).set (i * 5 + 1) (.int .i32 y.rune)).set (i * 5 + 2) (.int .u32 y.plus)).set (i * 5 + 3) (.int .u32 y.minus)).set (i * 5 + 4) t = flat (es.set i (y, t))
  | [], i, h => by simp at h
  | e :: es, 0, h => rfl
  | e :: es, i + 1, h => by
    have key : ∀ (r : List Value) (j : Nat) (a : Value), (ndCells e.1 e.2 ++ r).set ((i + 1) * 5 + j) a = ndCells e.1 e.2 ++ r.set (i * 5 + j) a := by
      intro r j a
      rw [List.set_append_right _ _ (by simp only [ndCells, List.length_cons, List.length_nil]; omega)]
      congr 2
      simp only [ndCells, List.length_cons, List.length_nil]
      omega
    have k0 : ∀ (r : List Value) (a : Value), (ndCells e.1 e.2 ++ r).set ((i + 1) * 5) a = ndCells e.1 e.2 ++ r.set (i * 5) a := fun r a => key r 0 a
    rw [flat_cons, k0, key, key, key, key, flat_put (es := es) (i := i) (by simpa using h)]
    rfl
/-- A node written over whole. -/
theorem Nodes.node_set {w : World} {lo : Nat} {v : Value} {es : List (Nd × Value)} (h : Nodes w lo v es) {i : Nat} (hi : i < es.length) {g : Nat} (hg : v.ownBlock = some g) (y : Nd) (hy : y.kids = []) (hk : kinNd y) :
    Nodes (((((w.setCell ⟨g, i * 5, none⟩ (.int .u8 y.kind)).setCell ⟨g, i * 5 + 1, none⟩ (.int .i32 y.rune)).setCell ⟨g, i * 5 + 2, none⟩ (.int .u32 y.plus)).setCell ⟨g, i * 5 + 3, none⟩ (.int .u32 y.minus)).setCell ⟨g, i * 5 + 4, none⟩ (.slice none 0 0)) lo v (es.set i (y, .slice none 0 0)) := by
  have hold : ∀ (j : Nat) (z : Nd) (t : Value), (es.set i (y, .slice none 0 0))[j]? = some (z, t) → (j ≠ i ∧ es[j]? = some (z, t)) ∨ (j = i ∧ z = y ∧ t = .slice none 0 0) := by
    intro j z t hj
    rw [List.getElem?_set] at hj
    by_cases e : i = j
    · subst e
      simp only [if_true, hi, Option.some.injEq, Prod.mk.injEq] at hj
      exact .inr ⟨rfl, hj.1.symm, hj.2.symm⟩
    · rw [if_neg e] at hj
      exact .inl ⟨fun e2 => e e2.symm, hj⟩
  have hout : ∀ b, b ≠ g → (((((w.setCell ⟨g, i * 5, none⟩ (.int .u8 y.kind)).setCell ⟨g, i * 5 + 1, none⟩ (.int .i32 y.rune)).setCell ⟨g, i * 5 + 2, none⟩ (.int .u32 y.plus)).setCell ⟨g, i * 5 + 3, none⟩ (.int .u32 y.minus)).setCell ⟨g, i * 5 + 4, none⟩ (.slice none 0 0)).heap[b]? = w.heap[b]? := by
    intro b hb
    rw [Below.heap_setCell _ _ _ b hb, Below.heap_setCell _ _ _ b hb, Below.heap_setCell _ _ _ b hb, Below.heap_setCell _ _ _ b hb, Below.heap_setCell _ _ _ b hb]
  have hnone : ∀ b, (Value.slice none 0 0).ownBlock ≠ some b := fun b => by simp [Value.ownBlock]
  refine ⟨?_, fun j z t hj => ?_, fun j z t b hj hb => ?_, fun j l z t x s b hj hl hbt hbs => ?_⟩
  · have hf := flat_put (y := y) (t := .slice none 0 0) hi
    have hl : (flat es).length = es.length * 5 := flat_length es
    rw [List.length_set, ← hf]
    exact own_set (own_set (own_set (own_set (own_set h.row hg (by omega) _) hg (by simp only [List.length_set]; omega) _) hg (by simp only [List.length_set]; omega) _) hg (by simp only [List.length_set]; omega) _) hg (by simp only [List.length_set]; omega) _
  · rcases hold j z t hj with ⟨hne, hj⟩ | ⟨rfl, rfl, rfl⟩
    · exact ⟨own_same (h.kid j z t hj).1 fun b hb => hout b (fun e => h.far j z t b hj hb (by rw [hg, e])), (h.kid j z t hj).2⟩
    · rw [hy]
      exact ⟨World.ownsRow_nil _ _ _ _, hk⟩
  · rcases hold j z t hj with ⟨hne, hj⟩ | ⟨rfl, rfl, rfl⟩
    · exact h.far j z t b hj hb
    · exact absurd hb (hnone b)
  · rcases hold j z t hj with ⟨hne, pj⟩ | ⟨rfl, rfl, rfl⟩
    · rcases hold l x s hl with ⟨hne2, pl⟩ | ⟨rfl, rfl, rfl⟩
      · exact h.apart j l z t x s b pj pl hbt hbs
      · exact absurd hbs (hnone b)
    · exact absurd hbt (hnone b)
end Go.Proofs.Ytlanjpickjndlaa
