/- When two patterns are the same. Plain Lean. -/
import Derived.Test.YtlanjpickjndlaaPatPut
namespace Go.Proofs.Ytlanjpickjndlaa

def sameB (ps qs : List Nd) : Bool := treeB ps && treeB qs && decide (sub ps false ps.length 0 0 = sub qs false qs.length 0 0)
theorem sameB_p {ps qs : List Nd} (h : treeB ps = false) : sameB ps qs = false := by unfold sameB; rw [h]; rfl
theorem sameB_q {ps qs : List Nd} (h : treeB qs = false) : sameB ps qs = false := by unfold sameB; rw [h]; simp
theorem sameB_len {ps qs : List Nd} (hp : treeB ps = true) (hq : treeB qs = true) (h : ps.length ≠ qs.length) : sameB ps qs = false := by
  unfold sameB
  rw [hp, hq]
  simp only [Bool.and_self, Bool.true_and, decide_eq_false_iff_not]
  intro e
  have := congrArg List.length e
  rw [sub_length, sub_length, tree_size ((treeB_iff ps).1 hp), tree_size ((treeB_iff qs).1 hq)] at this
  exact h this
theorem sameB_like {ps qs : List Nd} (hp : treeB ps = true) (hq : treeB qs = true) (h : ps.length = qs.length) : sameB ps qs = likeB ps qs ps.length 0 0 := by
  unfold sameB
  rw [hp, hq, ← h, Bool.eq_iff_iff]
  simp only [Bool.and_self, Bool.true_and, decide_eq_true_eq]
  exact sub_like ps qs ps.length 0 0 0
theorem sameB_self (ns : List Nd) : sameB ns ns = treeB ns := by unfold sameB; simp

/-- Patterns in their one numbering, one behind the other, behind a first node. -/
def catSt (ls : List (List Nd)) : List Int × List Nd :=
  ls.foldl (fun s l => (s.1 ++ [((1 + s.2.length : Nat) : Int)], s.2 ++ sub l false l.length (1 + s.2.length) 0)) ([], [])
theorem catSt_snoc (ls : List (List Nd)) (l : List Nd) : catSt (ls ++ [l]) = ((catSt ls).1 ++ [((1 + (catSt ls).2.length : Nat) : Int)], (catSt ls).2 ++ sub l false l.length (1 + (catSt ls).2.length) 0) := by
  unfold catSt
  rw [List.foldl_append]
  rfl
theorem catSt_take {ls : List (List Nd)} {j : Nat} (h : j < ls.length) : catSt (ls.take (j + 1)) = ((catSt (ls.take j)).1 ++ [((1 + (catSt (ls.take j)).2.length : Nat) : Int)], (catSt (ls.take j)).2 ++ sub ls[j] false ls[j].length (1 + (catSt (ls.take j)).2.length) 0) := by
  rw [List.take_succ_eq_append_getElem h, catSt_snoc]
def sumLen (ls : List (List Nd)) : Nat := (ls.map List.length).sum
theorem sumLen_take {ls : List (List Nd)} {j : Nat} (h : j < ls.length) : sumLen (ls.take (j + 1)) = sumLen (ls.take j) + ls[j].length := by
  unfold sumLen
  rw [List.take_succ_eq_append_getElem h, List.map_append, List.sum_append]
  simp
theorem sumLen_le : ∀ (ls : List (List Nd)) (j : Nat), sumLen (ls.take j) ≤ sumLen ls
  | [], j => by simp
  | l :: ls, 0 => by simp [sumLen]
  | l :: ls, j + 1 => by
    have := sumLen_le ls j
    simp only [sumLen, List.take_succ_cons, List.map_cons, List.sum_cons] at this ⊢
    omega
theorem catSt_len {ls : List (List Nd)} (ht : ∀ l ∈ ls, treeB l = true) : ∀ j : Nat, j ≤ ls.length → (catSt (ls.take j)).2.length = sumLen (ls.take j) ∧ (catSt (ls.take j)).1.length = j
  | 0, _ => by simp [catSt, sumLen]
  | j + 1, hj => by
    have ih := catSt_len ht j (by omega)
    have hl : treeB ls[j] = true := ht _ (List.getElem_mem _)
    rw [catSt_take (by omega), sumLen_take (by omega)]
    simp only [List.length_append, List.length_cons, List.length_nil, sub_length]
    rw [tree_size ((treeB_iff _).1 hl)]
    omega
/-- What is refused of patterns that are put together; the nodes that come out. -/
def madeE (ls : List (List Nd)) : Int := if 256 < ls.length then 4 else if ls.all treeB then (if 256 < 1 + sumLen ls then 4 else 0) else 40
def madeN (kind : Int) (ls : List (List Nd)) : List Nd := if madeE ls = 0 then ⟨kind, 0, 0, 0, (catSt ls).1⟩ :: (catSt ls).2 else []
theorem madeE_many {ls : List (List Nd)} (h : 256 < ls.length) : madeE ls = 4 := by unfold madeE; rw [if_pos h]
theorem madeE_tree {ls : List (List Nd)} (h : ls.length ≤ 256) {j : Nat} (hj : j < ls.length) (ht : treeB ls[j] = false) : madeE ls = 40 := by
  have : ls.all treeB = false := by
    rw [List.all_eq_false]
    exact ⟨_, List.getElem_mem hj, by rw [ht]; simp⟩
  unfold madeE
  rw [if_neg (by omega), if_neg (by rw [this]; simp)]
theorem madeE_sum {ls : List (List Nd)} (h : ls.length ≤ 256) (ht : ∀ l ∈ ls, treeB l = true) (hs : 256 < 1 + sumLen ls) : madeE ls = 4 := by
  have : ls.all treeB = true := List.all_eq_true.2 ht
  unfold madeE
  rw [if_neg (by omega), if_pos this, if_pos hs]
theorem madeE_ok {ls : List (List Nd)} (h : ls.length ≤ 256) (ht : ∀ l ∈ ls, treeB l = true) (hs : 1 + sumLen ls ≤ 256) : madeE ls = 0 := by
  have : ls.all treeB = true := List.all_eq_true.2 ht
  unfold madeE
  rw [if_neg (by omega), if_pos this, if_neg (by omega)]
theorem madeN_ok {kind : Int} {ls : List (List Nd)} (h : madeE ls = 0) : madeN kind ls = ⟨kind, 0, 0, 0, (catSt ls).1⟩ :: (catSt ls).2 := by unfold madeN; rw [if_pos h]
theorem madeN_bad {kind : Int} {ls : List (List Nd)} (h : madeE ls ≠ 0) : madeN kind ls = [] := by unfold madeN; rw [if_neg h]
end Go.Proofs.Ytlanjpickjndlaa
