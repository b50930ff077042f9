/- Patterns as lists of nodes: which are trees, how a tree is put in its one numbering. Plain Lean. -/
namespace Go.Proofs.Ytlanjpickjndlaa

structure Nd where
  kind : Int
  rune : Int
  plus : Int
  minus : Int
  kids : List Int
  deriving DecidableEq

/-- A node by its kind, the kids' numbers aside. -/
def nodeOk (x : Nd) : Bool :=
  (if x.kind = 6 ∨ x.kind = 7 then true else if x.kind = 8 ∨ x.kind = 9 then decide (x.kids.length = 1)
    else if 1 ≤ x.kind ∧ x.kind ≤ 5 then decide (x.kids.length = 0) else false) &&
  (decide (x.rune = 0) || decide (x.kind = 2)) && ((decide (x.plus = 0) && decide (x.minus = 0)) || decide (x.kind = 3))

def arOk (x : Nd) : Bool :=
  if x.kind = 6 ∨ x.kind = 7 then true else if x.kind = 8 ∨ x.kind = 9 then decide (x.kids.length = 1)
    else if 1 ≤ x.kind ∧ x.kind ≤ 5 then decide (x.kids.length = 0) else false
def fdOk (x : Nd) : Bool := (decide (x.rune = 0) || decide (x.kind = 2)) && ((decide (x.plus = 0) && decide (x.minus = 0)) || decide (x.kind = 3))
theorem nodeOk_eq (x : Nd) : nodeOk x = (arOk x && fdOk x) := by unfold nodeOk arOk fdOk; rw [Bool.and_assoc]
/-- The program's way: marks. -/
def kidsOk (i n : Int) : List Bool → List Int → Option (List Bool)
  | seen, [] => some seen
  | seen, k :: r => if k ≤ i ∨ n ≤ k ∨ seen[k.toNat]? = some true then none else kidsOk i n (seen.set k.toNat true) r
def nodesOk (n : Int) : Int → List Bool → List Nd → Option (List Bool)
  | _, seen, [] => some seen
  | i, seen, x :: r => if nodeOk x then (match kidsOk i n seen x.kids with | some s => nodesOk n (i + 1) s r | none => none) else none
def treeB (ns : List Nd) : Bool :=
  if ns.length < 1 ∨ 256 < ns.length then false else
    match nodesOk ns.length 0 (List.replicate ns.length false) ns with
    | none => false
    | some seen => !(seen.tail.contains false)

/-- The document's way: counts. -/
def kidsIn (i n : Int) : List Nat → List Int → Option (List Nat)
  | c, [] => some c
  | c, k :: r => if k ≤ i ∨ n ≤ k then none else kidsIn i n (c.set k.toNat (c.getD k.toNat 0 + 1)) r
def nodesIn (n : Int) : Int → List Nat → List Nd → Option (List Nat)
  | _, c, [] => some c
  | i, c, x :: r => if nodeOk x = true ∧ (x.kids.length : Int) < n then (match kidsIn i n c x.kids with | some s => nodesIn n (i + 1) s r | none => none) else none
def treeR (ns : List Nd) : Bool :=
  if ns.length < 1 ∨ 256 < ns.length then false else
    match nodesIn ns.length 0 (List.replicate ns.length 0) ns with
    | none => false
    | some c => c.tail.all (· == 1)

/-- All kids, in the nodes' order. -/
def allKids (ns : List Nd) : List Int := ns.flatMap (·.kids)
/-- Kids lie between their node and the end. -/
def InR (n : Int) : Int → List Nd → Prop
  | _, [] => True
  | i, x :: r => (∀ k ∈ x.kids, i < k ∧ k < n) ∧ InR n (i + 1) r

structure IsTree (ns : List Nd) : Prop where
  pos : 1 ≤ ns.length
  max : ns.length ≤ 256
  ok : ∀ x ∈ ns, nodeOk x = true
  inr : InR ns.length 0 ns
  once : ∀ j : Nat, 1 ≤ j → j < ns.length → (allKids ns).count (j : Int) = 1

theorem kidsOk_some {i n : Int} : ∀ {l : List Int} {seen s : List Bool}, 0 ≤ i → n = seen.length → kidsOk i n seen l = some s →
    (∀ k ∈ l, i < k ∧ k < n) ∧ s.length = seen.length ∧ (∀ j : Nat, s[j]? = some true ↔ (seen[j]? = some true ∨ (j : Int) ∈ l)) ∧ (∀ j : Nat, (j : Int) ∈ l → seen[j]? ≠ some true) ∧ l.Nodup
  | [], seen, s, _, _, h => by
    simp only [kidsOk, Option.some.injEq] at h
    subst h
    simp
  | k :: r, seen, s, h0, hn, h => by
    unfold kidsOk at h
    by_cases hb : k ≤ i ∨ n ≤ k ∨ seen[k.toNat]? = some true
    · rw [if_pos hb] at h; cases h
    · rw [if_neg hb] at h
      have hk : i < k ∧ k < n ∧ seen[k.toNat]? ≠ some true := ⟨by omega, by omega, fun e => hb (.inr (.inr e))⟩
      obtain ⟨h1, h2, h3, h4, h5⟩ := kidsOk_some (l := r) h0 (by rw [List.length_set]; exact hn) h
      rw [List.length_set] at h2
      have hlt : k.toNat < seen.length := by omega
      refine ⟨fun x hx => ?_, h2, fun j => ?_, fun j hj => ?_, ?_⟩
      · rcases List.mem_cons.1 hx with rfl | hx
        · exact ⟨hk.1, hk.2.1⟩
        · exact h1 x hx
      · rw [h3 j, List.getElem?_set]
        by_cases e : k.toNat = j
        · subst e
          simp only [if_true, hlt, List.mem_cons]
          constructor
          · intro _; exact .inr (.inl (by omega))
          · intro _; exact .inl trivial
        · rw [if_neg e]
          simp only [List.mem_cons]
          have : ¬ (j : Int) = k := by omega
          simp [this]
      · rcases List.mem_cons.1 hj with e | hj
        · rw [show j = k.toNat by omega]; exact hk.2.2
        · have := h4 j hj
          rw [List.getElem?_set] at this
          by_cases e : k.toNat = j
          · subst e; simp [hlt] at this
          · rwa [if_neg e] at this
      · refine List.nodup_cons.2 ⟨fun hm => ?_, h5⟩
        have hkk : ((k.toNat : Nat) : Int) = k := by omega
        have := h4 k.toNat (by rw [hkk]; exact hm)
        rw [List.getElem?_set] at this
        simp [hlt] at this
theorem kidsOk_none {i n : Int} : ∀ {l : List Int} {seen : List Bool}, 0 ≤ i → n = seen.length → (∀ k ∈ l, i < k ∧ k < n) → l.Nodup → (∀ j : Nat, (j : Int) ∈ l → seen[j]? ≠ some true) → ∃ s, kidsOk i n seen l = some s
  | [], seen, _, _, _, _, _ => ⟨seen, rfl⟩
  | k :: r, seen, h0, hn, h1, h2, h3 => by
    have hk := h1 k (by simp)
    have hkk : ((k.toNat : Nat) : Int) = k := by omega
    have hs := h3 k.toNat (by rw [hkk]; simp)
    have hlt : k.toNat < seen.length := by omega
    unfold kidsOk
    rw [if_neg (by rintro (h | h | h) <;> first | omega | exact hs h)]
    refine kidsOk_none (l := r) h0 (by rw [List.length_set]; exact hn) (fun x hx => h1 x (by simp [hx])) (List.nodup_cons.1 h2).2 (fun j hj => ?_)
    rw [List.getElem?_set]
    by_cases e : k.toNat = j
    · subst e
      rw [hkk] at hj
      exact absurd hj (List.nodup_cons.1 h2).1
    · rw [if_neg e]
      exact h3 j (by simp [hj])

theorem nodesOk_some {n : Int} : ∀ {ns : List Nd} {i : Int} {seen s : List Bool}, 0 ≤ i → n = seen.length → nodesOk n i seen ns = some s →
    (∀ x ∈ ns, nodeOk x = true) ∧ InR n i ns ∧ s.length = seen.length ∧ (∀ j : Nat, s[j]? = some true ↔ (seen[j]? = some true ∨ (j : Int) ∈ allKids ns)) ∧ (∀ j : Nat, (j : Int) ∈ allKids ns → seen[j]? ≠ some true) ∧ (allKids ns).Nodup
  | [], i, seen, s, _, _, h => by
    simp only [nodesOk, Option.some.injEq] at h
    subst h
    simp [InR, allKids]
  | x :: r, i, seen, s, h0, hn, h => by
    unfold nodesOk at h
    by_cases hx : nodeOk x = true
    · rw [if_pos hx] at h
      cases hk : kidsOk i n seen x.kids with
      | none => rw [hk] at h; cases h
      | some t =>
        rw [hk] at h
        obtain ⟨a1, a2, a3, a4, a5⟩ := kidsOk_some h0 hn hk
        obtain ⟨b1, b2, b3, b4, b5, b6⟩ := nodesOk_some (ns := r) (i := i + 1) (by omega) (by rw [a2]; exact hn) h
        have hall : allKids (x :: r) = x.kids ++ allKids r := rfl
        rw [hall]
        refine ⟨fun y hy => ?_, ⟨a1, b2⟩, by omega, fun j => ?_, fun j hj => ?_, ?_⟩
        · rcases List.mem_cons.1 hy with rfl | hy
          · exact hx
          · exact b1 y hy
        · rw [b4 j, a3 j, List.mem_append, or_assoc]
        · rcases List.mem_append.1 hj with hj | hj
          · exact a4 j hj
          · exact fun e => b5 j hj ((a3 j).2 (.inl e))
        · refine List.nodup_append.2 ⟨a5, b6, fun y hy z hz e => ?_⟩
          subst e
          have hy0 := a1 y hy
          have hyy : ((y.toNat : Nat) : Int) = y := by omega
          exact b5 y.toNat (by rw [hyy]; exact hz) ((a3 y.toNat).2 (.inr (by rw [hyy]; exact hy)))
    · rw [if_neg hx] at h; cases h
theorem nodesOk_none {n : Int} : ∀ {ns : List Nd} {i : Int} {seen : List Bool}, 0 ≤ i → n = seen.length → (∀ x ∈ ns, nodeOk x = true) → InR n i ns → (allKids ns).Nodup → (∀ j : Nat, (j : Int) ∈ allKids ns → seen[j]? ≠ some true) → ∃ s, nodesOk n i seen ns = some s
  | [], i, seen, _, _, _, _, _, _ => ⟨seen, rfl⟩
  | x :: r, i, seen, h0, hn, h1, h2, h3, h4 => by
    have hall : allKids (x :: r) = x.kids ++ allKids r := rfl
    rw [hall] at h3 h4
    obtain ⟨k1, k2, k3⟩ := List.nodup_append.1 h3
    obtain ⟨t, ht⟩ := kidsOk_none h0 hn h2.1 k1 (fun j hj => h4 j (by simp [hj]))
    obtain ⟨_, a2, a3, _, _⟩ := kidsOk_some h0 hn ht
    unfold nodesOk
    rw [if_pos (h1 x (by simp)), ht]
    refine nodesOk_none (ns := r) (by omega) (by rw [a2]; exact hn) (fun y hy => h1 y (by simp [hy])) h2.2 k2 (fun j hj e => ?_)
    rcases (a3 j).1 e with e | e
    · exact h4 j (by simp [hj]) e
    · exact k3 _ e _ hj rfl

theorem inr_mem {n : Int} : ∀ {ns : List Nd} {i : Int} {k : Int}, InR n i ns → k ∈ allKids ns → i < k ∧ k < n
  | x :: r, i, k, h, hk => by
    rcases List.mem_append.1 (show k ∈ x.kids ++ allKids r from hk) with hk | hk
    · exact h.1 k hk
    · have := inr_mem h.2 hk; omega

theorem treeB_iff (ns : List Nd) : treeB ns = true ↔ IsTree ns := by
  unfold treeB
  by_cases hl : ns.length < 1 ∨ 256 < ns.length
  · rw [if_pos hl]
    constructor
    · intro h; cases h
    · intro h; have := h.pos; have := h.max; omega
  · rw [if_neg hl]
    have hr : ∀ j : Nat, (List.replicate ns.length false)[j]? ≠ some true := by
      intro j h
      rw [List.getElem?_replicate] at h
      split at h <;> simp at h
    cases hs : nodesOk ns.length 0 (List.replicate ns.length false) ns with
    | none =>
      simp only [Bool.false_eq_true, false_iff]
      intro h
      have hnd : (allKids ns).Nodup := by
        rw [List.nodup_iff_count]
        intro k
        by_cases hk : k ∈ allKids ns
        · have h1 := inr_mem h.inr hk
          have := h.once k.toNat (by omega) (by omega)
          rw [show ((k.toNat : Nat) : Int) = k by omega] at this
          omega
        · rw [List.count_eq_zero_of_not_mem hk]; omega
      obtain ⟨s, e⟩ := nodesOk_none (n := ns.length) (i := 0) (seen := List.replicate ns.length false) (by omega) (by simp) h.ok h.inr hnd (fun j _ => hr j)
      rw [hs] at e
      cases e
    | some s =>
      obtain ⟨b1, b2, b3, b4, b5, b6⟩ := nodesOk_some (by omega) (by simp) hs
      rw [List.length_replicate] at b3
      have key : (!(s.tail.contains false)) = true ↔ ∀ j : Nat, 1 ≤ j → j < ns.length → s[j]? = some true := by
        simp only [Bool.not_eq_true', List.contains_eq_mem, decide_eq_false_iff_not]
        constructor
        · intro h j h1 h2
          have hj : j < s.length := by omega
          rw [List.getElem?_eq_getElem hj]
          cases hv : s[j] with
          | true => rfl
          | false =>
            refine absurd ?_ h
            rw [List.mem_iff_getElem?]
            exact ⟨j - 1, by rw [List.getElem?_tail, show j - 1 + 1 = j by omega, List.getElem?_eq_getElem hj, hv]⟩
        · intro h hm
          obtain ⟨i, hi⟩ := List.mem_iff_getElem?.1 hm
          rw [List.getElem?_tail] at hi
          have hlt : i + 1 < s.length := (List.getElem?_eq_some_iff.1 hi).1
          have := h (i + 1) (by omega) (by omega)
          rw [this] at hi
          cases hi
      show (!(s.tail.contains false)) = true ↔ _
      rw [key]
      constructor
      · intro h
        refine ⟨by omega, by omega, b1, b2, fun j h1 h2 => ?_⟩
        rcases (b4 j).1 (h j h1 h2) with e | e
        · exact absurd e (hr j)
        · have h3 := List.nodup_iff_count.1 b6 (j : Int)
          have h4 := List.count_pos_iff.2 e
          omega
      · intro h j h1 h2
        refine (b4 j).2 (.inr (List.count_pos_iff.1 ?_))
        have := h.once j h1 h2
        omega

theorem kidsIn_some {i n : Int} : ∀ {l : List Int} {c s : List Nat}, 0 ≤ i → n = c.length → kidsIn i n c l = some s →
    (∀ k ∈ l, i < k ∧ k < n) ∧ s.length = c.length ∧ (∀ j : Nat, j < c.length → s.getD j 0 = c.getD j 0 + l.count (j : Int))
  | [], c, s, _, _, h => by
    simp only [kidsIn, Option.some.injEq] at h
    subst h
    simp
  | k :: r, c, s, h0, hn, h => by
    unfold kidsIn at h
    by_cases hb : k ≤ i ∨ n ≤ k
    · rw [if_pos hb] at h; cases h
    · rw [if_neg hb] at h
      obtain ⟨h1, h2, h3⟩ := kidsIn_some (l := r) h0 (by rw [List.length_set]; exact hn) h
      rw [List.length_set] at h2 h3
      refine ⟨fun x hx => ?_, h2, fun j hj => ?_⟩
      · rcases List.mem_cons.1 hx with rfl | hx
        · omega
        · exact h1 x hx
      · rw [h3 j hj]
        simp only [List.getD_eq_getElem?_getD, List.getElem?_set, List.count_cons]
        by_cases e : k.toNat = j
        · subst e
          have : (k == ((k.toNat : Nat) : Int)) = true := by simp; omega
          simp only [if_true, hj, this, Option.getD_some]
          omega
        · rw [if_neg e]
          have : (k == (j : Int)) = false := by simp; omega
          simp only [this, Bool.false_eq_true, if_false]
          omega
theorem kidsIn_none {i n : Int} : ∀ {l : List Int} {c : List Nat}, (∀ k ∈ l, i < k ∧ k < n) → ∃ s, kidsIn i n c l = some s
  | [], c, _ => ⟨c, rfl⟩
  | k :: r, c, h => by
    have := h k (by simp)
    unfold kidsIn
    rw [if_neg (by omega)]
    exact kidsIn_none (fun x hx => h x (by simp [hx]))

theorem nodesIn_some {n : Int} : ∀ {ns : List Nd} {i : Int} {c s : List Nat}, 0 ≤ i → n = c.length → nodesIn n i c ns = some s →
    (∀ x ∈ ns, nodeOk x = true) ∧ InR n i ns ∧ s.length = c.length ∧ (∀ j : Nat, j < c.length → s.getD j 0 = c.getD j 0 + (allKids ns).count (j : Int))
  | [], i, c, s, _, _, h => by
    simp only [nodesIn, Option.some.injEq] at h
    subst h
    simp [InR, allKids]
  | x :: r, i, c, s, h0, hn, h => by
    unfold nodesIn at h
    by_cases hx : nodeOk x = true ∧ (x.kids.length : Int) < n
    · rw [if_pos hx] at h
      cases hk : kidsIn i n c x.kids with
      | none => rw [hk] at h; cases h
      | some t =>
        rw [hk] at h
        obtain ⟨a1, a2, a3⟩ := kidsIn_some h0 hn hk
        obtain ⟨b1, b2, b3, b4⟩ := nodesIn_some (ns := r) (i := i + 1) (by omega) (by rw [a2]; exact hn) h
        refine ⟨fun y hy => ?_, ⟨a1, b2⟩, by omega, fun j hj => ?_⟩
        · rcases List.mem_cons.1 hy with rfl | hy
          · exact hx.1
          · exact b1 y hy
        · rw [b4 j (by omega), a3 j hj, show allKids (x :: r) = x.kids ++ allKids r from rfl, List.count_append]
          omega
    · rw [if_neg hx] at h; cases h
theorem nodesIn_none {n : Int} : ∀ {ns : List Nd} {i : Int} {c : List Nat}, (∀ x ∈ ns, nodeOk x = true ∧ (x.kids.length : Int) < n) → InR n i ns → ∃ s, nodesIn n i c ns = some s
  | [], i, c, _, _ => ⟨c, rfl⟩
  | x :: r, i, c, h1, h2 => by
    obtain ⟨t, ht⟩ := kidsIn_none (c := c) h2.1
    unfold nodesIn
    rw [if_pos (h1 x (by simp)), ht]
    exact nodesIn_none (fun y hy => h1 y (by simp [hy])) h2.2

theorem nodup_below : ∀ (n : Nat) (l : List Nat), l.Nodup → (∀ k ∈ l, k < n) → l.length ≤ n
  | 0, l, _, h => by
    match l, h with
    | [], _ => simp
    | k :: _, h => have := h k (by simp); omega
  | n + 1, l, hn, h => by
    by_cases hm : n ∈ l
    · have h1 := nodup_below n (l.erase n) (hn.erase n) (fun k hk => by
        have h2 := h k (List.mem_of_mem_erase hk)
        have h3 : k ≠ n := fun e => by subst e; exact (hn.not_mem_erase) hk
        omega)
      have h2 := List.length_erase_of_mem hm
      have h3 := List.length_pos_of_mem hm
      omega
    · have := nodup_below n l hn (fun k hk => by
        have h2 := h k hk
        have h3 : k ≠ n := fun e => by subst e; exact hm hk
        omega)
      omega
theorem nodup_range_length {l : List Int} {n : Int} (h : l.Nodup) (hr : ∀ k ∈ l, 0 < k ∧ k < n) : (l.length : Int) < n ∨ l = [] := by
  rcases Nat.eq_zero_or_pos l.length with h0 | h0
  · exact .inr (List.eq_nil_of_length_eq_zero h0)
  · left
    obtain ⟨k, hk⟩ := List.exists_mem_of_length_pos h0
    have hn := hr k hk
    have hnd : (l.map fun k => k.toNat - 1).Nodup := by
      refine List.pairwise_map.2 (h.imp_of_mem fun {a b} ha hb hne e => hne ?_)
      have := hr a ha; have := hr b hb
      omega
    have := nodup_below (n.toNat - 1) _ hnd (fun j hj => by
      obtain ⟨i, hi, rfl⟩ := List.mem_map.1 hj
      have := hr i hi
      omega)
    rw [List.length_map] at this
    omega

theorem treeR_iff (ns : List Nd) : treeR ns = true ↔ IsTree ns := by
  unfold treeR
  by_cases hl : ns.length < 1 ∨ 256 < ns.length
  · rw [if_pos hl]
    constructor
    · intro h; cases h
    · intro h; have := h.pos; have := h.max; omega
  · rw [if_neg hl]
    cases hs : nodesIn ns.length 0 (List.replicate ns.length 0) ns with
    | none =>
      simp only [Bool.false_eq_true, false_iff]
      intro h
      have hnd : (allKids ns).Nodup := by
        rw [List.nodup_iff_count]
        intro k
        by_cases hk : k ∈ allKids ns
        · have h1 := inr_mem h.inr hk
          have := h.once k.toNat (by omega) (by omega)
          rw [show ((k.toNat : Nat) : Int) = k by omega] at this
          omega
        · rw [List.count_eq_zero_of_not_mem hk]; omega
      have hlen : ∀ x ∈ ns, nodeOk x = true ∧ (x.kids.length : Int) < ns.length := by
        intro x hx
        refine ⟨h.ok x hx, ?_⟩
        have hsl : x.kids.Sublist (allKids ns) := by unfold allKids; rw [List.flatMap_def]; exact List.sublist_flatten_of_mem (List.mem_map.2 ⟨x, hx, rfl⟩)
        rcases nodup_range_length (hsl.nodup hnd) (n := ns.length) (fun k hk => by
          have := inr_mem h.inr (hsl.mem hk); omega) with h1 | h1
        · exact h1
        · rw [h1]; have := h.pos; simp; omega
      obtain ⟨s, e⟩ := nodesIn_none (n := ns.length) (i := 0) (c := List.replicate ns.length 0) hlen h.inr
      rw [hs] at e
      cases e
    | some s =>
      obtain ⟨b1, b2, b3, b4⟩ := nodesIn_some (by omega) (by simp) hs
      rw [List.length_replicate] at b3 b4
      have key : (s.tail.all (· == 1)) = true ↔ ∀ j : Nat, 1 ≤ j → j < ns.length → s.getD j 0 = 1 := by
        rw [List.all_eq_true]
        constructor
        · intro h j h1 h2
          have hj : j < s.length := by omega
          have hm : s[j] ∈ s.tail := by
            rw [List.mem_iff_getElem?]
            exact ⟨j - 1, by rw [List.getElem?_tail, show j - 1 + 1 = j by omega, List.getElem?_eq_getElem hj]⟩
          have := h _ hm
          rw [List.getD_eq_getElem?_getD, List.getElem?_eq_getElem hj]
          simpa using this
        · intro h x hx
          obtain ⟨i, hi⟩ := List.mem_iff_getElem?.1 hx
          rw [List.getElem?_tail] at hi
          have hlt : i + 1 < s.length := (List.getElem?_eq_some_iff.1 hi).1
          have := h (i + 1) (by omega) (by omega)
          rw [List.getD_eq_getElem?_getD, hi] at this
          simpa using this
      show (s.tail.all (· == 1)) = true ↔ _
      rw [key]
      have hz : ∀ j : Nat, (List.replicate ns.length 0).getD j 0 = 0 := by
        intro j
        rw [List.getD_eq_getElem?_getD, List.getElem?_replicate]
        split <;> rfl
      constructor
      · intro h
        refine ⟨by omega, by omega, b1, b2, fun j h1 h2 => ?_⟩
        have e := b4 j h2
        rw [h j h1 h2, hz] at e
        omega
      · intro h j h1 h2
        rw [b4 j h2, hz, h.once j h1 h2]
theorem tree_eq (ns : List Nd) : treeB ns = treeR ns := by
  rw [Bool.eq_iff_iff, treeB_iff, treeR_iff]
end Go.Proofs.Ytlanjpickjndlaa
