/- A tree of nodes in its one numbering; how long that is; when two are the same. Plain Lean. -/
import Derived.Test.YtlanjpickjndlaaPatSpec
namespace Go.Proofs.Ytlanjpickjndlaa

def nd0 : Nd := ⟨0, 0, 0, 0, []⟩
def kidsT (tn : Bool) (x : Nd) : List Int := if tn = true ∧ x.kind = 6 then x.kids.reverse else x.kids

/-- Subtrees one behind the other: their nodes, their numbers. -/
def subs (g : Nat → Nat → List Nd) : Nat → List Int → List Nd × List Int
  | _, [] => ([], [])
  | b, k :: r => ((g b k.toNat) ++ (subs g (b + (g b k.toNat).length) r).1, (b : Int) :: (subs g (b + (g b k.toNat).length) r).2)
/-- The node 'at' and all below it, numbered from b on. -/
def sub (ns : List Nd) (tn : Bool) : Nat → Nat → Nat → List Nd
  | 0, _, _ => []
  | f + 1, b, i => { ns.getD i nd0 with kids := (subs (sub ns tn f) (b + 1) (kidsT tn (ns.getD i nd0))).2 } :: (subs (sub ns tn f) (b + 1) (kidsT tn (ns.getD i nd0))).1
/-- How many that are. -/
def szN (ns : List Nd) : Nat → Nat → Nat
  | 0, _ => 0
  | f + 1, i => 1 + ((ns.getD i nd0).kids.map fun k => szN ns f k.toNat).sum

theorem subs_snoc (g : Nat → Nat → List Nd) : ∀ (l : List Int) (b : Nat) (k : Int), subs g b (l ++ [k]) = ((subs g b l).1 ++ g (b + (subs g b l).1.length) k.toNat, (subs g b l).2 ++ [((b + (subs g b l).1.length : Nat) : Int)])
  | [], b, k => by simp [subs]
  | x :: r, b, k => by
    have ih := subs_snoc g r (b + (g b x.toNat).length) k
    simp only [List.cons_append, subs, ih, List.length_append, List.append_assoc, Nat.add_assoc]
theorem subs_num (g : Nat → Nat → List Nd) : ∀ (l : List Int) (b : Nat), (subs g b l).2.length = l.length
  | [], _ => rfl
  | _ :: r, b => by simp only [subs, List.length_cons, subs_num g r]

theorem subs_length {g : Nat → Nat → List Nd} {h : Nat → Nat} (e : ∀ b i, (g b i).length = h i) : ∀ (l : List Int) (b : Nat), (subs g b l).1.length = (l.map fun k => h k.toNat).sum
  | [], _ => rfl
  | k :: r, b => by simp only [subs, List.length_append, subs_length e r, List.map_cons, List.sum_cons, e]
theorem sum_rev (h : Int → Nat) (l : List Int) : (l.reverse.map h).sum = (l.map h).sum := by
  rw [List.map_reverse, List.sum_reverse]
theorem kidsT_sum (tn : Bool) (x : Nd) (h : Int → Nat) : ((kidsT tn x).map h).sum = (x.kids.map h).sum := by
  unfold kidsT
  split
  · exact sum_rev h _
  · rfl
theorem kidsT_length (tn : Bool) (x : Nd) : (kidsT tn x).length = x.kids.length := by
  unfold kidsT
  split
  · exact List.length_reverse
  · rfl
theorem kidsT_mem (tn : Bool) (x : Nd) (k : Int) : k ∈ kidsT tn x ↔ k ∈ x.kids := by
  unfold kidsT
  split
  · exact List.mem_reverse
  · exact Iff.rfl
theorem sub_length (ns : List Nd) (tn : Bool) : ∀ (f b i : Nat), (sub ns tn f b i).length = szN ns f i
  | 0, _, _ => rfl
  | f + 1, b, i => by
    simp only [sub, List.length_cons, szN]
    rw [subs_length (sub_length ns tn f), kidsT_sum]
    omega

theorem inr_at {n : Int} : ∀ {ns : List Nd} {i : Int} (j : Nat), InR n i ns → j < ns.length → ∀ k ∈ (ns.getD j nd0).kids, i + j < k ∧ k < n
  | x :: r, i, 0, h, _ => fun k hk => by have := h.1 k (by simpa using hk); omega
  | x :: r, i, j + 1, h, hj => fun k hk => by
    have := inr_at (ns := r) (i := i + 1) j h.2 (by simpa using hj) k (by simpa using hk)
    omega

theorem szN_fuel {ns : List Nd} (hr : InR ns.length 0 ns) : ∀ (f g i : Nat), i < ns.length → ns.length - i ≤ f → ns.length - i ≤ g → szN ns f i = szN ns g i
  | 0, _, i, hi, hf, _ => by omega
  | _ + 1, 0, i, hi, _, hg => by omega
  | f + 1, g + 1, i, hi, hf, hg => by
    simp only [szN]
    congr 2
    refine List.map_congr_left fun k hk => ?_
    have := inr_at i hr hi k hk
    exact szN_fuel hr f g k.toNat (by omega) (by omega) (by omega)

theorem sum_flat {α : Type} (h : α → Nat) : ∀ (l : List (List α)), ((l.flatten).map h).sum = (l.map fun r => (r.map h).sum).sum
  | [] => rfl
  | r :: l => by simp only [List.flatten_cons, List.map_append, List.sum_append, List.map_cons, List.sum_cons, sum_flat h l]

theorem tree_perm {ns : List Nd} (h : IsTree ns) : (allKids ns).Perm ((List.range' 1 (ns.length - 1)).map fun j : Nat => (j : Int)) := by
  rw [List.perm_iff_count]
  intro k
  by_cases hk : 1 ≤ k ∧ k < ns.length
  · have h1 := h.once k.toNat (by omega) (by omega)
    have hkk : ((k.toNat : Nat) : Int) = k := by omega
    rw [hkk] at h1
    rw [h1]
    have hnd : ((List.range' 1 (ns.length - 1)).map fun j : Nat => (j : Int)).Nodup :=
      List.pairwise_map.2 (List.Pairwise.imp (fun {a b} hne e => hne (by omega)) (show (List.range' 1 (ns.length - 1)).Nodup from List.nodup_range' 1))
    have hm : k ∈ (List.range' 1 (ns.length - 1)).map fun j : Nat => (j : Int) := by
      rw [List.mem_map]
      exact ⟨k.toNat, by simp only [List.mem_range'_1]; omega, hkk⟩
    have h2 := List.nodup_iff_count.1 hnd k
    have h3 := List.count_pos_iff.2 hm
    omega
  · rw [List.count_eq_zero_of_not_mem (fun hm => hk (by have := inr_mem h.inr hm; omega)), List.count_eq_zero_of_not_mem]
    intro hm
    obtain ⟨j, hj, rfl⟩ := List.mem_map.1 hm
    simp only [List.mem_range'_1] at hj
    omega
theorem kids_le {ns : List Nd} (h : IsTree ns) {x : Nd} (hx : x ∈ ns) : x.kids.length ≤ ns.length := by
  have h1 := (tree_perm h).length_eq
  rw [List.length_map, List.length_range'] at h1
  have h2 : ∀ l : List Nd, x ∈ l → x.kids.length ≤ (l.flatMap (·.kids)).length := by
    intro l
    induction l with
    | nil => intro h; simp at h
    | cons y r ih =>
      intro hm
      rw [List.flatMap_cons, List.length_append]
      rcases List.mem_cons.1 hm with rfl | hm
      · omega
      · have := ih hm; omega
  have h3 := h2 ns hx
  have h4 : (ns.flatMap (·.kids)).length = ns.length - 1 := h1
  omega

theorem tree_size {ns : List Nd} (h : IsTree ns) : szN ns ns.length 0 = ns.length := by
  have hpos := h.pos
  let z : Nat → Nat := szN ns ns.length
  have hz : ∀ i, i < ns.length → z i = 1 + ((ns.getD i nd0).kids.map fun k => z k.toNat).sum := by
    intro i hi
    show szN ns ns.length i = _
    rw [szN_fuel h.inr ns.length (ns.length + 1) i hi (by omega) (by omega)]
    rfl
  have hperm := tree_perm h
  have hsum : ((List.range ns.length).map z).sum = ns.length + ((allKids ns).map fun k => z k.toNat).sum := by
    have e1 : (List.range ns.length).map z = (List.range ns.length).map fun i => 1 + ((ns.getD i nd0).kids.map fun k => z k.toNat).sum :=
      List.map_congr_left fun i hi => hz i (List.mem_range.1 hi)
    have e2 : ∀ (F : Nat → Nat) (n : Nat), ((List.range n).map fun i => 1 + F i).sum = n + ((List.range n).map F).sum := by
      intro F n
      induction n with
      | zero => rfl
      | succ n ih => rw [List.range_succ, List.map_append, List.sum_append, List.map_append, List.sum_append, ih]; simp; omega
    rw [e1, e2]
    congr 1
    have e3 : (List.range ns.length).map (fun i => ((ns.getD i nd0).kids.map fun k => z k.toNat).sum) = ns.map fun x => (x.kids.map fun k => z k.toNat).sum := by
      refine List.ext_getElem (by simp) fun i h1 h2 => ?_
      simp only [List.getElem_map, List.getElem_range, List.getD_eq_getElem?_getD]
      rw [List.getElem?_eq_getElem (by simpa using h2)]
      rfl
    rw [e3]
    show _ = (((ns.flatMap (·.kids)).map fun k => z k.toNat)).sum
    rw [List.flatMap_def, sum_flat, List.map_map]
    rfl
  have hk : ((allKids ns).map fun k => z k.toNat).sum = ((List.range' 1 (ns.length - 1)).map z).sum := by
    rw [(hperm.map fun k => z k.toNat).sum_nat, List.map_map]
    rfl
  have hrange : List.range ns.length = 0 :: List.range' 1 (ns.length - 1) := by
    rw [List.range_eq_range']
    obtain ⟨m, hm⟩ : ∃ m, ns.length = m + 1 := ⟨ns.length - 1, by omega⟩
    rw [hm, List.range'_succ]
    simp
  rw [hk, hrange, List.map_cons, List.sum_cons] at hsum
  show z 0 = _
  omega

/-- Two patterns, compared node by node. -/
def likeB (ps qs : List Nd) : Nat → Nat → Nat → Bool
  | 0, _, _ => true
  | f + 1, i, k =>
    let x := ps.getD i nd0
    let y := qs.getD k nd0
    decide (x.kind = y.kind) && decide (x.rune = y.rune) && decide (x.plus = y.plus) && decide (x.minus = y.minus) && decide (x.kids.length = y.kids.length) &&
      (x.kids.zip y.kids).all fun ab => likeB ps qs f ab.1.toNat ab.2.toNat

theorem subs_eq {g h : Nat → Nat → List Nd} {L : Nat → Nat → Bool} (e : ∀ b i k, g b i = h b k ↔ L i k = true) :
    ∀ (l m : List Int) (b : Nat), ((subs g b l).2 = (subs h b m).2 ∧ (subs g b l).1 = (subs h b m).1) ↔ (l.length = m.length ∧ (l.zip m).all (fun ab => L ab.1.toNat ab.2.toNat) = true)
  | [], [], b => by simp [subs]
  | [], k :: r, b => by simp [subs]
  | k :: r, [], b => by simp [subs]
  | k :: l, k' :: m, b => by
    have ih := subs_eq e l m
    simp only [subs, List.cons.injEq, true_and, List.length_cons, List.zip_cons_cons, List.all_cons, Bool.and_eq_true]
    constructor
    · rintro ⟨h1, h2⟩
      have hlen : (g b k.toNat).length = (h b k'.toNat).length := by
        have hn := congrArg List.length h1
        rw [subs_num, subs_num] at hn
        match l, m, hn with
        | [], [], _ =>
          simp only [subs, List.append_nil] at h2
          rw [h2]
        | x :: l2, y :: m2, _ =>
          simp only [subs, List.cons.injEq] at h1
          have := h1.1
          omega
      obtain ⟨h3, h4⟩ := List.append_inj h2 hlen
      rw [hlen] at h1 h4
      have := (ih _).1 ⟨h1, h4⟩
      exact ⟨by omega, (e b _ _).1 h3, this.2⟩
    · rintro ⟨h1, h2, h3⟩
      have h4 := (e b k.toNat k'.toNat).2 h2
      have := (ih (b + (h b k'.toNat).length)).2 ⟨by omega, h3⟩
      rw [h4]
      exact ⟨this.1, by rw [this.2]⟩

theorem sub_like (ps qs : List Nd) : ∀ (f b i k : Nat), sub ps false f b i = sub qs false f b k ↔ likeB ps qs f i k = true
  | 0, _, _, _ => by simp [sub, likeB]
  | f + 1, b, i, k => by
    have hk : ∀ x : Nd, kidsT false x = x.kids := fun x => by simp [kidsT]
    have := subs_eq (fun b i k => sub_like ps qs f b i k) (ps.getD i nd0).kids (qs.getD k nd0).kids (b + 1)
    simp only [sub, likeB, hk, List.cons.injEq, Nd.mk.injEq, Bool.and_eq_true, decide_eq_true_eq, and_assoc]
    rw [this]
end Go.Proofs.Ytlanjpickjndlaa
