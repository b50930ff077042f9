/- Nodes that a call owns: a row of nodes, and a row of numbers for each node's kids. The examples' alphabet and patterns, in memory; what the document says of them. Some answers that the document fixes. -/
import Derived.Test.YtimhlnndobfehaaDoorMc08
import Derived.Test.YtimhlnndobfehaaDoorMc06
import Derived.Test.YtimhlnndobfehaaDoorMc33
import Derived.Test.YtimhlnndobfehaaDoorMc34
namespace Go.Proofs.YtimhlnndobfehaaDoor
open Go.RowKit
set_option linter.unusedVariables false

def ndCells (x : Nd) (u : Value) : List Value := [.int .u8 x.kind, .int .i32 x.rune, .int .u32 x.plus, .int .u32 x.minus, u]
def flat (es : List (Nd × Value)) : List Value := es.flatMap fun e => ndCells e.1 e.2
theorem flat_cons (e : Nd × Value) (es : List (Nd × Value)) : flat (e :: es) = ndCells e.1 e.2 ++ flat es := rfl
theorem flat_append (es fs : List (Nd × Value)) : flat (es ++ fs) = flat es ++ flat fs := by unfold flat; rw [List.flatMap_append]
theorem flat_one (x : Nd) (u : Value) : flat [(x, u)] = ndCells x u := by simp [flat]
theorem flat_length : ∀ (es : List (Nd × Value)), (flat es).length = es.length * 5
  | [] => rfl
  | e :: es => by rw [flat_cons, List.length_append, flat_length es, List.length_cons]; simp only [ndCells, List.length_cons, List.length_nil]; omega
theorem flat_get {x : Nd} {u : Value} {j : Nat} (hj : j < 5) : ∀ {es : List (Nd × Value)} {i : Nat}, es[i]? = some (x, u) → (flat es)[i * 5 + j]? = (ndCells x u)[j]?
  | [], i, h => by simp at h
  | e :: es, 0, h => by
    simp only [List.getElem?_cons_zero, Option.some.injEq] at h
    subst h
    rw [flat_cons, List.getElem?_append_left (by simp only [ndCells, List.length_cons, List.length_nil]; omega)]
    simp
  | e :: es, i + 1, h => by
    rw [List.getElem?_cons_succ] at h
    rw [flat_cons, List.getElem?_append_right (by simp only [ndCells, List.length_cons, List.length_nil]; omega), ← flat_get hj h]
    congr 1
    simp only [ndCells, List.length_cons, List.length_nil]
    omega
theorem flat_set {x : Nd} {u u' : Value} (ks : List Int) : ∀ {es : List (Nd × Value)} {i : Nat}, es[i]? = some (x, u) → (flat es).set (i * 5 + 4) u' = flat (es.set i ({ x with kids := ks }, u'))
  | [], i, h => by simp at h
  | e :: es, 0, h => by
    simp only [List.getElem?_cons_zero, Option.some.injEq] at h
    subst h
    rfl
  | e :: es, i + 1, h => by
    rw [List.getElem?_cons_succ] at h
    rw [flat_cons, List.set_cons_succ, flat_cons, ← flat_set ks h, List.set_append_right _ _ (by simp only [ndCells, List.length_cons, List.length_nil]; omega)]
    congr 2
    simp only [ndCells, List.length_cons, List.length_nil]
    omega

def kinNd (x : Nd) : Prop := kin .u8 x.kind ∧ kin .i32 x.rune ∧ kin .u32 x.plus ∧ kin .u32 x.minus ∧ ∀ k ∈ x.kids, kin .i64 k

structure Nodes (w : World) (lo : Nat) (v : Value) (es : List (Nd × Value)) : Prop where
  row : w.ownsRow lo 44 5 v es.length (flat es)
  kid : ∀ (i : Nat) (x : Nd) (u : Value), es[i]? = some (x, u) → w.ownsRow lo 3 1 u x.kids.length (x.kids.map (Value.int .i64)) ∧ kinNd x
  far : ∀ (i : Nat) (x : Nd) (u : Value) (g : Nat), es[i]? = some (x, u) → u.ownBlock = some g → v.ownBlock ≠ some g
  apart : ∀ (i j : Nat) (x : Nd) (u : Value) (y : Nd) (t : Value) (g : Nat), es[i]? = some (x, u) → es[j]? = some (y, t) → u.ownBlock = some g → t.ownBlock = some g → i = j

section
variable {w w' : World} {lo : Nat} {v : Value} {es : List (Nd × Value)}
theorem Nodes.nil (w : World) (lo : Nat) : Nodes w lo (.slice none 0 0) [] :=
  ⟨World.ownsRow_nil _ _ _ _, by simp, by simp, by simp⟩
theorem Nodes.same (h : Nodes w lo v es) (hb : ∀ g, v.ownBlock = some g ∨ (∃ (i : Nat) (x : Nd) (u : Value), es[i]? = some (x, u) ∧ u.ownBlock = some g) → w'.heap[g]? = w.heap[g]?) : Nodes w' lo v es :=
  ⟨own_same h.row fun g hg => hb g (.inl hg), fun i x u hi => ⟨own_same (h.kid i x u hi).1 fun g hg => hb g (.inr ⟨i, x, u, hi, hg⟩), (h.kid i x u hi).2⟩, h.far, h.apart⟩
theorem Nodes.lt (h : Nodes w lo v es) {g : Nat} (hg : v.ownBlock = some g ∨ (∃ (i : Nat) (x : Nd) (u : Value), es[i]? = some (x, u) ∧ u.ownBlock = some g)) : lo ≤ g ∧ g < w.heap.size := by
  rcases hg with hg | ⟨i, x, u, hi, hg⟩
  · exact h.row.lt g hg
  · exact (h.kid i x u hi).1.lt g hg
theorem Nodes.below (h : Nodes w lo v es) (hb : Below w.heap.size w w') : Nodes w' lo v es := h.same fun g hg => hb.block g (h.lt hg).2
theorem Nodes.fr {S : Nat → Prop} (h : Nodes w lo v es) (hf : Fr S w w') (hs : ∀ g, v.ownBlock = some g ∨ (∃ (i : Nat) (x : Nd) (u : Value), es[i]? = some (x, u) ∧ u.ownBlock = some g) → ¬ S g) : Nodes w' lo v es :=
  h.same fun g hg => hf.block g (h.lt hg).2 (hs g hg)
theorem Nodes.alloc (h : Nodes w lo v es) (o : Obj) : Nodes (w.alloc o) lo v es := h.below ((Below.refl _ _).alloc (Nat.le_refl _) _)
/-- A node more. -/
theorem Nodes.push (h : Nodes w lo v es) {x : Nd} {u v' : Value} (hu : w.ownsRow lo 3 1 u x.kids.length (x.kids.map (Value.int .i64))) (hk : kinNd x)
    (hfar : ∀ g, u.ownBlock = some g → v.ownBlock ≠ some g ∧ ∀ (i : Nat) (y : Nd) (t : Value), es[i]? = some (y, t) → t.ownBlock ≠ some g)
    (hrow : w'.ownsRow lo 44 5 v' (es.length + 1) (flat es ++ ndCells x u)) (hg : w.grownBy w' v.ownBlock) (hat : v'.ownBlock = v.ownBlock ∨ v'.ownBlock = some w.heap.size) : Nodes w' lo v' (es ++ [(x, u)]) := by
  have hold : ∀ (i : Nat) (y : Nd) (t : Value), (es ++ [(x, u)])[i]? = some (y, t) → (es[i]? = some (y, t) ∧ i < es.length) ∨ (i = es.length ∧ y = x ∧ t = u) := by
    intro i y t hi
    by_cases hlt : i < es.length
    · rw [List.getElem?_append_left hlt] at hi
      exact .inl ⟨hi, hlt⟩
    · rw [List.getElem?_append_right (by omega)] at hi
      match hm : i - es.length, hi with
      | 0, hi =>
        simp only [List.getElem?_cons_zero, Option.some.injEq, Prod.mk.injEq] at hi
        exact .inr ⟨by omega, hi.1.symm, hi.2.symm⟩
      | n + 1, hi => simp at hi
  have hown : ∀ (i : Nat) (y : Nd) (t : Value), (es ++ [(x, u)])[i]? = some (y, t) → w.ownsRow lo 3 1 t y.kids.length (y.kids.map (Value.int .i64)) ∧ kinNd y ∧ ∀ g, t.ownBlock = some g → v.ownBlock ≠ some g := by
    intro i y t hi
    rcases hold i y t hi with ⟨hi, _⟩ | ⟨_, rfl, rfl⟩
    · exact ⟨(h.kid i y t hi).1, (h.kid i y t hi).2, fun g hg => h.far i y t g hi hg⟩
    · exact ⟨hu, hk, fun g hg => (hfar g hg).1⟩
  refine ⟨?_, fun i y t hi => ?_, fun i y t g hi hgt => ?_, fun i j y t z s g hi hj hgt hgs => ?_⟩
  · rw [flat_append, flat_one, List.length_append]
    exact hrow
  · obtain ⟨h1, h2, h3⟩ := hown i y t hi
    exact ⟨own_same h1 fun g hgt => hg.block g (h1.lt g hgt).2 (fun e => h3 g hgt e.symm), h2⟩
  · obtain ⟨h1, h2, h3⟩ := hown i y t hi
    rcases hat with e | e
    · rw [e]; exact h3 g hgt
    · rw [e]
      have := (h1.lt g hgt).2
      simp only [ne_eq, Option.some.injEq]
      omega
  · rcases hold i y t hi with ⟨pi, _⟩ | ⟨rfl, rfl, rfl⟩ <;> rcases hold j z s hj with ⟨pj, _⟩ | ⟨rfl, rfl, rfl⟩
    · exact h.apart i j y t z s g pi pj hgt hgs
    · exact absurd hgt ((hfar g hgs).2 i y t pi)
    · exact absurd hgs ((hfar g hgt).2 j z s pj)
    · rfl
/-- A node's kids are others now. -/
theorem Nodes.swap (h : Nodes w lo v es) {i : Nat} {x : Nd} {u u' : Value} {ks : List Int} {g : Nat} (hi : es[i]? = some (x, u)) (hg : v.ownBlock = some g)
    (hb : ∀ k, v.ownBlock = some k ∨ (∃ (j : Nat) (y : Nd) (t : Value), j ≠ i ∧ es[j]? = some (y, t) ∧ t.ownBlock = some k) → w'.heap[k]? = w.heap[k]?)
    (hu : w'.ownsRow lo 3 1 u' ks.length (ks.map (Value.int .i64))) (hk : ∀ k ∈ ks, kin .i64 k)
    (hfar : ∀ k, u'.ownBlock = some k → k ≠ g ∧ ∀ (j : Nat) (y : Nd) (t : Value), j ≠ i → es[j]? = some (y, t) → t.ownBlock ≠ some k) :
    Nodes (w'.setCell ⟨g, i * 5 + 4, none⟩ u') lo v (es.set i ({ x with kids := ks }, u')) := by
  have hil : i < es.length := (List.getElem?_eq_some_iff.1 hi).1
  have hold : ∀ (j : Nat) (y : Nd) (t : Value), (es.set i ({ x with kids := ks }, u'))[j]? = some (y, t) → (j ≠ i ∧ es[j]? = some (y, t)) ∨ (j = i ∧ y = { x with kids := ks } ∧ t = u') := by
    intro j y t hj
    rw [List.getElem?_set] at hj
    by_cases e : i = j
    · subst e
      simp only [if_true, hil, Option.some.injEq, Prod.mk.injEq] at hj
      exact .inr ⟨rfl, hj.1.symm, hj.2.symm⟩
    · rw [if_neg e] at hj
      exact .inl ⟨fun e2 => e e2.symm, hj⟩
  have hout : ∀ k, k ≠ g → (w'.setCell ⟨g, i * 5 + 4, none⟩ u').heap[k]? = w'.heap[k]? := fun k hk => Below.heap_setCell _ _ _ k hk
  refine ⟨?_, fun j y t hj => ?_, fun j y t k hj hkt => ?_, fun j l y t z s k hj hl hkt hks => ?_⟩
  · rw [List.length_set, ← flat_set ks hi]
    exact own_set (own_same h.row fun k hk => hb k (.inl hk)) hg (by rw [flat_length]; omega) _
  · rcases hold j y t hj with ⟨hne, hj⟩ | ⟨rfl, rfl, rfl⟩
    · refine ⟨own_same (h.kid j y t hj).1 fun k hkt => ?_, (h.kid j y t hj).2⟩
      rw [hout k (fun e => h.far j y t k hj hkt (by rw [hg, e])), hb k (.inr ⟨j, y, t, hne, hj, hkt⟩)]
    · exact ⟨own_same hu fun k hkt => hout k (hfar k hkt).1, ⟨(h.kid _ _ _ hi).2.1, (h.kid _ _ _ hi).2.2.1, (h.kid _ _ _ hi).2.2.2.1, (h.kid _ _ _ hi).2.2.2.2.1, hk⟩⟩
  · rcases hold j y t hj with ⟨hne, hj⟩ | ⟨rfl, rfl, rfl⟩
    · exact h.far j y t k hj hkt
    · rw [hg]
      simp only [ne_eq, Option.some.injEq]
      exact fun e => (hfar k hkt).1 e.symm
  · rcases hold j y t hj with ⟨hne, pj⟩ | ⟨rfl, rfl, rfl⟩ <;> rcases hold l z s hl with ⟨hne2, pl⟩ | ⟨rfl, rfl, rfl⟩
    · exact h.apart j l y t z s k pj pl hkt hks
    · exact absurd hkt ((hfar k hks).2 j y t hne pj)
    · exact absurd hks ((hfar k hkt).2 l z s hne2 pl)
    · rfl
/-- A kid more, behind the others. -/
theorem Nodes.kid_more (h : Nodes w lo v es) {i : Nat} {x : Nd} {u u' : Value} {k : Int} {g : Nat} (hi : es[i]? = some (x, u)) (hg : v.ownBlock = some g)
    (hgr : w.grownBy w' u.ownBlock) (hu : w'.ownsRow lo 3 1 u' (x.kids.length + 1) (x.kids.map (Value.int .i64) ++ [.int .i64 k])) (hk : kin .i64 k) (hat : u'.ownBlock = u.ownBlock ∨ u'.ownBlock = some w.heap.size) :
    Nodes (w'.setCell ⟨g, i * 5 + 4, none⟩ u') lo v (es.set i ({ x with kids := x.kids ++ [k] }, u')) := by
  refine h.swap hi hg (fun b hb => ?_) (by simpa using hu) (fun j hj => ?_) (fun b hb => ?_)
  · rcases hb with hb | ⟨j, y, t, hne, hj, hb⟩
    · exact hgr.block b (h.row.lt b hb).2 (fun e => h.far i x u b hi e.symm hb)
    · exact hgr.block b ((h.kid j y t hj).1.lt b hb).2 (fun e => hne (h.apart j i y t x u b hj hi hb e.symm))
  · rcases List.mem_append.1 hj with hj | hj
    · exact (h.kid i x u hi).2.2.2.2.2 j hj
    · rw [List.mem_singleton.1 hj]; exact hk
  · rcases hat with e | e
    · rw [e] at hb
      refine ⟨fun e2 => h.far i x u b hi hb (by rw [hg, e2]), fun j y t hne hj ht => hne (h.apart j i y t x u b hj hi ht hb)⟩
    · rw [e] at hb
      simp only [Option.some.injEq] at hb
      subst hb
      refine ⟨fun e2 => ?_, fun j y t hne hj ht => ?_⟩
      · have := (h.row.lt g hg).2
        omega
      · have := ((h.kid j y t hj).1.lt _ ht).2
        omega
theorem Nodes.cel {g c n i : Nat} {x : Nd} {u : Value} (h : Nodes w lo (.slice (some ⟨g, 0, none⟩) n c) es) (hn : n = es.length) (hi : es[i]? = some (x, u)) (j : Nat) (hj : j < 5) : Cel w g (i * 5 + j) ((ndCells x u).getD j undef) := by
  subst hn
  refine own_cel h.row ?_
  rw [flat_get hj hi, List.getD_eq_getElem?_getD]
  match j, hj with
  | 0, _ => rfl
  | 1, _ => rfl
  | 2, _ => rfl
  | 3, _ => rfl
  | 4, _ => rfl
theorem Nodes.sl (h : Nodes w lo v es) : ∃ A c, v = .slice A es.length c ∧ es.length ≤ c ∧ c ≤ maxLen ∧ Sl 5 vNd w lo w.heap.size A (es.map Prod.fst) := by
  rcases Nat.eq_zero_or_pos es.length with h0 | h0
  · obtain ⟨A, c, e, h1, h2⟩ := own_form h.row
    refine ⟨A, c, e, h1, h2, fun hp => ?_⟩
    rw [List.length_map] at hp
    omega
  · obtain ⟨g, c, rfl, h1, h2, h3, h4⟩ := own_pos h.row h0
    refine ⟨_, c, rfl, h1, h2, fun _ => ⟨g, 0, rfl, h3, h4, fun i x hx => ?_⟩⟩
    rw [List.getElem?_map] at hx
    match he : es[i]?, hx with
    | some (y, u), hx =>
      simp only [Option.map_some, Option.some.injEq] at hx
      subst hx
      obtain ⟨ku, kk⟩ := h.kid i y u he
      obtain ⟨A', c', rfl, k1, k2⟩ := own_form ku
      refine ⟨ndCells y (.slice A' y.kids.length c'), rfl, fun j t hj => ?_, _, _, _, _, _, rfl, ⟨rfl, kk.1⟩, ⟨rfl, kk.2.1⟩, ⟨rfl, kk.2.2.1⟩, ⟨rfl, kk.2.2.2.1⟩, A', c', rfl, k1, k2, fun hp => ?_⟩
      · refine own_cel h.row ?_
        have hj5 : j < 5 := (List.getElem?_eq_some_iff.1 hj).1
        rw [Nat.zero_add, flat_get hj5 he]
        exact hj
      · obtain ⟨g', c2, e2, q1, q2, q3, q4⟩ := own_pos ku hp
        injection e2 with e3 _ e5
        subst e3 e5
        refine ⟨g', 0, rfl, q3, q4, fun i' k hk => ⟨[.int .i64 k], rfl, fun j t hj => ?_, rfl, kk.2.2.2.2 k (List.mem_of_getElem? hk)⟩⟩
        match j, hj with
        | 0, hj =>
          simp only [List.getElem?_cons_zero, Option.some.injEq] at hj
          subst hj
          refine own_cel ku ?_
          rw [List.getElem?_map, Nat.mul_one, Nat.add_zero, Nat.zero_add, hk]
          rfl
end
end Go.Proofs.YtimhlnndobfehaaDoor
namespace Go.Proofs.YtimhlnndobfehaaDoor
open Go.RowKit
open Go.Lib (Utf8Tabs)
set_option linter.unusedVariables false

def sampleA : Al := ⟨[⟨#[118, 111, 119, 101, 108]⟩], [⟨97, 1, 0⟩, ⟨101, 1, 0⟩, ⟨112, 0, 1⟩, ⟨116, 0, 1⟩]⟩
def followsN : List Nd := [⟨6, 0, 0, 0, [1, 2]⟩, ⟨3, 0, 1, 0, []⟩, ⟨8, 0, 0, 0, [3]⟩, ⟨3, 0, 0, 1, []⟩]
def vowN : List Nd := [⟨3, 0, 1, 0, []⟩]
def conN : List Nd := [⟨3, 0, 0, 1, []⟩]
theorem al_1 : wholeS sampleA followsN ⟨#[97, 112, 116]⟩ = (true, 0) := by kernel_rfl
theorem al_2 : wholeS sampleA followsN ⟨#[97, 112, 116, 97]⟩ = (false, 0) := by kernel_rfl
theorem al_3 : endsS sampleA followsN ⟨#[97, 112, 116, 97]⟩ 0 = ([1, 2, 3], 0) := by kernel_rfl
theorem al_4 : beginsS sampleA followsN ⟨#[97, 112, 116, 97]⟩ 3 = ([0], 0) := by kernel_rfl
theorem al_5 : firM sampleA followsN ⟨#[112, 116, 97, 112, 116, 97]⟩ = (some (2, 5), 0) := by kernel_rfl
theorem al_6 : allM sampleA followsN ⟨#[112, 116, 97, 112, 116, 97]⟩ = ([(2, 5), (5, 6)], 0) := by kernel_rfl
theorem al_7 : betweenS sampleA vowN conN ⟨#[97, 112, 97]⟩ 1 1 = (true, 0) := by kernel_rfl
theorem al_8 : wholeS sampleA vowN ⟨#[120]⟩ = (false, 5) := by kernel_rfl
/-- A row's cells, so many for each, as a slice's data. -/
theorem row_fits {α : Type} {sz : Nat} {V : Rep α} {w : World} {g : Nat} {t : TypeId} {news : List Value} {xs : List α} {lo hi : Nat} (h : Row w g t news) (hf : Fits sz V w lo hi news xs) (h1 : lo ≤ g) (h2 : g < hi) : Sl sz V w lo hi (some ⟨g, 0, none⟩) xs := fun _ => by
  refine ⟨g, 0, rfl, h1, h2, fun i x hx => ⟨slot sz news i, ?_, ?_, hf.2 i x hx⟩⟩
  · have hi' : i < xs.length := (List.getElem?_eq_some_iff.1 hx).1
    have : i * sz + sz ≤ news.length := by rw [hf.1, ← Nat.succ_mul]; exact Nat.mul_le_mul_right _ hi'
    unfold slot
    rw [List.length_take, List.length_drop]
    omega
  · intro j u hu
    have hu' : news[i * sz + j]? = some u := by
      unfold slot at hu
      rw [List.getElem?_take] at hu
      split at hu
      · rwa [List.getElem?_drop] at hu
      · cases hu
    have := h.cel hu'
    rw [show 0 + i * sz + j = i * sz + j by omega]
    exact this
theorem row_nodes {w : World} {g : Nat} {t : TypeId} {es : List (Nd × Value)} {lo hi : Nat} (h : Row w g t (flat es)) (h1 : lo ≤ g) (h2 : g < hi)
    (hk : ∀ (i : Nat) (x : Nd) (u : Value), es[i]? = some (x, u) → kinNd x ∧ ∃ B c, u = .slice B x.kids.length c ∧ x.kids.length ≤ c ∧ c ≤ maxLen ∧ Sl 1 (vInt .i64) w lo hi B x.kids) : Sl 5 vNd w lo hi (some ⟨g, 0, none⟩) (es.map (·.1)) := fun _ => by
  refine ⟨g, 0, rfl, h1, h2, fun i x hx => ?_⟩
  rw [List.getElem?_map] at hx
  cases he : es[i]? with
  | none => rw [he] at hx; cases hx
  | some p =>
    rw [he] at hx
    obtain ⟨y, u⟩ := p
    obtain rfl : y = x := Option.some.inj hx
    obtain ⟨⟨k0, k1, k2, k3, k4⟩, B, c, rfl, hc1, hc2, hsl⟩ := hk i _ u he
    refine ⟨ndCells y (.slice B y.kids.length c), rfl, fun j v hj => ?_, _, _, _, _, _, rfl, ⟨rfl, k0⟩, ⟨rfl, k1⟩, ⟨rfl, k2⟩, ⟨rfl, k3⟩, B, c, rfl, hc1, hc2, hsl⟩
    have hj5 : j < 5 := (List.getElem?_eq_some_iff.1 hj).1
    have := h.cel ((flat_get hj5 he).trans hj)
    rw [show 0 + i * 5 + j = i * 5 + j by omega]
    exact this
theorem kinNd_of {x : Nd} (h : (decide (0 ≤ x.kind ∧ x.kind ≤ 255) && decide (-2147483648 ≤ x.rune ∧ x.rune ≤ 2147483647) && decide (0 ≤ x.plus ∧ x.plus ≤ 4294967295) && decide (0 ≤ x.minus ∧ x.minus ≤ 4294967295) && x.kids.all fun k => decide (0 ≤ k ∧ k ≤ 1000)) = true) : kinNd x := by
  simp only [Bool.and_eq_true, decide_eq_true_eq, List.all_eq_true] at h
  obtain ⟨⟨⟨⟨a, b⟩, c⟩, d⟩, e⟩ := h
  refine ⟨?_, ?_, ?_, ?_, fun k hk => kin_mk64 (by have := e k hk; omega)⟩
  all_goals simp [kin, Lit.wf, IntKind.min, IntKind.max, IntKind.signed, IntKind.bits]; omega
end Go.Proofs.YtimhlnndobfehaaDoor
namespace Go.Proofs.YtimhlnndobfehaaDoor
open Go.RowKit
open Go.Lib (Utf8Tabs)
set_option linter.unusedVariables false

theorem res_alphabet' {fn : Func} {p : Tmp} (h : fn.results = #[.cell p 25]) (tmps : Array Value) (w : World) (g : Nat) (c0 c1 : Value) (hp : tmps.getD p undef = .pointer (some ⟨g, 0, none⟩)) (hg : Row w g 25 [c0, c1]) :
    (results fn tmps).run Tryd.prog w = .ok (.agg #[c0, c1]) w :=
  results_cell_row h tmps w g 25 #[c0, c1] (0, 0) _ hp hg Tryd.underlying25 rfl (by kernel_rfl)
theorem res_pattern' {fn : Func} {p : Tmp} (h : fn.results = #[.cell p 28]) (tmps : Array Value) (w : World) (g : Nat) (c0 : Value) (hp : tmps.getD p undef = .pointer (some ⟨g, 0, none⟩)) (hg : Row w g 28 [c0]) :
    (results fn tmps).run Tryd.prog w = .ok (.agg #[c0]) w :=
  results_cell_row h tmps w g 28 #[c0] (0, 0) _ hp hg Tryd.underlying28 rfl (by kernel_rfl)
theorem boxes_3 (w : World) (t1 t2 t3 : TypeId) (l1 l2 l3 : List Value) :
    Row (((w.alloc (.cells l1.toArray t1)).alloc (.cells l2.toArray t2)).alloc (.cells l3.toArray t3)) w.heap.size t1 l1 ∧ Row (((w.alloc (.cells l1.toArray t1)).alloc (.cells l2.toArray t2)).alloc (.cells l3.toArray t3)) (w.heap.size + 1) t2 l2 ∧
    Row (((w.alloc (.cells l1.toArray t1)).alloc (.cells l2.toArray t2)).alloc (.cells l3.toArray t3)) (w.heap.size + 1 + 1) t3 l3 ∧ Below w.heap.size w (((w.alloc (.cells l1.toArray t1)).alloc (.cells l2.toArray t2)).alloc (.cells l3.toArray t3)) ∧ (((w.alloc (.cells l1.toArray t1)).alloc (.cells l2.toArray t2)).alloc (.cells l3.toArray t3)).heap.size = w.heap.size + 3 := by
  have h1 := Row.new w t1 l1
  have h2 := Row.new (w.alloc (.cells l1.toArray t1)) t2 l2
  have h3 := Row.new ((w.alloc (.cells l1.toArray t1)).alloc (.cells l2.toArray t2)) t3 l3
  rw [show (w.alloc (.cells l1.toArray t1)).heap.size = w.heap.size + 1 by simp] at h2
  rw [show ((w.alloc (.cells l1.toArray t1)).alloc (.cells l2.toArray t2)).heap.size = w.heap.size + 1 + 1 by simp] at h3
  exact ⟨(h1.alloc _).alloc _, h2.alloc _, h3, (((Below.refl _ _).alloc (Nat.le_refl _) _).alloc (by simp) _).alloc (by simp; omega) _, by simp⟩
def SamOut (w : World) (e : Ending) (w' : World) : Prop := ∃ b, e = .returned (.agg #[.slice (some ⟨b, 0, none⟩) 1 1, .slice (some ⟨b + 1, 0, none⟩) 4 4]) ∧ AlIn w' 0 w'.heap.size (some ⟨b, 0, none⟩) (some ⟨b + 1, 0, none⟩) sampleA ∧ Below w.heap.size w w'
set_option maxHeartbeats 2000000 in
theorem sample_any (w : World) : Calls Tryd.prog 25 #[] w (SamOut w) := by
  go_enter Tryd.func25, Tryd.ntmps25
  go_wp2_with fail
  obtain ⟨r1, r2, r3, hb, hz⟩ := boxes_3 w 25 9 89 [.slice (some ⟨w.heap.size + 1, 0, none⟩) 1 1, .slice (some ⟨w.heap.size + 1 + 1, 0, none⟩) 4 4] [.string ⟨#[118, 111, 119, 101, 108]⟩] [.int .i32 97, .int .u32 1, .int .u32 0, .int .i32 101, .int .u32 1, .int .u32 0, .int .i32 112, .int .u32 0, .int .u32 1, .int .i32 116, .int .u32 0, .int .u32 1]
  refine bodyPost_ret (res_alphabet' rfl _ _ w.heap.size _ _ rfl r1) rfl ?_
  refine ⟨w.heap.size + 1, rfl, ⟨?_, row_fits r3 (ltVs_fits sampleA.lets (fun x hx => ?_)) (Nat.zero_le _) (by rw [hz]; omega), by decide, by decide⟩, hb⟩
  · refine Row.sl (V := vStr) (xs := ([⟨#[118, 111, 119, 101, 108]⟩] : List ByteArray)) r2 rfl (Nat.zero_le _) (by rw [hz]; omega) (fun i x v hx hv => ?_)
    match i, hx, hv with
    | 0, hx, hv =>
      obtain rfl := Option.some.inj hx
      obtain rfl := Option.some.inj hv
      exact ⟨rfl, by decide⟩
  · simp only [sampleA, List.mem_cons, List.not_mem_nil, or_false] at hx
    rcases hx with rfl | rfl | rfl | rfl <;> exact ⟨⟨by decide, by decide⟩, by decide, by decide⟩
def FolOut (w : World) (e : Ending) (w' : World) : Prop := ∃ b, e = .returned (.agg #[.slice (some ⟨b, 0, none⟩) 4 4]) ∧ Sl 5 vNd w' 0 w'.heap.size (some ⟨b, 0, none⟩) followsN ∧ Below w.heap.size w w'
theorem ints_row {w : World} {g lo hi : Nat} {t : TypeId} {l : List Int} (h : Row w g t (l.map (Value.int .i64))) (h1 : lo ≤ g) (h2 : g < hi) (hk : ∀ x ∈ l, kin .i64 x) : Sl 1 (vInt .i64) w lo hi (some ⟨g, 0, none⟩) l :=
  h.sl (by simp) h1 h2 fun i x v hx hv => by
    rw [List.getElem?_map, hx] at hv
    obtain rfl := Option.some.inj hv
    exact ⟨rfl, hk x (List.mem_of_getElem? hx)⟩
set_option maxHeartbeats 2000000 in
theorem follows_any (w : World) : Calls Tryd.prog 52 #[] w (FolOut w) := by
  go_enter Tryd.func52, Tryd.ntmps52
  go_wp2_with fail
  obtain ⟨r1, r2, r3, hb, hz⟩ := boxes_3 w 28 3 3 [.slice (some ⟨w.heap.size + 1 + 1 + 1, 0, none⟩) 4 4] [.int .i64 1, .int .i64 2] [.int .i64 3]
  have r4 := Row.new (((w.alloc (.cells #[.slice (some ⟨w.heap.size + 1 + 1 + 1, 0, none⟩) 4 4] 28)).alloc (.cells #[.int .i64 1, .int .i64 2] 3)).alloc (.cells #[.int .i64 3] 3)) 44
    [.int .u8 6, .int .i32 0, .int .u32 0, .int .u32 0, .slice (some ⟨w.heap.size + 1, 0, none⟩) 2 2, .int .u8 3, .int .i32 0, .int .u32 1, .int .u32 0, .slice none 0 0, .int .u8 8, .int .i32 0, .int .u32 0, .int .u32 0, .slice (some ⟨w.heap.size + 1 + 1, 0, none⟩) 1 1, .int .u8 3, .int .i32 0, .int .u32 0, .int .u32 1, .slice none 0 0]
  have hz' : (((w.alloc (.cells #[.slice (some ⟨w.heap.size + 1 + 1 + 1, 0, none⟩) 4 4] 28)).alloc (.cells #[.int .i64 1, .int .i64 2] 3)).alloc (.cells #[.int .i64 3] 3)).heap.size = w.heap.size + 1 + 1 + 1 := by simp
  rw [hz'] at r4
  refine bodyPost_ret (res_pattern' rfl _ _ w.heap.size _ rfl (r1.alloc _)) rfl ?_
  have hlt := r4.lt
  refine ⟨w.heap.size + 1 + 1 + 1, rfl, ?_, hb.alloc (by rw [hz']; omega) _⟩
  refine row_nodes (es := [(⟨6, 0, 0, 0, [1, 2]⟩, .slice (some ⟨w.heap.size + 1, 0, none⟩) 2 2), (⟨3, 0, 1, 0, []⟩, .slice none 0 0), (⟨8, 0, 0, 0, [3]⟩, .slice (some ⟨w.heap.size + 1 + 1, 0, none⟩) 1 1), (⟨3, 0, 0, 1, []⟩, .slice none 0 0)]) r4 (Nat.zero_le _) hlt fun i x u hu => ?_
  match i, hu with
  | 0, hu =>
    obtain ⟨rfl, rfl⟩ := Prod.mk.inj (Option.some.inj hu)
    exact ⟨kinNd_of (by decide), _, _, rfl, by decide, by decide, ints_row (l := [1, 2]) (r2.alloc _) (Nat.zero_le _) (by omega) (fun x hx => by simp at hx; rcases hx with rfl | rfl <;> exact kin_mk64 (by omega))⟩
  | 1, hu =>
    obtain ⟨rfl, rfl⟩ := Prod.mk.inj (Option.some.inj hu)
    exact ⟨kinNd_of (by decide), _, _, rfl, by decide, by decide, Sl.nil _⟩
  | 2, hu =>
    obtain ⟨rfl, rfl⟩ := Prod.mk.inj (Option.some.inj hu)
    exact ⟨kinNd_of (by decide), _, _, rfl, by decide, by decide, ints_row (l := [3]) (r3.alloc _) (Nat.zero_le _) (by omega) (fun x hx => by simp at hx; subst hx; exact kin_mk64 (by omega))⟩
  | 3, hu =>
    obtain ⟨rfl, rfl⟩ := Prod.mk.inj (Option.some.inj hu)
    exact ⟨kinNd_of (by decide), _, _, rfl, by decide, by decide, Sl.nil _⟩
end Go.Proofs.YtimhlnndobfehaaDoor
