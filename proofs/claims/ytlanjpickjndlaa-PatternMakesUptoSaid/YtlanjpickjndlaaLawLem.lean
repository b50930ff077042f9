/- What the law holds of patterns in memory. -/
import Derived.Test.YtlanjpickjndlaaTwin
import Derived.Test.YtlanjpickjndlaaPatOps
import Derived.Test.YtlanjpickjndlaaSameR
import Derived.Test.YtlanjpickjndlaaLeaf
import Derived.BigQuiet
namespace Go.Proofs.Ytlanjpickjndlaa
open Go.RowKit
set_option linter.unusedVariables false

/-- A region that draws its order, where all operations yield the same in all worlds of a class, and leave a world of the class: one walk of it. -/
theorem wp_region_class {P : Program} {id : Nat} {Q : Exit → Act → World → Prop} {a : Act} {w : World} {l : List Oper} (C : World → Prop) (hm : P.follows .mixedOrders = true) (hB : Region.lexB .any l.toArray = true) (hC : C w.drew)
    (h : wpQuiet P l.toArray C (fun a' => ∀ w', C w' → Q .normal a' w') l a) : (Code.region id l.toArray true).wp P Q a w :=
  wp_region_quiet (C := C) hm hB hC (by simpa using h)

def Got (wr : World) (lo hi : Nat) (ns : List Nd) : Prop :=
  ∃ A c es, Row wr hi 25 [.slice A ns.length c] ∧ Nodes wr lo (.slice A ns.length c) es ∧ es.map Prod.fst = ns ∧ ns.length ≤ c ∧ c ≤ maxLen ∧
    (∀ g, ((Value.slice A ns.length c).ownBlock = some g ∨ ∃ (i : Nat) (x : Nd) (t : Value), es[i]? = some (x, t) ∧ t.ownBlock = some g) → g < hi)
theorem got_new {wA w1 : World} {v : Value} {ns : List Nd} (h : PatRes wA w1 v ns) :
    ∃ A c, v = .agg #[.slice A ns.length c] ∧ Got (w1.alloc (.cells #[.slice A ns.length c] 25)) wA.heap.size w1.heap.size ns ∧ Below wA.heap.size wA (w1.alloc (.cells #[.slice A ns.length c] 25)) ∧ wA.heap.size ≤ w1.heap.size := by
  obtain ⟨u, es, rfl, hn, he, hB⟩ := h
  have hl : es.length = ns.length := by rw [← he, List.length_map]
  obtain ⟨A, c, rfl, h1, h2⟩ := own_form hn.row
  rw [hl] at hn h1
  rw [hl]
  exact ⟨A, c, rfl, ⟨A, c, es, Row.new w1 _ _, hn.alloc _, he, h1, h2, fun g hg => (hn.lt hg).2⟩, hB.alloc hB.size _, hB.size⟩
theorem pat_sl {wA w1 : World} {v : Value} {ns : List Nd} (h : PatRes wA w1 v ns) :
    ∃ A c, v = .agg #[.slice A ns.length c] ∧ ns.length ≤ c ∧ c ≤ maxLen ∧ Sl 5 vNd w1 wA.heap.size w1.heap.size A ns ∧ Below wA.heap.size wA w1 := by
  obtain ⟨u, es, rfl, hn, he, hB⟩ := h
  have hl : es.length = ns.length := by rw [← he, List.length_map]
  obtain ⟨A, c, rfl, h1, h2, hs⟩ := hn.sl
  rw [he] at hs
  rw [hl] at h1
  rw [hl]
  exact ⟨A, c, rfl, h1, h2, hs, hB⟩
theorem Got.keep {wr wr' : World} {lo hi : Nat} {ns : List Nd} (h : Got wr lo hi ns) (hk : Kp lo (hi + 1) wr wr') (hlo : lo ≤ hi) : Got wr' lo hi ns := by
  obtain ⟨A, c, es, h1, h2, h3, h4, h5, h6⟩ := h
  exact ⟨A, c, es, (hk hi hlo (by omega)).trans h1, h2.same fun g hg => hk g (h2.lt hg).1 (by have := h6 g hg; omega), h3, h4, h5, h6⟩
theorem Got.below {wr wr' : World} {lo hi : Nat} {ns : List Nd} (h : Got wr lo hi ns) (hb : Below wr.heap.size wr wr') (hlo : lo ≤ hi) : Got wr' lo hi ns := by
  have hlt : hi < wr.heap.size := by
    obtain ⟨A, c, es, h1, _⟩ := h
    exact h1.lt
  exact h.keep (Kp.of_below (hb.mono (by omega))) hlo
theorem Got.lt {wr : World} {lo hi : Nat} {ns : List Nd} (h : Got wr lo hi ns) : hi < wr.heap.size := by
  obtain ⟨A, c, es, h1, _⟩ := h
  exact h1.lt
/-- Where it lies, in all worlds that are as this one. -/
theorem Got.at_ {wr : World} {lo hi : Nat} {ns : List Nd} (h : Got wr lo hi ns) (hlo : lo ≤ hi) :
    ∃ A c, ns.length ≤ c ∧ c ≤ maxLen ∧ ∀ wx, Below wr.heap.size wr wx → wx.cell? ⟨hi, 0, none⟩ = some (.slice A ns.length c) ∧ wx.frozen? ⟨hi, 0, none⟩ = false ∧ Sl 5 vNd wx lo wr.heap.size A ns := by
  obtain ⟨A, c, es, h1, h2, h3, h4, h5, h6⟩ := h
  refine ⟨A, c, h4, h5, fun wx hx => ?_⟩
  have hl : es.length = ns.length := by rw [← h3, List.length_map]
  obtain ⟨A', c', e, _, _, hs⟩ := h2.sl
  injection e with e1 e2 e3
  subst e1
  rw [h3] at hs
  exact ⟨((h1.below hx h1.lt).cel (i := 0) rfl).1, ((h1.below hx h1.lt).cel (i := 0) rfl).2, hs.below vNd_good hx (Nat.le_refl _)⟩
/-- It is written over. -/
theorem Got.spoil {wr : World} {lo hi : Nat} {ns : List Nd} (h : Got wr lo hi ns) (hlo : lo ≤ hi) :
    ∃ A c, wr.cell? ⟨hi, 0, none⟩ = some (.slice A ns.length c) ∧ wr.frozen? ⟨hi, 0, none⟩ = false ∧ Calls Try.prog 26 #[.agg #[.slice A ns.length c]] wr fun e w' => e = .returned (.tuple #[]) ∧ Fr (fun b => lo ≤ b ∧ b < hi) wr w' := by
  obtain ⟨A, c, es, h1, h2, h3, h4, h5, h6⟩ := h
  exact ⟨A, c, (h1.cel (i := 0) rfl).1, (h1.cel (i := 0) rfl).2, spoil_any lo hi _ es wr (by have := h1.lt; omega) h2 h6⟩

theorem like_same {A A' : Option Addr} {c c' lo hi lo' hi' : Nat} {ns : List Nd} {w : World} (hc : ns.length ≤ c) (hc2 : c ≤ maxLen) (hhi : hi ≤ w.heap.size) (hhi' : hi' ≤ w.heap.size) (hsl : Sl 5 vNd w lo hi A ns) (hsl' : Sl 5 vNd w lo' hi' A' ns) :
    Calls Try.prog 16 #[.agg #[.slice A ns.length c], .agg #[.slice A' ns.length c']] w fun e w' => e = .returned (.bool true) ∧ Below w.heap.size w w' := by
  have hm : ns.length ≤ 9223372036854775807 := by unfold maxLen at hc2; omega
  refine (like_any A A' c c' lo hi lo' hi' ns ns w hm hm hhi hhi' hsl hsl').mono ?_
  rintro e w' ⟨rfl, hb⟩
  exact ⟨by simp, hb⟩

def OwnSt (w : World) (AP : Option Addr) (cP : Nat) (ps : List Nd) (ls : List (List Nd)) (k : Nat) (v : Value) (wr : World) : Prop :=
  ∃ us : List (Value × List (Nd × Value)), Row wr w.heap.size 25 [.slice AP ps.length cP] ∧ wr.ownsRow (w.heap.size + 1) 25 1 v k (us.map Prod.fst) ∧ (∀ e ∈ us, Nodes wr (w.heap.size + 1) e.1 e.2) ∧ us.map (fun e => e.2.map Prod.fst) = ls.take k ∧ Below w.heap.size w wr
theorem own_done {w wr : World} {AP : Option Addr} {cP : Nat} {ps : List Nd} {ls : List (List Nd)} {v : Value} (h : OwnSt w AP cP ps ls ls.length v wr) :
    ∃ A c, v = .slice A ls.length c ∧ ls.length ≤ c ∧ c ≤ maxLen ∧ Sl 1 vPat wr (w.heap.size + 1) wr.heap.size A ls := by
  obtain ⟨us, _, ho, hn, he, _⟩ := h
  rw [List.take_length] at he
  obtain ⟨A, c, rfl, h1, h2⟩ := own_form ho
  refine ⟨A, c, rfl, h1, h2, fun hp => ?_⟩
  obtain ⟨g, c', e, _, _, h3, h4⟩ := own_pos ho hp
  injection e with e1 e2 e3
  subst e1 e3
  refine ⟨g, 0, rfl, h3, h4, fun i x hx => ?_⟩
  rw [← he, List.getElem?_map] at hx
  match hu : us[i]?, hx with
  | some (u, es), hx =>
    simp only [Option.map_some, Option.some.injEq] at hx
    subst hx
    have hne := hn (u, es) (List.mem_of_getElem? hu)
    obtain ⟨A', c', e, h5, h6, hs⟩ := hne.sl
    have hl : (es.map Prod.fst).length = es.length := List.length_map _
    simp only at e
    subst e
    refine ⟨[.slice A' es.length c'], rfl, fun j t hj => ?_, A', c', by rw [hl], by rw [hl]; exact h5, h6, hs⟩
    match j, hj with
    | 0, hj =>
      simp only [List.getElem?_cons_zero, Option.some.injEq] at hj
      subst hj
      have := own_cel ho (j := i) (u := .slice A' es.length c') (by rw [List.getElem?_map, hu]; rfl)
      simpa using this
theorem own_step {w wr w1 w3 : World} {AP : Option Addr} {cP g3 cap3 : Nat} {ps : List Nd} {ls : List (List Nd)} {k : Nat} {v u : Value} {us : List (Value × List (Nd × Value))} (hr : Row wr w.heap.size 25 [.slice AP ps.length cP])
    (ho : wr.ownsRow (w.heap.size + 1) 25 1 v k (us.map Prod.fst)) (hn : ∀ e ∈ us, Nodes wr (w.heap.size + 1) e.1 e.2) (he : us.map (fun e => e.2.map Prod.fst) = ls.take k) (hb : Below w.heap.size w wr) (hk : k < ls.length)
    (hp : PatRes wr w1 (.agg #[u]) ls[k]) (hown : w3.ownsRow (w.heap.size + 1) 25 1 (.slice (some ⟨g3, 0, none⟩) (k + 1) cap3) (k + 1) (us.map Prod.fst ++ [u]))
    (hgr : (w1.alloc (.cells #[u] 25)).grownBy w3 v.ownBlock) : OwnSt w AP cP ps ls (k + 1) (.slice (some ⟨g3, 0, none⟩) (k + 1) cap3) w3 := by
  obtain ⟨u', es, e, hn1, he1, hB⟩ := hp
  obtain rfl : u' = u := by
    injection e with e
    simpa using e.symm
  have hlt := hr.lt
  have hbW : Below wr.heap.size wr (w1.alloc (.cells #[u'] 25)) := hB.alloc hB.size _
  have hoW := own_below ho hbW
  have hsW := hbW.size
  have key : ∀ (v' : Value) (es' : List (Nd × Value)), Nodes (w1.alloc (.cells #[u'] 25)) (w.heap.size + 1) v' es' → Nodes w3 (w.heap.size + 1) v' es' := by
    intro v' es' h
    refine h.same fun g hg => hgr.block g (h.lt hg).2 (fun e => ?_)
    rcases hg with hg | ⟨i, x, t, hi, hg⟩
    · exact own_ne_own h.row hoW (by decide) g hg e.symm
    · exact own_ne_own (h.kid i x t hi).1 hoW (by decide) g hg e.symm
  refine ⟨us ++ [(u', es)], (hr.below hbW hlt).grown hgr (fun e => ?_), by rw [List.map_append]; exact hown, fun e he' => ?_, ?_, (hb.trans (hbW.mono hb.size)).grown hgr (by have := hb.size; omega) (fun j hj => ?_)⟩
  · have := (ho.lt _ e.symm).1
    omega
  · rcases List.mem_append.1 he' with he' | he'
    · exact key _ _ ((hn e he').below hbW)
    · rw [List.mem_singleton.1 he']
      exact key _ _ ((hn1.alloc _).low (by omega))
  · rw [List.map_append, he, List.take_succ_eq_append_getElem hk, ← he1]
    rfl
  · have := (ho.lt _ hj).1
    omega
end Go.Proofs.Ytlanjpickjndlaa
