/- From the form's reading of an argument to the words of Base: what lies in the cells, how much it is, how far it reaches. A law's row closed from its walk: the call gives true and nothing below the old heap has turned. What the rows' list of tables gives, and a world that holds the tables. Maps of the call's own, with bools or integers for elements, as functions of keys: look-ups and stores at the operation. Maps of the call's own, whatever their elements: at each key the very value that was stored; and the key's law for structs of two integers. -/
import Derived.Test.YtimhlnndobfehaaDoorMc01
import Derived.Test.YtimhlnndobfehaaDoorRows
import Derived.Deep.Slices
import Derived.Test.YtimhlnndobfehaaDoorShelf
import Derived.Lib.LaidU8
import Derived.PinnedBridge
import Derived.Deep.DeepHandedRow
import Derived.Deep.DeepLaidRun
import Derived.ProofKit
import Derived.Maps.OwnOps
import Derived.Maps.OwnSet
import Derived.Maps.Views
namespace Go.Proofs.YtimhlnndobfehaaDoor
open Go.ChangeShapes Go.WideShapes Go.RowKit
set_option linter.unusedVariables false

/-- A type of data: its cells, how it lies in them, its bulk, its reach. -/
structure Ty (α : Type) where
  sz : Nat
  V : Rep α
  m : α → Nat
  Q : α → Prop

def tInt (k : IntKind) : Ty Int := ⟨1, vInt k, fun _ => 1, fun _ => True⟩
def tBool : Ty Bool := ⟨1, vBool, fun _ => 1, fun _ => True⟩
def tStr : Ty ByteArray := ⟨1, vStr, fun s => s.size + 1, fun s => s.size ≤ reachBytes⟩
def tSl {α : Type} (bytes : Nat) (T : Ty α) : Ty (List α) := ⟨1, vSl T.sz T.V, fun l => (l.map T.m).sum + 1, fun l => l.length * bytes ≤ reachBytes ∧ ∀ x ∈ l, T.Q x⟩

/-- All cells of the places are of blocks that are there, and may be written. -/
def Free (w : World) (ps : List MemPlace) : Prop := ∀ b o, MemPlace.cell b o ∈ ps → b < w.heap.size ∧ w.frozen? ⟨b, o, none⟩ = false

section
variable {H : Type} {enc : TypeId × Value → H} {P : Program} {w : World}

structure Opens {α : Type} (enc : TypeId × Value → H) (P : Program) (w : World) (t : TypeId) (T : Ty α) : Prop where
  size : P.cellsOf t = T.sz
  good : T.V.Good
  cells : ∀ {fuel : Nat} {cs : List Value} {x : DataW H} {ps : List MemPlace}, DataW.trod enc P w 0 (fun _ => true) true fuel t cs = some (x, ps) → Free w ps →
    ∃ a, T.V w 0 w.heap.size cs a ∧ cs.length = T.sz ∧ T.m a ≤ Rows.uptoBulk x ∧ ((∀ n ∈ x.weights P t, n ≤ reachBytes) → T.Q a)

theorem opens_int {t : TypeId} {k : IntKind} (ht : P.underlying t = some (.int k)) (hc : P.cellsOf t = 1) : Opens enc P w t (tInt k) := by
  refine ⟨hc, vInt_good k, fun h _ => ?_⟩
  obtain ⟨n, rfl, hx, hw⟩ := DataW.trod_int ht h
  simp only [Prod.mk.injEq] at hx
  obtain ⟨rfl, rfl⟩ := hx
  exact ⟨n, ⟨rfl, hw⟩, rfl, by simp [tInt, Rows.uptoBulk], fun _ => trivial⟩
theorem opens_bool {t : TypeId} (ht : P.underlying t = some .bool) (hc : P.cellsOf t = 1) : Opens enc P w t tBool := by
  refine ⟨hc, vBool_good, fun h _ => ?_⟩
  obtain ⟨n, rfl, hx⟩ := DataW.trod_bool ht h
  simp only [Prod.mk.injEq] at hx
  obtain ⟨rfl, rfl⟩ := hx
  exact ⟨n, rfl, rfl, by simp [tBool, Rows.uptoBulk], fun _ => trivial⟩
theorem opens_str {t : TypeId} (ht : P.underlying t = some .string) (hc : P.cellsOf t = 1) : Opens enc P w t tStr := by
  refine ⟨hc, vStr_good, fun h _ => ?_⟩
  obtain ⟨n, rfl, hx, hs⟩ := DataW.trod_string ht h
  simp only [Prod.mk.injEq] at hx
  obtain ⟨rfl, rfl⟩ := hx
  exact ⟨n, ⟨rfl, hs⟩, rfl, by simp [tStr, Rows.uptoBulk], fun hq => by
    have := hq n.data.toList.length (by simp [DataW.weights])
    simpa [tStr] using this⟩

theorem list_of {α : Type} {p : Nat → α → Prop} : ∀ n : Nat, (∀ i, i < n → ∃ x, p i x) → ∃ xs : List α, xs.length = n ∧ ∀ i x, xs[i]? = some x → p i x
  | 0, _ => ⟨[], rfl, fun i x hx => by simp at hx⟩
  | n + 1, h => by
    obtain ⟨xs, hl, hp⟩ := list_of n (fun i hi => h i (by omega))
    obtain ⟨y, hy⟩ := h n (by omega)
    refine ⟨xs ++ [y], by simp [hl], fun i x hx => ?_⟩
    by_cases hi : i < n
    · rw [List.getElem?_append_left (by omega)] at hx
      exact hp i x hx
    · have hlt : i < (xs ++ [y]).length := (List.getElem?_eq_some_iff.1 hx).1
      have hin : i = n := by simp [hl] at hlt; omega
      subst hin
      rw [List.getElem?_append_right (by omega), hl] at hx
      simp at hx
      exact hx ▸ hy

theorem bulkAll_append (a b : List (DataW H)) : Rows.uptoBulkAll (a ++ b) = Rows.uptoBulkAll a + Rows.uptoBulkAll b := by
  induction a with
  | nil => simp [Rows.uptoBulkAll]
  | cons d r ih => simp only [List.cons_append, Rows.uptoBulkAll, ih]; omega
theorem sum_le_bulk {α : Type} {m : α → Nat} {D : Nat → DataW H} : ∀ {n : Nat} {xs : List α}, xs.length = n → (∀ i x, xs[i]? = some x → m x ≤ Rows.uptoBulk (D i)) →
    (xs.map m).sum ≤ Rows.uptoBulkAll ((List.range n).map D)
  | 0, xs, hl, _ => by rw [List.eq_nil_of_length_eq_zero hl]; simp [Rows.uptoBulkAll]
  | n + 1, xs, hl, h => by
    have hx : xs = xs.take n ++ [xs[n]'(by omega)] := by
      rw [← List.take_succ_eq_append_getElem (by omega), List.take_of_length_le (by omega)]
    have ih := sum_le_bulk (D := D) (n := n) (xs := xs.take n) (by simp [hl]) (fun i x hi => h i x (by
      rw [List.getElem?_take] at hi
      split at hi
      · exact hi
      · cases hi))
    have hn := h n _ (List.getElem?_eq_getElem (by omega))
    rw [hx, List.range_succ, List.map_append, List.map_append, bulkAll_append, List.sum_append]
    simp only [List.map_cons, List.map_nil, List.sum_cons, List.sum_nil, Rows.uptoBulkAll]
    omega
theorem mem_weightsAll {e : TypeId} {d : DataW H} {n : Nat} : ∀ {l : List (DataW H)}, d ∈ l → n ∈ d.weights P e → n ∈ DataW.weightsAll P e l
  | x :: r, hd, hn => by
    simp only [DataW.weightsAll, List.mem_append]
    rcases List.mem_cons.1 hd with rfl | hd
    · exact .inl hn
    · exact .inr (mem_weightsAll hd hn)

theorem opens_slice {α : Type} {t e : TypeId} {T : Ty α} {bytes : Nat} (ht : P.underlying t = some (.slice e)) (hc : P.cellsOf t = 1) (hb : P.bytesOf e = bytes) (hsz : 0 < T.sz) (h0 : Opens enc P w e T) : Opens enc P w t (tSl bytes T) := by
  refine ⟨hc, vSl_good h0.good, fun {fuel cs x ps} h hf => ?_⟩
  rcases Go.Deep.open_slice ht h with ⟨rfl, hx⟩ | ⟨a, len, cap, mm, n, D, Pl, rfl, _, hlc, hcm, hmm, hx, hi⟩
  · simp only [Prod.mk.injEq] at hx
    obtain ⟨rfl, rfl⟩ := hx
    exact ⟨[], ⟨none, 0, rfl, Nat.le_refl _, by unfold maxLen; omega, Sl.nil _⟩, rfl, by simp [tSl, Rows.uptoBulk], fun _ => by simp [tSl]⟩
  · simp only [if_true] at hmm
    subst hmm
    simp only [Prod.mk.injEq] at hx
    obtain ⟨rfl, rfl⟩ := hx
    have hrow : ∀ j, j < mm * T.sz → a.block < w.heap.size ∧ w.frozen? ⟨a.block, a.off + j, none⟩ = false := fun j hj =>
      hf a.block (a.off + j) (List.mem_append.2 (.inl (by rw [h0.size]; simp only [MemPlace.row, List.mem_map, List.mem_range]; exact ⟨j, hj, rfl⟩)))
    have key : ∀ i, i < len → ∃ x : α, (∃ cs, cs.length = T.sz ∧ (∀ j v, cs[j]? = some v → w.cell? (a.add (i * T.sz + j)) = some v) ∧ T.V w 0 w.heap.size cs x) ∧ T.m x ≤ Rows.uptoBulk (D i) ∧ ((∀ n ∈ (D i).weights P e, n ≤ reachBytes) → T.Q x) := by
      intro i hil
      obtain ⟨cs', hcs, htr⟩ := hi i (by omega)
      have hfi : Free w (Pl i) := fun b o hm => hf b o (List.mem_append.2 (.inr (List.mem_flatMap.2 ⟨i, List.mem_range.2 (by omega), hm⟩)))
      obtain ⟨x, hv, hl, hm, hq⟩ := h0.cells htr hfi
      obtain ⟨_, hcl, hat⟩ := World.cells?_some hcs
      rw [h0.size] at hcl hat
      refine ⟨x, ⟨cs', hcl, fun j v hj => ?_, hv⟩, hm, hq⟩
      have hjl : j < T.sz := by rw [← hcl]; exact (List.getElem?_eq_some_iff.1 hj).1
      have := hat j hjl
      rw [← Go.Deep.add_add, this, hj]
    obtain ⟨xs, hxl, hxs⟩ := list_of len key
    refine ⟨xs, ⟨some a, mm, by rw [hxl], by omega, hcm, fun hn => ?_⟩, rfl, ?_, fun hq => ⟨?_, fun x hx => ?_⟩⟩
    · obtain ⟨⟨cs0, hl0, hc0, _⟩, _⟩ := hxs 0 _ (List.getElem?_eq_getElem hn)
      have hcell0 := hc0 0 (cs0[0]'(by omega)) (List.getElem?_eq_getElem (by omega))
      have hspot : a.spot = none := by
        cases hs : a.spot with
        | none => rfl
        | some k =>
          rw [show a.add (0 * T.sz + 0) = a by simp [Addr.add]] at hcell0
          unfold World.cell? at hcell0
          rw [hs] at hcell0
          split at hcell0 <;> simp at hcell0
      obtain ⟨b, off, spot⟩ := a
      simp only at hspot hrow
      subst hspot
      refine ⟨b, off, rfl, Nat.zero_le _, (hrow 0 (Nat.mul_pos (by omega) hsz)).1, fun i x hx => ?_⟩
      obtain ⟨⟨cs, hl, hcs, hv⟩, _⟩ := hxs i x hx
      have hil : i < len := by rw [← hxl]; exact (List.getElem?_eq_some_iff.1 hx).1
      refine ⟨cs, hl, fun j v hj => ?_, hv⟩
      have h1 := hcs j v hj
      rw [Addr.add_lit, ← Nat.add_assoc] at h1
      have hjl : j < T.sz := by rw [← hl]; exact (List.getElem?_eq_some_iff.1 hj).1
      have hlt : i * T.sz + j < mm * T.sz := Nat.lt_of_lt_of_le (by rw [Nat.succ_mul]; omega) (Nat.mul_le_mul_right T.sz (show i + 1 ≤ mm by omega))
      refine ⟨h1, ?_⟩
      have := (hrow _ hlt).2
      rwa [← Nat.add_assoc] at this
    · simp only [tSl, Rows.uptoBulk]
      have := sum_le_bulk (m := T.m) (D := D) hxl (fun i x hx => (hxs i x hx).2.1)
      omega
    · have := hq ((len + (mm - len)) * bytes) (by simp [DataW.weights, ht, hb])
      have h2 : xs.length * bytes ≤ (len + (mm - len)) * bytes := Nat.mul_le_mul_right _ (by omega)
      omega
    · obtain ⟨i, hil, rfl⟩ := List.getElem_of_mem hx
      refine (hxs i _ (List.getElem?_eq_getElem hil)).2.2 fun n hn => hq n ?_
      simp only [DataW.weights, ht, List.mem_cons, List.mem_append]
      exact .inr (.inl (mem_weightsAll (List.mem_map.2 ⟨i, List.mem_range.2 (by omega), rfl⟩) hn))

/-- An argument: what its cells hold. -/
theorem Opens.arg {α : Type} {t : TypeId} {T : Ty α} (h : Opens enc P w t T) {v : Value} {d : DataW H} {ps : List MemPlace} (ht : DataW.Trod enc P w 0 (fun _ => true) true t v d ps) (hf : Free w ps) :
    ∃ a, T.V w 0 w.heap.size v.cells.toList a ∧ T.m a ≤ Rows.uptoBulk d ∧ ((∀ n ∈ d.weights P t, n ≤ reachBytes) → T.Q a) := by
  obtain ⟨fuel, hfu⟩ := ht
  obtain ⟨a, h1, _, h3, h4⟩ := h.cells hfu hf
  exact ⟨a, h1, h3, h4⟩
theorem Opens.slice_arg {α : Type} {t e : TypeId} {T : Ty α} {bytes : Nat} (h : Opens enc P w t (tSl bytes T)) (hs : P.underlying t = some (.slice e)) {r : Reach} {base : Nat} {v : Value} (hval : Value.okWide P w r base t v)
    {d : DataW H} {ps : List MemPlace} (ht : DataW.Trod enc P w 0 (fun _ => true) true t v d ps) (hf : Free w ps) :
    ∃ A c xs, v = .slice A xs.length c ∧ xs.length ≤ c ∧ c ≤ maxLen ∧ Sl T.sz T.V w 0 w.heap.size A xs ∧ (xs.map T.m).sum + 1 ≤ Rows.uptoBulk d ∧ ((∀ n ∈ d.weights P t, n ≤ reachBytes) → xs.length * bytes ≤ reachBytes ∧ ∀ x ∈ xs, T.Q x) := by
  obtain ⟨A, n, c, rfl⟩ := okWide_slice hs hval
  obtain ⟨xs, ⟨A', c', he, h1, h2, h3⟩, h4, h5⟩ := h.arg ht hf
  simp only [Value.cells, List.cons.injEq, and_true, Value.slice.injEq] at he
  obtain ⟨rfl, rfl, rfl⟩ := he
  exact ⟨_, _, xs, rfl, h1, h2, h3, h4, h5⟩
theorem Opens.str_arg {t : TypeId} (hs : P.underlying t = some .string) {r : Reach} {base : Nat} {v : Value} (hval : Value.okWide P w r base t v)
    {d : DataW H} {ps : List MemPlace} (ht : DataW.Trod enc P w 0 (fun _ => true) true t v d ps) :
    ∃ s : ByteArray, v = .string s ∧ s.size ≤ maxLen ∧ s.size + 1 ≤ Rows.uptoBulk d ∧ ((∀ n ∈ d.weights P t, n ≤ reachBytes) → s.size ≤ reachBytes) := by
  obtain ⟨s, rfl⟩ := okWide_string hs hval
  obtain ⟨fuel, hfu⟩ := ht
  obtain ⟨s', he, hx, hm⟩ := DataW.trod_string hs hfu
  simp only [Value.cells, List.cons.injEq, and_true, Value.string.injEq] at he
  subst he
  simp only [Prod.mk.injEq] at hx
  obtain ⟨rfl, rfl⟩ := hx
  exact ⟨_, rfl, hm, by simp [Rows.uptoBulk], fun hq => by simpa using hq s.data.toList.length (by simp [DataW.weights])⟩
theorem Opens.int_arg {t : TypeId} {k : IntKind} (hs : P.underlying t = some (.int k)) {r : Reach} {base : Nat} {v : Value} (hval : Value.okWide P w r base t v)
    {d : DataW H} {ps : List MemPlace} (ht : DataW.Trod enc P w 0 (fun _ => true) true t v d ps) : ∃ n : Int, v = .int k n ∧ kin k n := by
  obtain ⟨n, rfl⟩ := okWide_int hs hval
  obtain ⟨fuel, hfu⟩ := ht
  obtain ⟨n', he, _, hw⟩ := DataW.trod_int hs hfu
  simp only [Value.cells, List.cons.injEq, and_true, Value.int.injEq, true_and] at he
  subst he
  exact ⟨_, rfl, hw⟩
/-- A struct: its cells. -/
theorem Opens.struct_arg {α : Type} {t : TypeId} {T : Ty α} {fs : Array Field} (h : Opens enc P w t T) (hs : P.underlying t = some (.struct fs)) {r : Reach} {base : Nat} {v : Value} (hval : Value.okWide P w r base t v)
    {d : DataW H} {ps : List MemPlace} (ht : DataW.Trod enc P w 0 (fun _ => true) true t v d ps) (hf : Free w ps) :
    ∃ cs a, v = .agg cs ∧ T.V w 0 w.heap.size cs.toList a ∧ T.m a ≤ Rows.uptoBulk d ∧ ((∀ n ∈ d.weights P t, n ≤ reachBytes) → T.Q a) := by
  obtain ⟨cs, rfl, _⟩ := okWide_struct hs hval
  obtain ⟨a, h1, h2, h3⟩ := h.arg ht hf
  exact ⟨cs, a, rfl, h1, h2, h3⟩

theorem weights_each {t : TypeId} {d : DataW H} {n : Nat} : ∀ {ts : List TypeId} {ds : List (DataW H)} (i : Nat), ts[i]? = some t → ds[i]? = some d → n ∈ d.weights P t → n ∈ DataW.weightsEach P ts ds
  | [], _, i, h, _, _ => by simp at h
  | _ :: _, [], i, _, h, _ => by simp at h
  | t' :: ts, d' :: ds, 0, h, k, hn => by
    simp only [List.getElem?_cons_zero, Option.some.injEq] at h k
    subst h k
    simp only [DataW.weightsEach, List.mem_append]
    exact .inl hn
  | t' :: ts, d' :: ds, i + 1, h, k, hn => by
    simp only [DataW.weightsEach, List.mem_append]
    exact .inr (weights_each i (by simpa using h) (by simpa using k) hn)
theorem Free.left {p q : List MemPlace} (h : Free w (p ++ q)) : Free w p := fun b o hm => h b o (List.mem_append.2 (.inl hm))
theorem Free.right {p q : List MemPlace} (h : Free w (p ++ q)) : Free w q := fun b o hm => h b o (List.mem_append.2 (.inr hm))
theorem free_of_whole {ts : List TypeId} {vars : List String} {apart : Bool} {vs : List Value} {ds gs : List (DataW H)} {ps : List MemPlace} (h : DataW.Whole enc P ts vars apart w vs ds gs ps) : Free w ps := by
  have hlt : ∀ p ∈ ps, p.block < w.heap.size := fun p hp => h.lt p hp
  obtain ⟨_, _, _, _, _, hz, _⟩ := h
  exact fun b o hm => ⟨hlt _ hm, hz b o hm⟩
end
end Go.Proofs.YtimhlnndobfehaaDoor
namespace Go.Proofs.YtimhlnndobfehaaDoor
open Go.ChangeShapes Go.WideShapes Go.ChangeAt Go.RowKit
set_option linter.unusedVariables false

theorem trodAll_below {H : Type} {enc : TypeId × Value → H} {P : Program} (hl : laidOutB P = true) {W W' : World} (hb : Below W.heap.size W W') {sp : Nat → Bool} :
    ∀ {ts : List TypeId} {vs : List Value} {ds : List (DataW H)} {ps : List MemPlace}, (∀ t ∈ ts, P.readableRec t = true ∧ t < P.types.size) →
      DataW.TrodAll enc P W 0 (fun _ => true) true ts vs ds ps → (∀ x ∈ ps, x.block < W.heap.size) → (∀ x ∈ ps, sp x.block = true) → DataW.TrodAll enc P W' 0 sp true ts vs ds ps
  | [], [], [], ps, _, h, _, _ => h
  | t :: ts, v :: vs, d :: ds, ps, ht, h, hlt, hsp => by
    obtain ⟨p, q, h1, h2, e⟩ := h
    subst e
    exact ⟨p, q, WideElems.Trod_stays hl (ht t (by simp)).1 (ht t (by simp)).2 h1 (fun x hx => hb.same (hlt x (by simp [hx]))) (fun x hx => hsp x (by simp [hx])),
      trodAll_below hl hb (fun t' h' => ht t' (by simp [h'])) h2 (fun x hx => hlt x (by simp [hx])) (fun x hx => hsp x (by simp [hx])), rfl⟩
  | [], _ :: _, _, _, _, h, _, _ => h.elim
  | [], [], _ :: _, _, _, h, _, _ => h.elim
  | _ :: _, [], _, _, _, h, _, _ => h.elim
  | _ :: _, _ :: _, [], _, _, h, _, _ => h.elim

theorem post_below {H : Type} {enc : TypeId × Value → H} {P : Program} {f : Func} {s : ChangeSpec} {apart fresh handsOn again : Bool} {W W' : World} {args : Array Value} {v : Value} {ds gs : List (DataW H)} {before pa pv : List MemPlace}
    (hW : DataW.Whole enc P f.params.toList s.vars apart W args.toList ds gs before)
    (hres : ∀ (b : Nat) (sp : Nat → Bool) (hd : Bool), DataW.TrodAll enc P W' b sp hd f.resultTypes.toList (v.resultList f.resultTypes.size) (s.fn H (ds ++ gs)).results [])
    (hargs : ∀ sp : Nat → Bool, (∀ p ∈ before, sp p.block = true) → DataW.TrodAll enc P W' 0 sp true f.params.toList args.toList (s.fn H (ds ++ gs)).args pa)
    (hvars : ∀ sp : Nat → Bool, (∀ p ∈ before, sp p.block = true) → DataW.TrodVars enc P W' sp s.vars (s.fn H (ds ++ gs)).vars pv)
    (hps : before = pa ++ pv) (hb : Below W.heap.size W W')
    (hok : ∀ (j : Nat) (t : TypeId) (r : Value), f.resultTypes[j]? = some t → (v.resultList f.resultTypes.size)[j]? = some r → Value.okWide P W' .any 0 t r) :
    s.post enc P f apart fresh handsOn again W args v W' := by
  have hlt : ∀ p ∈ before, p.block < W.heap.size := fun p hp => hW.lt p hp
  have hold : ∀ p ∈ before, (fun b => decide (b < W.heap.size)) p.block = true := fun p hp => by simpa using hlt p hp
  refine ⟨ds, gs, before, [], pa, pv, hW, hres _ _ _, hargs _ hold, hvars _ hold, World.keptBut_mono (fun p hp => ⟨hp, ?_⟩) (hb.frame (· ∈ before)), fun _ => ?_⟩
  · rw [hps, List.mem_append] at hp
    exact Or.inr hp
  · obtain ⟨_, _, _, _, _, hz, hn⟩ := hW
    refine ⟨hok, _, _, ([] ++ pa) ++ pv, ⟨[] ++ pa, pv, trodAll_append (hargs _ (fun _ _ => rfl)) (hres _ _ _), hvars _ (fun _ _ => rfl), rfl, ?_, ?_⟩, ?_⟩
    · intro b off hp
      have hin : MemPlace.cell b off ∈ before := by rw [hps]; simpa using hp
      rw [hb.frozen (hlt _ hin)]
      exact hz b off hin
    · intro ha
      have := hn ha
      rw [hps] at this
      simpa using this
    · intro p hp _
      rw [hps]
      simpa using hp

/-- The law's post: true, and all arguments as they were. -/
theorem post_true {H : Type} {enc : TypeId × Value → H} {P : Program} {f : Func} {s : ChangeSpec} {apart fresh handsOn again : Bool} {W W' : World} {args : Array Value} {ds gs : List (DataW H)} {before : List MemPlace} {tb : TypeId}
    (hl : laidOutB P = true) (hts : ∀ t ∈ f.params.toList, P.readableRec t = true ∧ t < P.types.size) (hrt : f.resultTypes = #[tb]) (htb : P.underlying tb = some .bool)
    (hvs : s.vars = []) (hfn : (s.fn H (ds ++ gs)).results = [.lit (.bool true)] ∧ (s.fn H (ds ++ gs)).args = ds ∧ (s.fn H (ds ++ gs)).vars = [])
    (hW : DataW.Whole enc P f.params.toList s.vars apart W args.toList ds gs before) (hb : Below W.heap.size W W') :
    s.post enc P f apart fresh handsOn again W args (.bool true) W' := by
  have hW0 := hW
  have hlt : ∀ p ∈ before, p.block < W.heap.size := fun p hp => hW.lt p hp
  obtain ⟨p, q, hA, hV, rfl, hz, hn⟩ := hW
  have hq : gs = [] ∧ q = [] := by rw [hvs] at hV; cases gs <;> simp_all [DataW.TrodVars]
  obtain ⟨rfl, rfl⟩ := hq
  obtain ⟨h1, h2, h3⟩ := hfn
  refine post_below (pa := p) (pv := []) hW0 ?_ ?_ ?_ rfl hb (ok_one hrt rfl (okWide_bool_mk htb _))
  · intro b sp hd
    rw [h1, hrt]
    exact trodAll_cons_mk (shut_bool htb _) trodAll_mk0
  · intro sp hsp
    rw [h2]
    exact trodAll_below hl hb hts hA (fun x hx => hlt x (by simp [hx])) (fun x hx => hsp x (by simp [hx]))
  · intro sp hsp
    rw [h3, hvs]
    rfl
end Go.Proofs.YtimhlnndobfehaaDoor
namespace Go.Proofs.YtimhlnndobfehaaDoor
open Go.RowKit Go.Lib
set_option linter.unusedVariables false

theorem own : ownKnob Tryd.prog.godebug = none := by kernel_rfl
theorem laidOut : laidOutB Tryd.prog = true := by kernel_rfl
abbrev utf8List : List (String × DataW Unit) := [("unicode/utf8.acceptRanges", Rows.laid_unicode_utf8_acceptRanges), ("unicode/utf8.first", Rows.laid_unicode_utf8_first)]
theorem accept_eq : (Rows.laid_unicode_utf8_acceptRanges : DataW Unit) = acceptData := by kernel_rfl
theorem tabs_laid {W : World} (h : laidMetH Tryd.prog utf8List W) : Utf8Tabs 0 1 W := by
  have h1 : laidMet Tryd.prog utf8List W := h
  have r1 := Lib.laidMet.reads h1 (.head _)
  have r2 := Lib.laidMet.reads h1 (.tail _ (.head _))
  rw [accept_eq] at r1
  rw [show (Rows.laid_unicode_utf8_first : DataW Unit) = firstData from Pinned.utf8First_eq] at r2
  exact utf8Tabs_of_reads (ρ := Tryd.lays260_ren) { Tryd.lays260 with } ⟨by kernel_rfl, by kernel_rfl, by kernel_rfl, by kernel_rfl, by kernel_rfl, by kernel_rfl, by kernel_rfl⟩ r2 r1
/-- The settled world, where the two tables hold what their initialisers lay. -/
noncomputable def laidWorld (os : Os) : World :=
  let w0 := World.holding Tryd.prog os ⟨#[], #[], []⟩
  let put (h : Array Obj) (g : Nat) (cs : Array Value) : Array Obj := h.modify g fun
    | .cells _ t frozen => .cells cs t frozen
    | o => o
  let h1 := put w0.heap (Tryd.lays260_ren.g 3) (Lib.firstTab.map fun z => Value.int .u8 z).toArray
  let h2 := put h1 (Tryd.lays260_ren.g 4) ((List.range 16).flatMap fun i => [Value.int .u8 (Lib.accLo i), Value.int .u8 (Lib.accHi i)]).toArray
  { w0 with heap := h2 }
theorem laid_met (os : Os) (args : Array Value) : laidMet Tryd.prog utf8List ((laidWorld os).forCall (fun _ _ => 0) ⟨#[], args, []⟩).memory :=
  laidMet_of_run3 10 (by kernel_rfl) (by kernel_rfl) (by kernel_rfl)
end Go.Proofs.YtimhlnndobfehaaDoor
namespace Go.Proofs.YtimhlnndobfehaaDoor
open Go.RowKit Go.Maps
set_option linter.unusedVariables false

/-- The map in block b, of keys k and bools e: at each key what S says (false where there is none). -/
def MapB (P : Program) (k e : TypeId) (w : World) (b n : Nat) (S : Lit → Bool) : Prop :=
  ∃ D : DataW Unit, w.ownsMap P k (plainElem P e) b n D ∧ IsMap D ∧ ∀ kl, D.atKey kl (.lit (.bool false)) = .lit (.bool (S kl))
/-- The map in block b, of keys k and integers e. -/
def MapI (P : Program) (k e : TypeId) (q : IntKind) (w : World) (b n : Nat) (F : Lit → Option Int) : Prop :=
  ∃ D : DataW Unit, w.ownsMap P k (plainElem P e) b n D ∧ IsMap D ∧ ∀ kl, Maps.has D kl = (F kl).isSome ∧ D.atKey kl (.lit (.int q 0)) = .lit (.int q ((F kl).getD 0))
open Classical in
noncomputable def setAt {α : Type} (S : Lit → α) (kl : Lit) (x : α) : Lit → α := fun l => if l = kl then x else S l

section
variable {P : Program} {k e : TypeId} {q : IntKind} {w w' : World} {b n : Nat}
theorem ownsMap_same {R : Value → Option (DataW Unit × List MemPlace)} {D : DataW Unit} (h : w.ownsMap P k R b n D) (hb : w'.heap[b]? = w.heap[b]?) : w'.ownsMap P k R b n D := by
  obtain ⟨es, clock, h1, h2⟩ := h
  exact ⟨es, clock, hb.trans h1, h2⟩
theorem MapB.lt {S : Lit → Bool} (h : MapB P k e w b n S) : b < w.heap.size := let ⟨_, h1, _⟩ := h; h1.lt
theorem MapI.lt {F : Lit → Option Int} (h : MapI P k e q w b n F) : b < w.heap.size := let ⟨_, h1, _⟩ := h; h1.lt
theorem MapB.same {S : Lit → Bool} (h : MapB P k e w b n S) (hb : w'.heap[b]? = w.heap[b]?) : MapB P k e w' b n S := let ⟨D, h1, h2⟩ := h; ⟨D, ownsMap_same h1 hb, h2⟩
theorem MapI.same {F : Lit → Option Int} (h : MapI P k e q w b n F) (hb : w'.heap[b]? = w.heap[b]?) : MapI P k e q w' b n F := let ⟨D, h1, h2⟩ := h; ⟨D, ownsMap_same h1 hb, h2⟩
theorem MapB.below {S : Lit → Bool} (h : MapB P k e w b n S) {B : Nat} (hb : Below B w w') (hB : b < B) : MapB P k e w' b n S := h.same (hb.block b hB)
theorem MapI.below {F : Lit → Option Int} (h : MapI P k e q w b n F) {B : Nat} (hb : Below B w w') (hB : b < B) : MapI P k e q w' b n F := h.same (hb.block b hB)
theorem MapB.made (w : World) (P : Program) (k e : TypeId) : MapB P k e (w.alloc (.map #[] 0)) w.heap.size 0 fun _ => false :=
  ⟨.map [], World.ownsMap_made _ _ _ _, isMap_empty, fun _ => rfl⟩
theorem MapI.made (w : World) (P : Program) (k e : TypeId) (q : IntKind) : MapI P k e q (w.alloc (.map #[] 0)) w.heap.size 0 fun _ => none :=
  ⟨.map [], World.ownsMap_made _ _ _ _, isMap_empty, fun _ => ⟨rfl, rfl⟩⟩
theorem plainElem_bool_inv (he : P.underlying e = some .bool) {v : Value} {z : DataW Unit × List MemPlace} (h : plainElem P e v = some z) : ∃ x, v = .bool x ∧ z.1 = .lit (.bool x) := by
  unfold plainElem at h
  rw [he] at h
  cases v <;> simp at h
  subst h
  exact ⟨_, rfl, rfl⟩
theorem isKey_of {key : Value} {kl : Lit} (hk : (∃ s, kl = .string s) ∨ (∃ q n, kl = .int q n)) : WideAt.IsKeyLit kl := by
  rcases hk with ⟨s, rfl⟩ | ⟨q, n, rfl⟩ <;> trivial

variable {ops : Array Oper} {rest : List Oper} {o : Oper} {a : Act} {Q : Exit → Act → World → Prop}
theorem wpList_wanted (hw : Region.wanted o (yielded ops a.tmps) = true)
    (h : ∀ K : Act → World → Prop, (∀ a w, wpList P ops Q rest a w → K a w) → o.wp P a w K Q) : wpList P ops Q (o :: rest) a w :=
  wpList_step fun K hK => by rw [if_pos hw]; exact h K hK
theorem wpList_lookup_mapB (hw : Region.wanted o (yielded ops a.tmps) = true) (m x : Operand) (t : TypeId) (hop : o.op = Op.lookup t m x false)
    (k e : TypeId) (K : Keyed P k) (ht : P.underlying t = some (.map k e)) (he : P.underlying e = some .bool) (hz : (zeroValue e).run P w = .ok (.bool false) w) (b n : Nat) (S : Lit → Bool)
    (hm : a.eval m = .map (some b)) (hown : MapB P k e w b n S) (key : Value) (kl : Lit) (hx : a.eval x = key) (hkey : keyOf P k key = some kl)
    (hK : wpList P ops Q rest (a.put o.dst (.bool (S kl))) w) : wpList P ops Q (o :: rest) a w := by
  refine wpList_wanted hw fun K' hK' => ?_
  obtain ⟨D, h1, h2, h3⟩ := hown
  obtain ⟨v, ps, hrun, hv⟩ := h1.lookup K ht hz (plainElem_bool he false) hkey
  obtain ⟨y, rfl, hy⟩ := plainElem_bool_inv he hv
  have e := (h3 kl).symm.trans hy
  injection e with e
  injection e with e
  subst e
  unfold Oper.wp
  simp [execOp, hop, hm, hx, hrun, Result.andThen]
  exact hK' _ _ hK
theorem wpList_update_mapB (hw : Region.wanted o (yielded ops a.tmps) = true) (m x v : Operand) (t : TypeId) (hop : o.op = Op.mapUpdate t m x v)
    (k e : TypeId) (K : Keyed P k) (ht : P.underlying t = some (.map k e)) (he : P.underlying e = some .bool) (b n : Nat) (S : Lit → Bool)
    (hm : a.eval m = .map (some b)) (hown : MapB P k e w b n S) (hn : n < maxLen) (key : Value) (y : Bool) (kl : Lit) (hx : a.eval x = key) (hv : a.eval v = .bool y) (hkey : keyOf P k key = some kl) (hik : WideAt.IsKeyLit kl)
    (hK : ∀ w', MapB P k e w' b (n + 1) (setAt S kl y) → w.grownBy w' (some b) → wpList P ops Q rest (a.put o.dst undef) w') : wpList P ops Q (o :: rest) a w := by
  refine wpList_wanted hw fun K' hK' => ?_
  obtain ⟨D, h1, h2, h3⟩ := hown
  obtain ⟨w', hrun, r1, r2⟩ := h1.update K ht hn hkey (plainElem_bool he y)
  unfold Oper.wp
  simp [execOp, hop, hm, hx, hv, hrun, Result.andThen]
  refine hK' _ _ (hK w' ⟨_, r1, h2.put _ _, fun l => ?_⟩ r2)
  unfold setAt
  by_cases hl : l = kl
  · subst hl
    rw [if_pos rfl, atKey_put_same h2 hik]
  · rw [if_neg hl, atKey_put_other hl]
    exact h3 l
theorem wpList_lookup_ok_mapI (hw : Region.wanted o (yielded ops a.tmps) = true) (m x : Operand) (t : TypeId) (hop : o.op = Op.lookup t m x true)
    (k e : TypeId) (q : IntKind) (K : Keyed P k) (ht : P.underlying t = some (.map k e)) (he : P.underlying e = some (.int q)) (hz : (zeroValue e).run P w = .ok (.int q 0) w) (b n : Nat) (F : Lit → Option Int)
    (hm : a.eval m = .map (some b)) (hown : MapI P k e q w b n F) (key : Value) (kl : Lit) (hx : a.eval x = key) (hkey : keyOf P k key = some kl)
    (hK : wpList P ops Q rest (a.put o.dst (.tuple #[.int q ((F kl).getD 0), .bool (F kl).isSome])) w) : wpList P ops Q (o :: rest) a w := by
  refine wpList_wanted hw fun K' hK' => ?_
  obtain ⟨D, h1, h2, h3⟩ := hown
  obtain ⟨v, ps, hrun, hv⟩ := h1.look_ok K ht hz (plainElem_int he (by cases q <;> decide)) hkey
  obtain ⟨c, rfl, hc, hwc⟩ := plainElem_int_inv he hv
  have e := (h3 kl).2.symm.trans (congrArg Prod.fst hc)
  injection e with e
  injection e with _ e
  rw [(h3 kl).1] at hrun
  subst e
  unfold Oper.wp
  simp [execOp, hop, hm, hx, hrun, Result.andThen]
  exact hK' _ _ hK
theorem wpList_lookup_mapI (hw : Region.wanted o (yielded ops a.tmps) = true) (m x : Operand) (t : TypeId) (hop : o.op = Op.lookup t m x false)
    (k e : TypeId) (q : IntKind) (K : Keyed P k) (ht : P.underlying t = some (.map k e)) (he : P.underlying e = some (.int q)) (hz : (zeroValue e).run P w = .ok (.int q 0) w) (b n : Nat) (F : Lit → Option Int)
    (hm : a.eval m = .map (some b)) (hown : MapI P k e q w b n F) (key : Value) (kl : Lit) (hx : a.eval x = key) (hkey : keyOf P k key = some kl)
    (hK : wpList P ops Q rest (a.put o.dst (.int q ((F kl).getD 0))) w) : wpList P ops Q (o :: rest) a w := by
  refine wpList_wanted hw fun K' hK' => ?_
  obtain ⟨D, h1, h2, h3⟩ := hown
  obtain ⟨c, hrun, hat, hwc⟩ := h1.lookup_int K ht he hz hkey
  have e := (h3 kl).2.symm.trans hat
  injection e with e
  injection e with _ e
  subst e
  unfold Oper.wp
  simp [execOp, hop, hm, hx, hrun, Result.andThen]
  exact hK' _ _ hK
theorem wpList_update_mapI (hw : Region.wanted o (yielded ops a.tmps) = true) (m x v : Operand) (t : TypeId) (hop : o.op = Op.mapUpdate t m x v)
    (k e : TypeId) (q : IntKind) (K : Keyed P k) (ht : P.underlying t = some (.map k e)) (he : P.underlying e = some (.int q)) (b n : Nat) (F : Lit → Option Int)
    (hm : a.eval m = .map (some b)) (hown : MapI P k e q w b n F) (hn : n < maxLen) (key : Value) (y : Int) (hy : (Lit.int q y).wf = true) (kl : Lit) (hx : a.eval x = key) (hv : a.eval v = .int q y) (hkey : keyOf P k key = some kl) (hik : WideAt.IsKeyLit kl)
    (hK : ∀ w', MapI P k e q w' b (n + 1) (setAt F kl (some y)) → w.grownBy w' (some b) → wpList P ops Q rest (a.put o.dst undef) w') : wpList P ops Q (o :: rest) a w := by
  refine wpList_wanted hw fun K' hK' => ?_
  obtain ⟨D, h1, h2, h3⟩ := hown
  obtain ⟨w', hrun, r1, r2⟩ := h1.update K ht hn hkey (plainElem_int he hy)
  unfold Oper.wp
  simp [execOp, hop, hm, hx, hv, hrun, Result.andThen]
  refine hK' _ _ (hK w' ⟨_, r1, h2.put _ _, fun l => ?_⟩ r2)
  unfold setAt
  by_cases hl : l = kl
  · subst hl
    rw [if_pos rfl, atKey_put_same h2 hik, has_put_same h2 hik]
    exact ⟨rfl, rfl⟩
  · rw [if_neg hl, atKey_put_other hl, has_put_other hl]
    exact h3 l
end
end Go.Proofs.YtimhlnndobfehaaDoor
namespace Go.Proofs.YtimhlnndobfehaaDoor
open Go.RowKit Go.Maps
set_option linter.unusedVariables false

/-- An element reads as the value that it is. -/
def heldR (v : Value) : Option (DataW Value × List MemPlace) := some (.held v, [])
/-- The map in block b, of keys k: at each key the value that F says. -/
def MapV (P : Program) (k : TypeId) (w : World) (b : Nat) (F : Lit → Option Value) : Prop :=
  ∃ (n : Nat) (D : DataW Value), w.ownsMap P k heldR b n D ∧ IsMap D ∧ ∀ kl, Maps.has D kl = (F kl).isSome ∧ ∀ z, D.atKey kl (.held z) = .held ((F kl).getD z)

section
variable {P : Program} {k e : TypeId} {w w' : World} {b : Nat} {F : Lit → Option Value}
theorem MapV.lt (h : MapV P k w b F) : b < w.heap.size := let ⟨_, _, h1, _⟩ := h; h1.lt
theorem MapV.same (h : MapV P k w b F) (hb : w'.heap[b]? = w.heap[b]?) : MapV P k w' b F := by
  obtain ⟨n, D, ⟨es, clock, h1, h2⟩, h3⟩ := h
  exact ⟨n, D, ⟨es, clock, hb.trans h1, h2⟩, h3⟩
theorem MapV.below (h : MapV P k w b F) {B : Nat} (hb : Below B w w') (hB : b < B) : MapV P k w' b F := h.same (hb.block b hB)
theorem MapV.made (w : World) (P : Program) (k : TypeId) : MapV P k (w.alloc (.map #[] 0)) w.heap.size fun _ => none :=
  ⟨0, .map [], World.ownsMap_made _ _ _ _, isMap_empty, fun _ => ⟨rfl, fun _ => rfl⟩⟩
theorem nodup_sub {α : Type} (code : α → Nat) : ∀ (l : List α) (n : Nat), l.Pairwise (fun a b => code a ≠ code b) → (∀ x ∈ l, code x < n) → l.length ≤ n := fun l n hp hl => by
  have hnd : (l.map code).Nodup := by
    rw [List.nodup_iff_pairwise_ne, List.pairwise_map]
    exact hp
  have : ∀ (n : Nat) (m : List Nat), m.Nodup → (∀ x ∈ m, x < n) → m.length ≤ n := by
    intro n
    induction n with
    | zero => intro m _ h; match m, h with | [], _ => simp | x :: _, h => have := h x (by simp); omega
    | succ n ih =>
      intro m hm h
      by_cases hn : n ∈ m
      · have h1 := ih (m.erase n) (hm.erase n) fun x hx => by
          have h2 := h x (List.mem_of_mem_erase hx)
          have h3 : x ≠ n := fun e => by subst e; exact hm.not_mem_erase hx
          omega
        have h2 := List.length_erase_of_mem hn
        have h3 := List.length_pos_of_mem hn
        omega
      · have := ih m hm fun x hx => by
          have h2 := h x hx
          have h3 : x ≠ n := fun e => by subst e; exact hn hx
          omega
        omega
  have := this n (l.map code) hnd (fun x hx => by obtain ⟨y, hy, rfl⟩ := List.mem_map.1 hx; exact hl y hy)
  simpa using this
/-- A map of few keys has few entries. -/
theorem MapV.few (h : MapV P k w b F) (K : Keyed P k) (N : Nat) (code : Lit → Nat) (hF : ∀ kl v, F kl = some v → code kl < N) (hi : ∀ a c u v, F a = some u → F c = some v → code a = code c → a = c) :
    ∃ D : DataW Value, w.ownsMap P k heldR b N D ∧ IsMap D ∧ ∀ kl, Maps.has D kl = (F kl).isSome ∧ ∀ z, D.atKey kl (.held z) = .held ((F kl).getD z) := by
  obtain ⟨n, D, h1, h2, h3⟩ := h
  refine ⟨D, ?_, h2, h3⟩
  obtain ⟨ps, rfl, hp, hk⟩ := h1.entries K
  have hmem : ∀ p ∈ ps, ∃ v, F p.1 = some v := fun p hp => by
    have h4 := (h3 p.1).1
    have : Maps.has (DataW.map ps) p.1 = true := by
      rw [Maps.has_eq, List.any_eq_true]
      exact ⟨p, hp, WideAt.sameKey_self (hk p hp)⟩
    rw [this] at h4
    exact Option.isSome_iff_exists.1 h4.symm
  have hlen : ps.length ≤ N := by
    refine nodup_sub (fun p => code p.1) ps N (hp.imp_of_mem fun {a c} ha hc hne e => ?_) fun p hp => ?_
    · obtain ⟨u, hu⟩ := hmem a ha
      obtain ⟨v, hv⟩ := hmem c hc
      exact hne (hi _ _ u v hu hv e)
    · obtain ⟨v, hv⟩ := hmem p hp
      exact hF _ _ hv
  obtain ⟨es, clock, q1, q2, q3, q4⟩ := h1
  refine ⟨es, clock, q1, q2, ?_, q4⟩
  have : ps.length = es.size := by
    injection q4 with q4
    rw [q4, length_sorted]
    simp
  omega

variable {ops : Array Oper} {rest : List Oper} {o : Oper} {a : Act} {Q : Exit → Act → World → Prop}
theorem wpList_lookup_mapV (hw : Region.wanted o (yielded ops a.tmps) = true) (m x : Operand) (t : TypeId) (hop : o.op = Op.lookup t m x true)
    (k e : TypeId) (K : Keyed P k) (ht : P.underlying t = some (.map k e)) (z : Value) (hz : (zeroValue e).run P w = .ok z w) (b : Nat) (F : Lit → Option Value)
    (hm : a.eval m = .map (some b)) (hown : MapV P k w b F) (key : Value) (kl : Lit) (hx : a.eval x = key) (hkey : keyOf P k key = some kl)
    (hK : wpList P ops Q rest (a.put o.dst (.tuple #[(F kl).getD z, .bool (F kl).isSome])) w) : wpList P ops Q (o :: rest) a w := by
  refine wpList_wanted hw fun K' hK' => ?_
  obtain ⟨n, D, h1, h2, h3⟩ := hown
  obtain ⟨v, ps, hrun, hv⟩ := h1.look_ok K ht hz (zd := .held z) (zp := []) rfl hkey
  have e : v = (F kl).getD z := by
    have := (h3 kl).2 z
    unfold heldR at hv
    simp only [Option.some.injEq, Prod.mk.injEq] at hv
    have h4 := hv.1.trans this
    injection h4
  subst e
  rw [(h3 kl).1] at hrun
  unfold Oper.wp
  simp [execOp, hop, hm, hx, hrun, Result.andThen]
  exact hK' _ _ hK
theorem wpList_get_mapV (hw : Region.wanted o (yielded ops a.tmps) = true) (m x : Operand) (t : TypeId) (hop : o.op = Op.lookup t m x false)
    (k e : TypeId) (K : Keyed P k) (ht : P.underlying t = some (.map k e)) (z : Value) (hz : (zeroValue e).run P w = .ok z w) (b : Nat) (F : Lit → Option Value)
    (hm : a.eval m = .map (some b)) (hown : MapV P k w b F) (key : Value) (kl : Lit) (hx : a.eval x = key) (hkey : keyOf P k key = some kl)
    (hK : wpList P ops Q rest (a.put o.dst ((F kl).getD z)) w) : wpList P ops Q (o :: rest) a w := by
  refine wpList_wanted hw fun K' hK' => ?_
  obtain ⟨n, D, h1, h2, h3⟩ := hown
  obtain ⟨v, ps, hrun, hv⟩ := h1.lookup K ht hz (zd := .held z) (zp := []) rfl hkey
  have e : v = (F kl).getD z := by
    have := (h3 kl).2 z
    unfold heldR at hv
    simp only [Option.some.injEq, Prod.mk.injEq] at hv
    have h4 := hv.1.trans this
    injection h4
  subst e
  unfold Oper.wp
  simp [execOp, hop, hm, hx, hrun, Result.andThen]
  exact hK' _ _ hK
theorem MapV.store {t : TypeId} (h : MapV P k w b F) (K : Keyed P k) (N : Nat) (code : Lit → Nat) (hF : ∀ kl v, F kl = some v → code kl < N) (hi : ∀ a c u v, F a = some u → F c = some v → code a = code c → a = c) (hN : N < maxLen)
    (ht : P.underlying t = some (.map k e)) {key v : Value} {kl : Lit} (hkey : keyOf P k key = some kl) : ∃ w', (Instr.mapUpdate t (.map (some b)) key v).run P w = .ok () w' ∧ MapV P k w' b (setAt F kl (some v)) ∧ w.grownBy w' (some b) := by
  obtain ⟨D, h1, h2, h3⟩ := h.few K N code hF hi
  obtain ⟨w', hrun, r1, r2⟩ := h1.update K ht hN hkey (val := v) (d := .held v) (ps := []) rfl
  refine ⟨w', hrun, ⟨_, _, r1, h2.put _ _, fun l => ?_⟩, r2⟩
  have hik := K.key hkey
  unfold setAt
  by_cases hl : l = kl
  · subst hl
    rw [if_pos rfl, has_put_same h2 hik]
    exact ⟨rfl, fun z => by rw [atKey_put_same h2 hik]; rfl⟩
  · rw [if_neg hl, has_put_other hl]
    exact ⟨(h3 l).1, fun z => by rw [atKey_put_other hl]; exact (h3 l).2 z⟩
theorem wpList_update_mapV (hw : Region.wanted o (yielded ops a.tmps) = true) (m x v : Operand) (t : TypeId) (hop : o.op = Op.mapUpdate t m x v)
    (k e : TypeId) (K : Keyed P k) (ht : P.underlying t = some (.map k e)) (b N : Nat) (F : Lit → Option Value) (code : Lit → Nat) (hF : ∀ kl v, F kl = some v → code kl < N) (hi : ∀ a c u v, F a = some u → F c = some v → code a = code c → a = c) (hN : N < maxLen)
    (hm : a.eval m = .map (some b)) (hown : MapV P k w b F) (key val : Value) (kl : Lit) (hx : a.eval x = key) (hv : a.eval v = val) (hkey : keyOf P k key = some kl)
    (hK : ∀ w', MapV P k w' b (setAt F kl (some val)) → w.grownBy w' (some b) → wpList P ops Q rest (a.put o.dst undef) w') : wpList P ops Q (o :: rest) a w := by
  refine wpList_wanted hw fun K' hK' => ?_
  obtain ⟨w', hrun, r1, r2⟩ := hown.store K N code hF hi hN ht hkey (v := val)
  unfold Oper.wp
  simp [execOp, hop, hm, hx, hv, hrun, Result.andThen]
  exact hK' _ _ (hK w' r1 r2)
end
end Go.Proofs.YtimhlnndobfehaaDoor
