/- Maps of the call's own, with bools or integers for elements, as functions of keys: look-ups and stores at the operation. -/
import Derived.Test.YtfjccjjdgbkbiaaDoorBase
import Derived.Maps.OwnOps
import Derived.Maps.OwnSet
import Derived.Maps.Views
namespace Go.Proofs.YtfjccjjdgbkbiaaDoor
open Go.RowKit Go.Maps
set_option linter.unusedVariables false

/-- The map in block b, of keys k and bools e: at each key what S says (false where there is none). -/
def MapB (P : Program) (k e : TypeId) (w : World) (b n : Nat) (S : Lit → Bool) : Prop :=
  ∃ D : DataW Unit, w.ownsMap P k (plainElem P e) b n D ∧ IsMap D ∧ ∀ kl, D.atKey kl (.lit (.bool false)) = .lit (.bool (S kl))
/-- The map in block b, of keys k and integers e. -/
def MapI (P : Program) (k e : TypeId) (q : IntKind) (w : World) (b n : Nat) (F : Lit → Option Int) : Prop :=
  ∃ D : DataW Unit, w.ownsMap P k (plainElem P e) b n D ∧ IsMap D ∧ ∀ kl, Maps.has D kl = (F kl).isSome ∧ D.atKey kl (.lit (.int q 0)) = .lit (.int q ((F kl).getD 0))
open Classical in
noncomputable def setAt {α : Type} (S : Lit → α) (kl : Lit) (x : α) : Lit → α := fun l => if l = kl then x else S l

section
variable {P : Program} {k e : TypeId} {q : IntKind} {w w' : World} {b n : Nat}
theorem ownsMap_same {R : Value → Option (DataW Unit × List MemPlace)} {D : DataW Unit} (h : w.ownsMap P k R b n D) (hb : w'.heap[b]? = w.heap[b]?) : w'.ownsMap P k R b n D := by
  obtain ⟨es, clock, h1, h2⟩ := h
  exact ⟨es, clock, hb.trans h1, h2⟩
theorem MapB.lt {S : Lit → Bool} (h : MapB P k e w b n S) : b < w.heap.size := let ⟨_, h1, _⟩ := h; h1.lt
theorem MapI.lt {F : Lit → Option Int} (h : MapI P k e q w b n F) : b < w.heap.size := let ⟨_, h1, _⟩ := h; h1.lt
theorem MapB.same {S : Lit → Bool} (h : MapB P k e w b n S) (hb : w'.heap[b]? = w.heap[b]?) : MapB P k e w' b n S := let ⟨D, h1, h2⟩ := h; ⟨D, ownsMap_same h1 hb, h2⟩
theorem MapI.same {F : Lit → Option Int} (h : MapI P k e q w b n F) (hb : w'.heap[b]? = w.heap[b]?) : MapI P k e q w' b n F := let ⟨D, h1, h2⟩ := h; ⟨D, ownsMap_same h1 hb, h2⟩
theorem MapB.below {S : Lit → Bool} (h : MapB P k e w b n S) {B : Nat} (hb : Below B w w') (hB : b < B) : MapB P k e w' b n S := h.same (hb.block b hB)
theorem MapI.below {F : Lit → Option Int} (h : MapI P k e q w b n F) {B : Nat} (hb : Below B w w') (hB : b < B) : MapI P k e q w' b n F := h.same (hb.block b hB)
theorem MapB.made (w : World) (P : Program) (k e : TypeId) : MapB P k e (w.alloc (.map #[] 0)) w.heap.size 0 fun _ => false :=
  ⟨.map [], World.ownsMap_made _ _ _ _, isMap_empty, fun _ => rfl⟩
theorem MapI.made (w : World) (P : Program) (k e : TypeId) (q : IntKind) : MapI P k e q (w.alloc (.map #[] 0)) w.heap.size 0 fun _ => none :=
  ⟨.map [], World.ownsMap_made _ _ _ _, isMap_empty, fun _ => ⟨rfl, rfl⟩⟩
theorem plainElem_bool_inv (he : P.underlying e = some .bool) {v : Value} {z : DataW Unit × List MemPlace} (h : plainElem P e v = some z) : ∃ x, v = .bool x ∧ z.1 = .lit (.bool x) := by
  unfold plainElem at h
  rw [he] at h
  cases v <;> simp at h
  subst h
  exact ⟨_, rfl, rfl⟩
theorem isKey_of {key : Value} {kl : Lit} (hk : (∃ s, kl = .string s) ∨ (∃ q n, kl = .int q n)) : WideAt.IsKeyLit kl := by
  rcases hk with ⟨s, rfl⟩ | ⟨q, n, rfl⟩ <;> trivial

variable {ops : Array Oper} {rest : List Oper} {o : Oper} {a : Act} {Q : Exit → Act → World → Prop}
theorem wpList_wanted (hw : Region.wanted o (yielded ops a.tmps) = true)
    (h : ∀ K : Act → World → Prop, (∀ a w, wpList P ops Q rest a w → K a w) → o.wp P a w K Q) : wpList P ops Q (o :: rest) a w :=
  wpList_step fun K hK => by rw [if_pos hw]; exact h K hK
theorem wpList_lookup_mapB (hw : Region.wanted o (yielded ops a.tmps) = true) (m x : Operand) (t : TypeId) (hop : o.op = Op.lookup t m x false)
    (k e : TypeId) (K : Keyed P k) (ht : P.underlying t = some (.map k e)) (he : P.underlying e = some .bool) (hz : (zeroValue e).run P w = .ok (.bool false) w) (b n : Nat) (S : Lit → Bool)
    (hm : a.eval m = .map (some b)) (hown : MapB P k e w b n S) (key : Value) (kl : Lit) (hx : a.eval x = key) (hkey : keyOf P k key = some kl)
    (hK : wpList P ops Q rest (a.put o.dst (.bool (S kl))) w) : wpList P ops Q (o :: rest) a w := by
  refine wpList_wanted hw fun K' hK' => ?_
  obtain ⟨D, h1, h2, h3⟩ := hown
  obtain ⟨v, ps, hrun, hv⟩ := h1.lookup K ht hz (plainElem_bool he false) hkey
  obtain ⟨y, rfl, hy⟩ := plainElem_bool_inv he hv
  have e := (h3 kl).symm.trans hy
  injection e with e
  injection e with e
  subst e
  unfold Oper.wp
  simp [execOp, hop, hm, hx, hrun, Result.andThen]
  exact hK' _ _ hK
theorem wpList_update_mapB (hw : Region.wanted o (yielded ops a.tmps) = true) (m x v : Operand) (t : TypeId) (hop : o.op = Op.mapUpdate t m x v)
    (k e : TypeId) (K : Keyed P k) (ht : P.underlying t = some (.map k e)) (he : P.underlying e = some .bool) (b n : Nat) (S : Lit → Bool)
    (hm : a.eval m = .map (some b)) (hown : MapB P k e w b n S) (hn : n < maxLen) (key : Value) (y : Bool) (kl : Lit) (hx : a.eval x = key) (hv : a.eval v = .bool y) (hkey : keyOf P k key = some kl) (hik : WideAt.IsKeyLit kl)
    (hK : ∀ w', MapB P k e w' b (n + 1) (setAt S kl y) → w.grownBy w' (some b) → wpList P ops Q rest (a.put o.dst undef) w') : wpList P ops Q (o :: rest) a w := by
  refine wpList_wanted hw fun K' hK' => ?_
  obtain ⟨D, h1, h2, h3⟩ := hown
  obtain ⟨w', hrun, r1, r2⟩ := h1.update K ht hn hkey (plainElem_bool he y)
  unfold Oper.wp
  simp [execOp, hop, hm, hx, hv, hrun, Result.andThen]
  refine hK' _ _ (hK w' ⟨_, r1, h2.put _ _, fun l => ?_⟩ r2)
  unfold setAt
  by_cases hl : l = kl
  · subst hl
    rw [if_pos rfl, atKey_put_same h2 hik]
  · rw [if_neg hl, atKey_put_other hl]
    exact h3 l
theorem wpList_lookup_ok_mapI (hw : Region.wanted o (yielded ops a.tmps) = true) (m x : Operand) (t : TypeId) (hop : o.op = Op.lookup t m x true)
    (k e : TypeId) (q : IntKind) (K : Keyed P k) (ht : P.underlying t = some (.map k e)) (he : P.underlying e = some (.int q)) (hz : (zeroValue e).run P w = .ok (.int q 0) w) (b n : Nat) (F : Lit → Option Int)
    (hm : a.eval m = .map (some b)) (hown : MapI P k e q w b n F) (key : Value) (kl : Lit) (hx : a.eval x = key) (hkey : keyOf P k key = some kl)
    (hK : wpList P ops Q rest (a.put o.dst (.tuple #[.int q ((F kl).getD 0), .bool (F kl).isSome])) w) : wpList P ops Q (o :: rest) a w := by
  refine wpList_wanted hw fun K' hK' => ?_
  obtain ⟨D, h1, h2, h3⟩ := hown
  obtain ⟨v, ps, hrun, hv⟩ := h1.look_ok K ht hz (plainElem_int he (by cases q <;> decide)) hkey
  obtain ⟨c, rfl, hc, hwc⟩ := plainElem_int_inv he hv
  have e := (h3 kl).2.symm.trans (congrArg Prod.fst hc)
  injection e with e
  injection e with _ e
  rw [(h3 kl).1] at hrun
  subst e
  unfold Oper.wp
  simp [execOp, hop, hm, hx, hrun, Result.andThen]
  exact hK' _ _ hK
theorem wpList_lookup_mapI (hw : Region.wanted o (yielded ops a.tmps) = true) (m x : Operand) (t : TypeId) (hop : o.op = Op.lookup t m x false)
    (k e : TypeId) (q : IntKind) (K : Keyed P k) (ht : P.underlying t = some (.map k e)) (he : P.underlying e = some (.int q)) (hz : (zeroValue e).run P w = .ok (.int q 0) w) (b n : Nat) (F : Lit → Option Int)
    (hm : a.eval m = .map (some b)) (hown : MapI P k e q w b n F) (key : Value) (kl : Lit) (hx : a.eval x = key) (hkey : keyOf P k key = some kl)
    (hK : wpList P ops Q rest (a.put o.dst (.int q ((F kl).getD 0))) w) : wpList P ops Q (o :: rest) a w := by
  refine wpList_wanted hw fun K' hK' => ?_
  obtain ⟨D, h1, h2, h3⟩ := hown
  obtain ⟨c, hrun, hat, hwc⟩ := h1.lookup_int K ht he hz hkey
  have e := (h3 kl).2.symm.trans hat
  injection e with e
  injection e with _ e
  subst e
  unfold Oper.wp
  simp [execOp, hop, hm, hx, hrun, Result.andThen]
  exact hK' _ _ hK
theorem wpList_update_mapI (hw : Region.wanted o (yielded ops a.tmps) = true) (m x v : Operand) (t : TypeId) (hop : o.op = Op.mapUpdate t m x v)
    (k e : TypeId) (q : IntKind) (K : Keyed P k) (ht : P.underlying t = some (.map k e)) (he : P.underlying e = some (.int q)) (b n : Nat) (F : Lit → Option Int)
    (hm : a.eval m = .map (some b)) (hown : MapI P k e q w b n F) (hn : n < maxLen) (key : Value) (y : Int) (hy : (Lit.int q y).wf = true) (kl : Lit) (hx : a.eval x = key) (hv : a.eval v = .int q y) (hkey : keyOf P k key = some kl) (hik : WideAt.IsKeyLit kl)
    (hK : ∀ w', MapI P k e q w' b (n + 1) (setAt F kl (some y)) → w.grownBy w' (some b) → wpList P ops Q rest (a.put o.dst undef) w') : wpList P ops Q (o :: rest) a w := by
  refine wpList_wanted hw fun K' hK' => ?_
  obtain ⟨D, h1, h2, h3⟩ := hown
  obtain ⟨w', hrun, r1, r2⟩ := h1.update K ht hn hkey (plainElem_int he hy)
  unfold Oper.wp
  simp [execOp, hop, hm, hx, hv, hrun, Result.andThen]
  refine hK' _ _ (hK w' ⟨_, r1, h2.put _ _, fun l => ?_⟩ r2)
  unfold setAt
  by_cases hl : l = kl
  · subst hl
    rw [if_pos rfl, atKey_put_same h2 hik, has_put_same h2 hik]
    exact ⟨rfl, rfl⟩
  · rw [if_neg hl, atKey_put_other hl, has_put_other hl]
    exact h3 l
end
end Go.Proofs.YtfjccjjdgbkbiaaDoor
