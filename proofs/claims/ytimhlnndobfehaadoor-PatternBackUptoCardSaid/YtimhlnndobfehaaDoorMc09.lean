/- append of a slice without elements gives the slice back. append of integers that are read to integers that the call owns. -/
import Derived.Test.YtimhlnndobfehaaDoorMc01
import Derived.Test.YtimhlnndobfehaaDoorMc06
import Derived.Deep.AppendLies
namespace Go.Proofs.YtimhlnndobfehaaDoor
open Go.RowKit
set_option linter.unusedVariables false
section
variable {P : Program} {w : World}
theorem run_append_none {A B : Option Addr} {n c d : Nat} (t ty e : TypeId) (i : TypeInfo) (ht : P.underlying t = some (.slice e)) (hi0 : P.info? e = some i) (hnc : n ≤ c) :
    (Builtin.append_ #[t, t] ty #[.slice A n c, .slice B 0 d]).run P w = .ok (.slice A n c) w := by
  cases A <;> cases B <;> simp [Builtin.append_, run_underlying ht, sizeOf, typeInfo, hi0, Builtin.lenOf, Builtin.firstCells, hnc, loadCells, loadCellsFrom, storeCells, Sem.run_pure, Result.andThen]
theorem wpList_append_none {ops : Array Oper} {rest : List Oper} {o : Oper} {a : Act} {Q : Exit → Act → World → Prop} (hgd : o.guard = none) (s x : Operand) (t : TypeId)
    (ho : o.op = .call { callee := .builtin .append, args := #[s, x], argTypes := #[t, t] }) (e : TypeId) (i : TypeInfo) (ht : P.underlying t = some (.slice e)) (hi0 : P.info? e = some i)
    {A B : Option Addr} {n c d : Nat} (hs : a.eval s = .slice A n c) (hx : a.eval x = .slice B 0 d) (hnc : n ≤ c)
    (hk : ∀ v, v = Value.slice A n c → wpList P ops Q rest (a.put o.dst v) w) : wpList P ops Q (o :: rest) a w := by
  refine wpList_plain hgd fun K hK => ?_
  have hr := run_append_none (P := P) (w := w) (A := A) (B := B) (n := n) (c := c) (d := d) t o.type e i ht hi0 hnc
  unfold Oper.wp execOp
  simp only [ho, resolve, invoke, builtin, Sem.run_bind, Sem.run_pure, Result.andThen_ok, List.map_toArray, List.map_cons, List.map_nil, hs, hx, hr]
  exact hK _ _ (hk _ rfl)
end
end Go.Proofs.YtimhlnndobfehaaDoor
namespace Go.Proofs.YtimhlnndobfehaaDoor
open Go.RowKit
set_option linter.unusedVariables false
section
variable {P : Program} {w : World} {q : IntKind}
theorem ints_cells {lo hi : Nat} {B : Option Addr} {ys : List Int} (h : Sl 1 (vInt q) w lo hi B ys) (h0 : 0 < ys.length) : ∃ ad, B = some ad ∧ ∀ j u, (ys.map (Value.int q))[j]? = some u → w.cell? (ad.add j) = some u := by
  obtain ⟨b, off, rfl, h1, h2, hc⟩ := h h0
  refine ⟨_, rfl, fun j u hu => ?_⟩
  rw [List.getElem?_map] at hu
  cases hy : ys[j]? with
  | none => rw [hy] at hu; cases hu
  | some y =>
    rw [hy] at hu
    simp only [Option.map_some, Option.some.injEq] at hu
    subst hu
    obtain ⟨cs, _, h4, h5, _⟩ := hc j y hy
    subst h5
    have := (h4 0 _ rfl).1
    rw [Addr.add_lit]
    simpa using this
theorem wpList_append_ints {ops : Array Oper} {rest : List Oper} {o : Oper} {a : Act} {Q : Exit → Act → World → Prop} (hgd : o.guard = none) (s x : Operand) (t : TypeId)
    (ho : o.op = .call { callee := .builtin .append, args := #[s, x], argTypes := #[t, t] }) (e : TypeId) (i : TypeInfo) (bytes : Nat) (ht : P.underlying t = some (.slice e)) (hi0 : P.info? e = some i) (hz : i.zero = some (.int q 0))
    (hsize : i.size = 1) (hby : i.bytes = bytes) {base lo hi : Nat} {A B : Option Addr} {c d : Nat} {xs ys : List Int} (hs : a.eval s = .slice A xs.length c) (hx : a.eval x = .slice B ys.length d)
    (hown : w.ownsRow base e 1 (.slice A xs.length c) xs.length (xs.map (Value.int q))) (hsl : Sl 1 (vInt q) w lo hi B ys)
    (h63 : xs.length + ys.length ≤ maxLen) (hbytes : (xs.length + ys.length) * bytes ≤ 140737488355328) (hbase : base ≤ w.heap.size)
    (hk : ∀ A' c' w', w'.ownsRow base e 1 (.slice A' (xs ++ ys).length c') (xs ++ ys).length ((xs ++ ys).map (Value.int q)) → Fr (fun g => (Value.slice A xs.length c).ownBlock = some g) w w' → (∀ g, (Value.slice A' (xs ++ ys).length c').ownBlock = some g → (Value.slice A xs.length c).ownBlock = some g ∨ w.heap.size ≤ g) → wpList P ops Q rest (a.put o.dst (.slice A' (xs ++ ys).length c')) w') : wpList P ops Q (o :: rest) a w := by
  rcases Nat.eq_zero_or_pos ys.length with h0 | h0
  · have hy : ys = [] := List.eq_nil_of_length_eq_zero h0
    subst hy
    have hnc : xs.length ≤ c := by
      obtain ⟨A', c', e', h1, _⟩ := own_form hown
      injection e' with _ _ e3
      omega
    refine wpList_append_none hgd s x t ho e i ht hi0 hs (by simpa using hx) hnc fun v hv => ?_
    subst hv
    have := hk A c w (by simpa using hown) (Fr.refl _ _) (fun g hg => .inl (by rw [List.append_nil] at hg; exact hg))
    simpa using this
  · obtain ⟨ad, rfl, hnews⟩ := ints_cells hsl h0
    refine wpList_append_lies w hgd s x t ho base e i (.int q 0) 1 bytes ht hi0 hz hsize hby rfl (by decide) (.slice A xs.length c) xs.length (xs.map (Value.int q)) hs hown ad ys.length d (ys.map (Value.int q)) hx (by simp) hnews (fun u hu => by obtain ⟨y, _, rfl⟩ := List.mem_map.1 hu; rfl) h0 h63 hbytes hbase _ rfl ?_
    intro g cap w5 hown5 hgr5 hat5 _
    have e1 : xs.length + ys.length = (xs ++ ys).length := by simp
    have e2 : xs.map (Value.int q) ++ ys.map (Value.int q) = (xs ++ ys).map (Value.int q) := by simp
    rw [e1, e2] at hown5
    rw [e1]
    refine hk _ _ _ hown5 (Fr.of_grown hgr5 fun k h => h) fun k hk => ?_
    obtain rfl : g = k := Option.some.inj hk
    rcases hat5 with h | h
    · exact .inl h
    · exact .inr (by omega)
end
end Go.Proofs.YtimhlnndobfehaaDoor
