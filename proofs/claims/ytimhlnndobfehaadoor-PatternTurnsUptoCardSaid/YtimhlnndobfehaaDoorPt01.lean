/- The law's numbered, walked, at patterns that are numbered. Integers that were copied; of what kind they are. The law's spoil and long, walked. spoil The document's Twin, and the law's long, walked. -/
import Derived.Test.YtimhlnndobfehaaDoorPn09
import Derived.Test.YtimhlnndobfehaaDoorMc12
import Derived.Test.YtimhlnndobfehaaDoorMc09
import Derived.Test.YtimhlnndobfehaaDoorMc35
import Derived.Test.YtimhlnndobfehaaDoorChecked
import Derived.Deep.DeepCutAuto
import Derived.Deep.CutBlock
import Derived.Test.YtimhlnndobfehaaDoorPn06
import Derived.Test.YtimhlnndobfehaaDoorPn08
namespace Go.Proofs.YtimhlnndobfehaaDoor
open Go.RowKit
set_option linter.unusedVariables false

theorem numint_info : (Tryd.prog.info? 3).map (fun i => (i.zero, i.size, i.bytes)) = some (some (.int .i64 0), 1, 8) := by kernel_rfl
theorem numb_step {ns : List Nd} {k : Nat} {st : List Int} (h : numL (ns.drop k) k st = some []) (hk : k < ns.length) : ∃ r, st = (k : Int) :: r ∧ numL (ns.drop (k + 1)) (k + 1) (ns[k].kids ++ r) = some [] := by
  rw [List.drop_eq_getElem_cons hk] at h
  unfold numL at h
  cases st with
  | nil => cases h
  | cons t r =>
    simp only at h
    split at h
    · rename_i e
      exact ⟨r, by rw [e], h⟩
    · cases h
/-- A stack without its last ones. -/
theorem own_cutN {w : World} {base : Nat} {e : TypeId} {A : Option Addr} {n c : Nat} {xs : List Value} (h : w.ownsRow base e 1 (.slice A n c) n xs) (m : Nat) (hm : m ≤ n) (hn : 0 < n) : w.ownsRow base e 1 (.slice A m c) m (xs.take m) := by
  refine ⟨by rw [List.length_take, h.1]; omega, ?_⟩
  rcases h.2 with ⟨e1, e2⟩ | ⟨g, cap, cur, e1, h1, h2, h3, h4, h5, h6⟩
  · omega
  · injection e1 with a1 a2 a3
    subst a1 a3
    refine .inr ⟨g, c, cur, rfl, h1, h2, by omega, h4, h5, ?_⟩
    rw [← h6, List.take_take]
    congr 1
    omega
def NumbSt (w : World) (A : Option Addr) (n c : Nat) (st : List Int) (v : Value) (wr : World) : Prop :=
  ∃ Av cv, v = .slice Av st.length cv ∧ wr.ownsRow (w.heap.size + 1) 3 1 (.slice Av st.length cv) st.length (st.map (Value.int .i64)) ∧ Row wr w.heap.size 28 [.slice A n c] ∧ Below w.heap.size w wr
set_option maxHeartbeats 8000000 in
set_option maxRecDepth 100000 in
theorem numb_any (A : Option Addr) (c : Nat) (ns : List Nd) (w : World) (hsl : Sl 5 vNd w 0 w.heap.size A ns) (hm : ns.length ≤ 1000) (hk : ∀ x ∈ ns, x.kids.length ≤ 1000) (hn : numB ns = true) :
    Calls Tryd.prog 23 #[.agg #[.slice A ns.length c]] w fun e w' => e = .returned (.bool true) ∧ Below w.heap.size w w' := by
  obtain ⟨i1, hi1, hy0, hy1, hy2⟩ := info_parts numint_info
  have hal : Below w.heap.size w (w.alloc (.cells #[.slice A ns.length c] 28)) := (Below.refl _ _).alloc (Nat.le_refl _) _
  have hal2 : Below w.heap.size w ((w.alloc (.cells #[.slice A ns.length c] 28)).alloc (.cells #[.int .i64 0] 3)) := hal.alloc (by simp) _
  have hst : NumbSt w A ns.length c [((0 : Nat) : Int)] (.slice (some ⟨w.heap.size + 1, 0, none⟩) 1 1) ((w.alloc (.cells #[.slice A ns.length c] 28)).alloc (.cells #[.int .i64 0] 3)) := by
    have ho := own_fresh (w := w.alloc (.cells #[.slice A ns.length c] 28)) (base := w.heap.size + 1) (t := 3) [Value.int .i64 0] (by simp) (by decide)
    simp only [World.size_alloc, List.length_cons, List.length_nil] at ho
    exact ⟨_, _, rfl, ho, (Row.new w _ _).alloc _, hal2⟩
  have HST := Lib.hid hst
  have HN : Hid (numL (ns.drop 0) 0 [((0 : Nat) : Int)].reverse = some []) := by
    show _ = _
    unfold numB at hn
    rw [List.drop_zero]
    exact of_decide_eq_true hn
  clear hst hal hal2 hn
  go_enter Tryd.func23, Tryd.ntmps23
  go_wp2_with fail
  go_loopw [3, 4] (fun v i wr => ∃ (k : Nat) (st : List Int), k ≤ ns.length ∧ i = .int .i64 (k : Int) ∧ Hid (numL (ns.drop k) k st.reverse = some []) ∧ st.length ≤ 1 + 1000 * k ∧ NumbSt w A ns.length c st v wr) (fun _ i _ => ns.length - (intOf i).toNat)
  case atStart => exact ⟨0, [((0 : Nat) : Int)], by omega, rfl, HN, by simp, HST.out⟩
  case round =>
    clear HST HN
    obtain ⟨k, st, hkl, rfl, hN, hsl1, Av, cv, rfl, hown, hr, hb⟩ := hrel
    have hbs := hb.size
    have hrl := hr.lt
    obtain ⟨q0, f0⟩ := hr.cel (i := 0) rfl
    by_cases hlt : k < ns.length
    · obtain ⟨r, hr1, hr2⟩ := numb_step hN.out hlt
      have hst : st = r.reverse ++ [(k : Int)] := by rw [← List.reverse_reverse st, hr1, List.reverse_cons]
      subst hst
      obtain ⟨b, off, B, cc, rfl, _, hbb, _, _, _, _, ⟨c4', _⟩, hkl4, hkc, hks, _⟩ := nd_at hsl hlt
      have c4 := ((bcell hb).1 b _ hbb).trans c4'
      clear c4'
      have hkx := hk _ (List.getElem_mem hlt)
      have HN2 := Lib.hid hr2
      clear hN hr1 hr2
      generalize ns[k] = x at *
      have hlen : (r.reverse ++ [(k : Int)]).length = r.length + 1 := by simp
      rw [hlen] at hown hsl1
      obtain ⟨g, cg, hvg, hcg1, hcg2, hgb, hgl⟩ := own_pos hown (by omega)
      injection hvg with e1 e2 e3
      subst e1 e3
      have htop := own_cel hown (j := r.length) (u := .int .i64 (k : Int)) (by simp)
      obtain ⟨t0, t1⟩ := htop
      have hcut := own_cutN hown r.length (by omega) (by omega)
      have htk : ((r.reverse ++ [(k : Int)]).map (Value.int .i64)).take r.length = r.reverse.map (Value.int .i64) := by simp
      rw [htk] at hcut
      rw [hlen]
      have HOWN := Lib.hid hcut
      have HR := Lib.hid hr
      have HB := Lib.hid hb
      have HKS := Lib.hid hks
      clear hown hcut htk hr hb hks hlen
      have hin : ∃ j : Nat, j ≤ x.kids.length ∧ Value.int .i64 ((x.kids.length : Int) - 1) = .int .i64 ((j : Int) - 1) ∧ NumbSt w (some ⟨b, off, none⟩) ns.length c (r.reverse ++ (x.kids.drop j).reverse) (.slice (some ⟨g, 0, none⟩) r.length cv) wr := by
        have e : r.reverse ++ (x.kids.drop x.kids.length).reverse = r.reverse := by simp
        refine ⟨x.kids.length, Nat.le_refl _, rfl, ?_⟩
        rw [e]
        exact ⟨some ⟨g, 0, none⟩, cv, by simp, by simpa using HOWN.out, HR.out, HB.out⟩
      have HIN := Lib.hid hin
      have hn0 : (((r.length : Int) + 1) == 0) = false := by rw [beq_eq_false_iff_ne]; omega
      clear hin HOWN HR HB e2
      go_wp2_with fail
      clear t0 t1 hcg1
      go_loopw [3, 7] (fun v i wr' => ∃ j : Nat, j ≤ x.kids.length ∧ i = .int .i64 ((j : Int) - 1) ∧ NumbSt w (some ⟨b, off, none⟩) ns.length c (r.reverse ++ (x.kids.drop j).reverse) v wr') (fun _ i _ => (intOf i + 1).toNat)
      case atStart => exact HIN.out
      case round =>
        clear HIN
        rename_i wr0 wr
        obtain ⟨j, hj, rfl, Av, cv, rfl, hown, hr, hb⟩ := hrel
        have hbs := hb.size
        cases j with
        | zero =>
          have HFIN : Hid (∃ (k' : Nat) (st : List Int), k' ≤ ns.length ∧ Value.int .i64 ((k : Int) + 1) = .int .i64 (k' : Int) ∧ Hid (numL (ns.drop k') k' st.reverse = some []) ∧ st.length ≤ 1 + 1000 * k' ∧ NumbSt w (some ⟨b, off, none⟩) ns.length c st (.slice Av (r.reverse ++ (x.kids.drop 0).reverse).length cv) wr) :=
            ⟨k + 1, r.reverse ++ (x.kids.drop 0).reverse, by omega, by go_num, by show _ = _; rw [← HN2.out]; simp, by simp; omega, Av, cv, rfl, hown, hr, hb⟩
          generalize (r.reverse ++ (x.kids.drop 0).reverse).length = m at *
          clear hown hr hb
          go_wp2_with fail
          exact ⟨HFIN.out, by simp [intOf]; omega⟩
        | succ j =>
          obtain ⟨bk, ok, hBk, _, hbk, ⟨z0, z1⟩, hkin⟩ := ints_at (HKS.out.below (vInt_good _) hb (Nat.le_refl _)) (i := j) (by omega)
          have hdrop : Hid (x.kids.drop j = x.kids[j] :: x.kids.drop (j + 1)) := List.drop_eq_getElem_cons (by omega)
          generalize x.kids[j] = y at *
          have hbk' : bk < wr.heap.size := by omega
          have hal : Below wr.heap.size wr (wr.alloc (.cells #[.int .i64 y] 3)) := (Below.refl _ _).alloc (Nat.le_refl _) _
          have hownB := own_below hown hal
          have hnews := (Row.new wr 3 [.int .i64 y]).news
          have hone : ∀ u ∈ [Value.int .i64 y], u.oneCell' = true := by intro u hu; rw [List.mem_singleton.1 hu]; rfl
          have hL : Hid ((r.reverse ++ (x.kids.drop (j + 1)).reverse).length ≤ 1000 * k + 1000) := by
            show _ ≤ _
            simp only [List.length_append, List.length_reverse, List.length_drop]
            omega
          have hk1000 : 1000 * k ≤ 1000000 := by omega
          have HRW := Lib.hid hr
          have HB3 := Lib.hid hb
          have hge : Hid (∀ q, (Value.slice Av (r.reverse ++ (x.kids.drop (j + 1)).reverse).length cv).ownBlock = some q → w.heap.size + 1 ≤ q) := fun q hq => (hown.lt q hq).1
          have hne := Lib.hid (row_ne_own hr hown (by decide))
          have HST : Hid (∀ (Av' : Option Addr) (cv' : Nat) (wz : World), wz.ownsRow (w.heap.size + 1) 3 1 (.slice Av' ((r.reverse ++ (x.kids.drop (j + 1)).reverse).length + 1) cv') ((r.reverse ++ (x.kids.drop (j + 1)).reverse).length + 1) ((r.reverse ++ (x.kids.drop (j + 1)).reverse).map (Value.int .i64) ++ [.int .i64 y]) → Row wz w.heap.size 28 [.slice (some ⟨b, off, none⟩) ns.length c] → Below w.heap.size w wz →
              NumbSt w (some ⟨b, off, none⟩) ns.length c (r.reverse ++ (x.kids.drop j).reverse) (.slice Av' ((r.reverse ++ (x.kids.drop (j + 1)).reverse).length + 1) cv') wz) := fun Av' cv' wz h1 h2 h3 => by
            have e : r.reverse ++ (x.kids.drop j).reverse = (r.reverse ++ (x.kids.drop (j + 1)).reverse) ++ [y] := by rw [hdrop.out]; simp
            rw [e]
            generalize r.reverse ++ (x.kids.drop (j + 1)).reverse = acc at *
            have e2 : acc.length + 1 = (acc ++ [y]).length := by simp
            have e3 : acc.map (Value.int .i64) ++ [.int .i64 y] = (acc ++ [y]).map (Value.int .i64) := by simp
            rw [e2, e3] at h1
            exact ⟨Av', cv', by rw [e2], h1, h2, h3⟩
          subst hBk
          clear hr hb hown
          generalize (r.reverse ++ (x.kids.drop (j + 1)).reverse) = acc at *
          have h63 : acc.length + 1 ≤ maxLen := by have := hL.out; unfold maxLen; omega
          have hby : (acc.length + 1) * 8 ≤ 140737488355328 := by have := hL.out; omega
          have hlo : w.heap.size + 1 ≤ (wr.alloc (.cells #[.int .i64 y] 3)).heap.size := by have := HRW.out.lt; rw [World.size_alloc]; omega
          have e1 : (((j + 1 : Nat) : Int) - 1) = (j : Int) := by omega
          rw [e1]
          clear e1 hdrop
          go_wp2_with (at_builtin; refine wpList_append_lies _ rfl _ _ 42 rfl (w.heap.size + 1) 3 i1 (.int .i64 0) 1 8 Tryd.underlying42 hi1 hy0 hy1 hy2 rfl (by decide) (.slice Av acc.length cv) acc.length (acc.map (Value.int .i64)) rfl hownB ⟨wr.heap.size, 0, none⟩ 1 1 [.int .i64 y] rfl rfl hnews hone (by decide) h63 hby hlo _ rfl ?_)
          intro g5 cap w5 hown5 hgr5 hat5 hlt5
          have hr5 := (HRW.out.alloc (.cells #[.int .i64 y] 3)).grown hgr5 (fun e => hne.out e.symm)
          have hb5 : Below w.heap.size w w5 := (HB3.out.alloc HB3.out.size (.cells #[.int .i64 y] 3)).grown hgr5 (by have := HB3.out.size; rw [World.size_alloc]; omega) (fun q hq => by have := hge.out q hq; omega)
          have HF := Lib.hid (HST.out _ _ _ hown5 hr5 hb5)
          clear hown5 hgr5 hat5 hlt5 hr5 hb5 hownB hnews HST
          go_wp2_with fail
          exact ⟨⟨j, by omega, rfl, HF.out⟩, by simp [intOf]⟩
    · obtain rfl : k = ns.length := by omega
      have hN2 := hN.out
      rw [List.drop_length] at hN2
      have hst : st.reverse = [] := Option.some.inj hN2
      obtain rfl : st = [] := by simpa using hst
      have HB := Lib.hid hb
      clear hN hN2 hst hown hr hb
      go_wp2_with fail
      go_ret
      exact ⟨rfl, HB.out⟩
end Go.Proofs.YtimhlnndobfehaaDoor
namespace Go.Proofs.YtimhlnndobfehaaDoor
open Go.RowKit
set_option linter.unusedVariables false

theorem fits_ints {w : World} {lo hi : Nat} {news : List Value} {xs : List Int} (h : Fits 1 (vInt .i64) w lo hi news xs) : news = xs.map (Value.int .i64) := by
  have hl := h.1
  rw [Nat.mul_one] at hl
  refine List.ext_getElem? fun i => ?_
  rw [List.getElem?_map]
  by_cases hi' : i < xs.length
  · have h2 := (h.2 i _ (List.getElem?_eq_getElem hi')).1
    rw [List.getElem?_eq_getElem hi', List.getElem?_eq_getElem (by omega)]
    have e : (slot 1 news i)[0]? = some (Value.int .i64 xs[i]) := by rw [h2]; rfl
    unfold slot at e
    rw [List.getElem?_take, if_pos (by omega), List.getElem?_drop] at e
    rw [List.getElem?_eq_getElem (by omega)] at e
    simp only [Nat.mul_one, Nat.add_zero] at e
    rw [e]
    rfl
  · rw [List.getElem?_eq_none (by omega), List.getElem?_eq_none (by omega)]
    rfl
theorem ints_kin {k : IntKind} {w : World} {lo hi : Nat} {A : Option Addr} {l : List Int} (h : Sl 1 (vInt k) w lo hi A l) : ∀ n ∈ l, kin k n := by
  intro n hn
  obtain ⟨i, hi', rfl⟩ := List.getElem_of_mem hn
  obtain ⟨_, _, _, _, _, _, h2⟩ := ints_at h hi'
  exact h2
theorem int_one {k : IntKind} : ∀ {w lo hi cs x}, vInt k w lo hi cs x → ∀ u ∈ cs, u.oneCell' = true := by
  intro w lo hi cs x h u hu
  rw [h.1, List.mem_singleton] at hu
  subst hu
  rfl
end Go.Proofs.YtimhlnndobfehaaDoor
namespace Go.Proofs.YtimhlnndobfehaaDoor
open Go.RowKit
set_option linter.unusedVariables false

theorem Nodes.kid_set {w : World} {lo : Nat} {v : Value} {es : List (Nd × Value)} (h : Nodes w lo v es) {i k : Nat} {x : Nd} {u : Value} {g : Nat} (hi : es[i]? = some (x, u)) (hg : u.ownBlock = some g) (hk : k < x.kids.length) {n : Int} (hn : kin .i64 n) :
    Nodes (w.setCell ⟨g, k, none⟩ (.int .i64 n)) lo v (es.set i ({ x with kids := x.kids.set k n }, u)) := by
  have hil : i < es.length := (List.getElem?_eq_some_iff.1 hi).1
  have hold : ∀ (j : Nat) (y : Nd) (t : Value), (es.set i ({ x with kids := x.kids.set k n }, u))[j]? = some (y, t) → (j ≠ i ∧ es[j]? = some (y, t)) ∨ (j = i ∧ y = { x with kids := x.kids.set k n } ∧ t = u) := by
    intro j y t hj
    rw [List.getElem?_set] at hj
    by_cases e : i = j
    · subst e
      simp only [if_true, hil, Option.some.injEq, Prod.mk.injEq] at hj
      exact .inr ⟨rfl, hj.1.symm, hj.2.symm⟩
    · rw [if_neg e] at hj
      exact .inl ⟨fun e2 => e e2.symm, hj⟩
  have hold2 : ∀ (j : Nat) (y : Nd) (t : Value), (es.set i ({ x with kids := x.kids.set k n }, u))[j]? = some (y, t) → ∃ y', es[j]? = some (y', t) := by
    intro j y t hj
    rcases hold j y t hj with ⟨_, hj⟩ | ⟨rfl, rfl, rfl⟩
    · exact ⟨y, hj⟩
    · exact ⟨x, hi⟩
  have hout : ∀ b, b ≠ g → (w.setCell ⟨g, k, none⟩ (.int .i64 n)).heap[b]? = w.heap[b]? := fun b hb => Below.heap_setCell _ _ _ b hb
  have hflat : flat (es.set i ({ x with kids := x.kids.set k n }, u)) = flat es := by
    have h1 := flat_set (u' := u) (x.kids.set k n) hi
    rw [← h1]
    refine List.ext_getElem? fun j => ?_
    rw [List.getElem?_set]
    by_cases e : i * 5 + 4 = j
    · subst e
      rw [if_pos rfl, if_pos (by rw [flat_length]; omega), flat_get (by omega) hi]
      rfl
    · rw [if_neg e]
  refine ⟨?_, fun j y t hj => ?_, fun j y t b hj hb => ?_, fun j l y t z s b hj hl hbt hbs => ?_⟩
  · rw [List.length_set, hflat]
    exact own_same h.row fun b hb => hout b (fun e => h.far i x u g hi hg (by rw [hb, e]))
  · rcases hold j y t hj with ⟨hne, hj⟩ | ⟨rfl, rfl, rfl⟩
    · exact ⟨own_same (h.kid j y t hj).1 fun b hb => hout b (fun e => hne (h.apart j i y t x u g hj hi (by rw [hb, e]) hg)), (h.kid j y t hj).2⟩
    · obtain ⟨h1, h2, h3, h4, h5, h6⟩ := h.kid _ x _ hi
      refine ⟨?_, h2, h3, h4, h5, fun m hm => ?_⟩
      · have := own_set h1 hg (j := k) (by simpa using hk) (.int .i64 n)
        simpa [List.map_set] using this
      · rcases List.mem_or_eq_of_mem_set hm with hm | rfl
        · exact h6 m hm
        · exact hn
  · obtain ⟨y', hy⟩ := hold2 j y t hj
    exact h.far j y' t b hy hb
  · obtain ⟨y', hy⟩ := hold2 j y t hj
    obtain ⟨z', hz⟩ := hold2 l z s hl
    exact h.apart j l y' t z' s b hy hz hbt hbs
theorem flat_put {y : Nd} {t : Value} : ∀ {es : List (Nd × Value)} {i : Nat}, i < es.length →
    (((((flat es).set (i * 5) (.int .u8 y.kind)).set (i * 5 + 1) (.int .i32 y.rune)).set (i * 5 + 2) (.int .u32 y.plus)).set (i * 5 + 3) (.int .u32 y.minus)).set (i * 5 + 4) t = flat (es.set i (y, t))
  | [], i, h => by simp at h
  | e :: es, 0, h => rfl
  | e :: es, i + 1, h => by
    have key : ∀ (r : List Value) (j : Nat) (a : Value), (ndCells e.1 e.2 ++ r).set ((i + 1) * 5 + j) a = ndCells e.1 e.2 ++ r.set (i * 5 + j) a := by
      intro r j a
      rw [List.set_append_right _ _ (by simp only [ndCells, List.length_cons, List.length_nil]; omega)]
      congr 2
      simp only [ndCells, List.length_cons, List.length_nil]
      omega
    have k0 : ∀ (r : List Value) (a : Value), (ndCells e.1 e.2 ++ r).set ((i + 1) * 5) a = ndCells e.1 e.2 ++ r.set (i * 5) a := fun r a => key r 0 a
    rw [flat_cons, k0, key, key, key, key, flat_put (es := es) (i := i) (by simpa using h)]
    rfl
/-- A node written over whole. -/
theorem Nodes.node_set {w : World} {lo : Nat} {v : Value} {es : List (Nd × Value)} (h : Nodes w lo v es) {i : Nat} (hi : i < es.length) {g : Nat} (hg : v.ownBlock = some g) (y : Nd) (hy : y.kids = []) (hk : kinNd y) :
    Nodes (((((w.setCell ⟨g, i * 5, none⟩ (.int .u8 y.kind)).setCell ⟨g, i * 5 + 1, none⟩ (.int .i32 y.rune)).setCell ⟨g, i * 5 + 2, none⟩ (.int .u32 y.plus)).setCell ⟨g, i * 5 + 3, none⟩ (.int .u32 y.minus)).setCell ⟨g, i * 5 + 4, none⟩ (.slice none 0 0)) lo v (es.set i (y, .slice none 0 0)) := by
  have hold : ∀ (j : Nat) (z : Nd) (t : Value), (es.set i (y, .slice none 0 0))[j]? = some (z, t) → (j ≠ i ∧ es[j]? = some (z, t)) ∨ (j = i ∧ z = y ∧ t = .slice none 0 0) := by
    intro j z t hj
    rw [List.getElem?_set] at hj
    by_cases e : i = j
    · subst e
      simp only [if_true, hi, Option.some.injEq, Prod.mk.injEq] at hj
      exact .inr ⟨rfl, hj.1.symm, hj.2.symm⟩
    · rw [if_neg e] at hj
      exact .inl ⟨fun e2 => e e2.symm, hj⟩
  have hout : ∀ b, b ≠ g → (((((w.setCell ⟨g, i * 5, none⟩ (.int .u8 y.kind)).setCell ⟨g, i * 5 + 1, none⟩ (.int .i32 y.rune)).setCell ⟨g, i * 5 + 2, none⟩ (.int .u32 y.plus)).setCell ⟨g, i * 5 + 3, none⟩ (.int .u32 y.minus)).setCell ⟨g, i * 5 + 4, none⟩ (.slice none 0 0)).heap[b]? = w.heap[b]? := by
    intro b hb
    rw [Below.heap_setCell _ _ _ b hb, Below.heap_setCell _ _ _ b hb, Below.heap_setCell _ _ _ b hb, Below.heap_setCell _ _ _ b hb, Below.heap_setCell _ _ _ b hb]
  have hnone : ∀ b, (Value.slice none 0 0).ownBlock ≠ some b := fun b => by simp [Value.ownBlock]
  refine ⟨?_, fun j z t hj => ?_, fun j z t b hj hb => ?_, fun j l z t x s b hj hl hbt hbs => ?_⟩
  · have hf := flat_put (y := y) (t := .slice none 0 0) hi
    have hl : (flat es).length = es.length * 5 := flat_length es
    rw [List.length_set, ← hf]
    exact own_set (own_set (own_set (own_set (own_set h.row hg (by omega) _) hg (by simp only [List.length_set]; omega) _) hg (by simp only [List.length_set]; omega) _) hg (by simp only [List.length_set]; omega) _) hg (by simp only [List.length_set]; omega) _
  · rcases hold j z t hj with ⟨hne, hj⟩ | ⟨rfl, rfl, rfl⟩
    · exact ⟨own_same (h.kid j z t hj).1 fun b hb => hout b (fun e => h.far j z t b hj hb (by rw [hg, e])), (h.kid j z t hj).2⟩
    · rw [hy]
      exact ⟨World.ownsRow_nil _ _ _ _, hk⟩
  · rcases hold j z t hj with ⟨hne, hj⟩ | ⟨rfl, rfl, rfl⟩
    · exact h.far j z t b hj hb
    · exact absurd hb (hnone b)
  · rcases hold j z t hj with ⟨hne, pj⟩ | ⟨rfl, rfl, rfl⟩
    · rcases hold l x s hl with ⟨hne2, pl⟩ | ⟨rfl, rfl, rfl⟩
      · exact h.apart j l z t x s b pj pl hbt hbs
      · exact absurd hbs (hnone b)
    · exact absurd hbt (hnone b)
end Go.Proofs.YtimhlnndobfehaaDoor
namespace Go.Proofs.YtimhlnndobfehaaDoor
open Go.RowKit
set_option linter.unusedVariables false

def SpoilSt (w : World) (lo hi n g c : Nat) (es : List (Nd × Value)) (wr : World) : Prop :=
  Row wr w.heap.size 28 [.slice (some ⟨g, 0, none⟩) n c] ∧ Nodes wr lo (.slice (some ⟨g, 0, none⟩) n c) es ∧ es.length = n ∧ Fr (fun b => lo ≤ b ∧ b < hi) w wr ∧ ∀ (i : Nat) (x : Nd) (t : Value) (b : Nat), es[i]? = some (x, t) → t.ownBlock = some b → b < hi
theorem set_some {α β : Type} {es : List (α × β)} {i j : Nat} {x x' : α} {u t : β} (h : (es.set i (x', u))[j]? = some (x, t)) : (∃ y, es[j]? = some (y, t)) ∨ t = u := by
  rw [List.getElem?_set] at h
  split at h
  · split at h
    · simp only [Option.some.injEq, Prod.mk.injEq] at h
      exact .inr h.2.symm
    · cases h
  · exact .inl ⟨x, h⟩

end Go.Proofs.YtimhlnndobfehaaDoor
namespace Go.Proofs.YtimhlnndobfehaaDoor
open Go.RowKit
set_option linter.unusedVariables false

def TwinSt (w : World) (A : Option Addr) (c : Nat) (ns : List Nd) (k : Nat) (wr : World) : Prop :=
  ∃ v es, Row wr w.heap.size 28 [.slice A ns.length c] ∧ Row wr (w.heap.size + 1) 28 [.slice none 0 0] ∧ Row wr (w.heap.size + 2) 28 [v] ∧ Nodes wr w.heap.size v es ∧ es.map Prod.fst = ns.take k ∧ Below w.heap.size w wr

set_option maxHeartbeats 4000000 in
theorem plong_any (A : Option Addr) (c lo hi : Nat) (ls : List (List Nd)) (w : World) (hm : ls.length ≤ 9223372036854775807) (hhi : hi ≤ w.heap.size) (hsl : Sl 1 vPat w lo hi A ls) :
    Calls Tryd.prog 11 #[.slice A ls.length c] w fun e w' => ∃ b, e = .returned (.bool b) ∧ w = w' ∧ (b = false → ls.length ≤ 300 ∧ ∀ l ∈ ls, l.length ≤ 2000) := by
  by_cases hbig : 300 < ls.length
  · go_enter Tryd.func11, Tryd.ntmps11
    go_wp2_with fail
    go_ret
    exact ⟨true, rfl, rfl, fun h => nomatch h⟩
  · go_enter Tryd.func11, Tryd.ntmps11
    go_wp2_with fail
    go_loopw [3, 4] (fun m i wr => ∃ k N : Nat, k ≤ ls.length ∧ i = .int .i64 k ∧ m = .int .i64 N ∧ N ≤ 2000 * k ∧ Hid (∀ l ∈ ls.take k, l.length ≤ 2000) ∧ wr = w) (fun _ i _ => ls.length - (intOf i).toNat)
    case atStart => exact ⟨0, 0, by omega, rfl, rfl, by omega, by show ∀ _ ∈ _, _; simp, rfl⟩
    case round =>
      obtain ⟨k, N, hk, rfl, rfl, hN, hall, rfl⟩ := hrel
      by_cases hlt : k < ls.length
      · obtain ⟨b, off, B, cc, rfl, _, hb, ⟨c0, f0⟩, hkl, hkc, hks⟩ := pat_at hsl hlt
        have hstep : Hid (ls[k].length ≤ 2000 → ∀ l ∈ ls.take (k + 1), l.length ≤ 2000) := by
          intro h l hl
          rw [List.take_succ_eq_append_getElem hlt, List.mem_append] at hl
          rcases hl with hl | hl
          · exact hall.out l hl
          · rw [List.mem_singleton.1 hl]; exact h
        generalize ls[k] = x at *
        have hxm : x.length ≤ 9223372036854775807 := by unfold maxLen at hkc; omega
        by_cases hx : 2000 < x.length
        · go_wp2_with fail
          go_ret
          exact ⟨true, rfl, rfl, fun h => nomatch h⟩
        · have hall2 := Lib.hid (hstep.out (by omega))
          clear hall hstep
          go_wp2_with fail
          exact ⟨⟨k + 1, N + x.length, by omega, by go_num, by go_num, by omega, hall2, trivial⟩, by simp [intOf]; omega⟩
      · obtain rfl : k = ls.length := by omega
        have hfin : Hid (∀ l ∈ ls, l.length ≤ 2000) := by
          have := hall.out
          rwa [List.take_length] at this
        clear hall
        go_wp2_with fail
        go_ret
        exact ⟨decide _, rfl, rfl, fun _ => ⟨by omega, hfin.out⟩⟩
end Go.Proofs.YtimhlnndobfehaaDoor
