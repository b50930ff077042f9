/- strings.Builder: copyCheck, WriteString, by walks; what else stands beside the builder stays. Letters' numbers; the letters of a text. Plain Lean. word.ranks; the document's Number. Widths of runes. Plain Lean. -/
import Derived.Test.YtimhlnndobfehaaDoorMc01
import Derived.Test.YtimhlnndobfehaaDoorChecked
import Derived.Lib.Builder
import Derived.Lib.AppendStr
import Derived.Lib.UnsafeStr
import Derived.Lib.OthersKept
import Derived.Test.YtimhlnndobfehaaDoorMc06
import Derived.Test.YtimhlnndobfehaaDoorMc05
import Derived.Test.YtimhlnndobfehaaDoorMc11
import Derived.Lib.Small
namespace Go.Proofs.YtimhlnndobfehaaDoor
open Go.RowKit
set_option linter.unusedVariables false

theorem bld_size : (Tryd.prog.info? 72).map (·.size) = some 2 := by kernel_rfl
theorem bld_lies : liesAt Tryd.prog Tryd.prog.depth 72 (2 / Tryd.prog.cellsOf 72) 0 72 1 = true := by kernel_rfl
theorem bld_byte : (Tryd.prog.info? 5).map (fun i => (i.zero, i.size, i.bytes)) = some (some (.int .u8 0), 1, 1) := by kernel_rfl

/-- A builder of the call's own in block b, from block B on, that holds the bytes l. -/
def Bld (B b : Nat) (l : List UInt8) (w : World) : Prop := Lib.IsBuilder 72 5 B b (Lib.byteCells l) w
/-- All blocks but b and rows of bytes stand as they stood. -/
def Oth (b : Nat) (w w' : World) : Prop := Lib.OthersKept 5 (some b) w w'

set_option maxHeartbeats 1000000 in
set_option maxRecDepth 100000 in
theorem copyCheck_used (b : Nat) (w : World) (h0 : w.cell? ⟨b, 0, none⟩ = some (.pointer (some ⟨b, 0, none⟩))) :
    Calls Tryd.prog 63 #[.pointer (some ⟨b, 0, none⟩)] w fun e w' => e = .returned (.tuple #[]) ∧ w = w' := by
  obtain ⟨j, hj, _⟩ := Option.map_eq_some_iff.1 bld_size
  go_enter Tryd.func63, Tryd.ntmps63
  go_wp2
  rw [Lib.run_neq_ptr_same w _ Tryd.underlying69 hj]
  go_wp2
  go_end0
  exact ⟨rfl, rfl⟩

set_option maxHeartbeats 1000000 in
set_option maxRecDepth 100000 in
theorem copyCheck_fresh (b : Nat) (w : World) (h0 : w.cell? ⟨b, 0, none⟩ = some (.pointer none)) (hsh : w.shape? b = some (72, 2)) (hfz : w.frozen? ⟨b, 0, none⟩ = false) :
    Calls Tryd.prog 63 #[.pointer (some ⟨b, 0, none⟩)] w fun e w' => e = .returned (.tuple #[]) ∧ w' = w.setCell ⟨b, 0, none⟩ (.pointer (some ⟨b, 0, none⟩)) := by
  obtain ⟨j, hj, hjs⟩ := Option.map_eq_some_iff.1 bld_size
  go_enter Tryd.func63, Tryd.ntmps63
  go_wp2
  rw [Lib.run_to_unsafe w ⟨b, 0, none⟩ Tryd.underlying69 Tryd.underlying136 hj (by rw [hjs]; decide) hsh (Nat.zero_lt_succ 1)]
  simp only [Result.andThen]
  rw [Oper.upon_value]
  go_wp2
  rw [run_callFunc_extern Tryd.func81 (by kernel_rfl) (by kernel_rfl) (by kernel_rfl) (e := Extern.AbiNoEscape.same) (by kernel_rfl)]
  rw [Lib.run_noEscape]
  simp only [Result.andThen]
  rw [Oper.upon_value]
  go_wp2
  rw [Lib.run_from_unsafe w ⟨b, 0, none⟩ Tryd.underlying136 Tryd.underlying69 hj hsh bld_lies]
  simp only [Result.andThen]
  rw [Oper.upon_value]
  go_wp2
  go_end0
  exact ⟨rfl, rfl⟩

theorem copyCheck_any (B b : Nat) (bs : List Value) (w : World) (h : Lib.IsBuilder 72 5 B b bs w) :
    Calls Tryd.prog 63 #[.pointer (some ⟨b, 0, none⟩)] w fun e w' => e = .returned (.tuple #[]) ∧ Lib.BuilderAt 72 5 B b (.pointer (some ⟨b, 0, none⟩)) bs w' ∧ Below B w w' ∧ Oth b w w' := by
  rcases h with h | h
  · refine (copyCheck_fresh b w h.cell0 h.shape h.frozen0).mono ?_
    rintro e w' ⟨rfl, rfl⟩
    exact ⟨rfl, h.used _, (Below.refl B w).setCell (p := ⟨b, 0, none⟩) h.1 _, (Lib.OthersKept.refl _ (some b) w).setCell ⟨b, 0, none⟩ rfl _⟩
  · refine (copyCheck_used b w h.cell0).mono ?_
    rintro e w' ⟨rfl, rfl⟩
    exact ⟨rfl, h, Below.refl B _, Lib.OthersKept.refl _ _ _⟩

theorem own_kind {w : World} {B : Nat} {e : TypeId} {v : Value} {n : Nat} {xs : List Value} (h : w.ownsRow B e 1 v n xs) : ∀ g, v.ownBlock = some g → ∃ c fz, w.heap[g]? = some (.cells c e fz) := by
  intro g hg
  rcases h.2 with ⟨rfl, _⟩ | ⟨g', cap, cur, rfl, _, hgg, _⟩
  · simp [Value.ownBlock] at hg
  · simp [Value.ownBlock] at hg
    subst hg
    exact ⟨cur, _, hgg⟩

set_option maxHeartbeats 1000000 in
set_option maxRecDepth 100000 in
theorem WriteString_any (B b : Nat) (l : List UInt8) (s : ByteArray) (w : World) (h : Bld B b l w) (hlen : l.length + s.size ≤ 140737488355328) (hBw : B ≤ w.heap.size) :
    Calls Tryd.prog 41 #[.pointer (some ⟨b, 0, none⟩), .string s] w fun e w' => e = .returned (.tuple #[.int .i64 s.size, .nilIface]) ∧ Bld B b (l ++ s.data.toList) w' ∧ Below B w w' ∧ Oth b w w' := by
  obtain ⟨i0, hi, hz0, hz1, hz2⟩ := info_parts bld_byte
  have hlen' : (Lib.byteCells l).length + s.size ≤ 140737488355328 := by rw [Lib.byteCells_length]; exact hlen
  go_enter Tryd.func41, Tryd.ntmps41
  go_wp2_with (go_at_call 63; refine (copyCheck_any B b (Lib.byteCells l) _ h).mono ?_)
  rintro e w1 ⟨rfl, h1, hb1, hk1⟩
  obtain ⟨hB, v, hbk, hown, hne⟩ := h1
  have c0 : w1.cell? ⟨b, 0, none⟩ = some (.pointer (some ⟨b, 0, none⟩)) := by rw [Lib.cell_of_heap hbk]; rfl
  have c1 : w1.cell? ⟨b, 1, none⟩ = some v := by rw [Lib.cell_of_heap hbk]; rfl
  go_wp2_with (at_builtin; refine Lib.wpList_append_own_string _ rfl _ _ 70 9 rfl B 5 i0 Tryd.underlying70 Tryd.underlying9 hi hz0 hz1 hz2 _ _ _ rfl hown s rfl ?c3 ?c4 ?c5 ?_)
  case c3 => unfold maxLen; omega
  case c4 => omega
  case c5 => have := hb1.size; omega
  intro v' w2 hown' hgrow _
  have hlt : b < w1.heap.size := by
    rcases Nat.lt_or_ge b w1.heap.size with h' | h'
    · exact h'
    · simp [Array.getElem?_eq_none h'] at hbk
  have hb2 : w2.heap[b]? = some (.cells #[.pointer (some ⟨b, 0, none⟩), v] 72 (0, 0)) := by
    rw [hgrow.block b hlt (fun e => hne e.symm)]
    exact hbk
  have d0 : w2.cell? ⟨b, 0, none⟩ = some (.pointer (some ⟨b, 0, none⟩)) := by rw [Lib.cell_of_heap hb2]; rfl
  have d1 : w2.cell? ⟨b, 1, none⟩ = some v := by rw [Lib.cell_of_heap hb2]; rfl
  have f1 : w2.frozen? ⟨b, 1, none⟩ = false := Lib.frozen_of_heap hb2 1
  obtain ⟨ao, n', cap, rfl⟩ : ∃ ao n' cap, v' = .slice ao n' cap := by
    rcases hown'.2 with ⟨hv, _⟩ | ⟨g, cap, cur, hv, _⟩
    · exact ⟨_, _, _, hv⟩
    · exact ⟨_, _, _, hv⟩
  go_wp2
  go_ret2
  refine ⟨rfl, ?_, ?_, (hk1.grown hgrow (own_kind hown)).setCell ⟨b, 1, none⟩ rfl _⟩
  · refine Or.inr ?_
    rw [Lib.byteCells_append, ← Lib.strCells_eq]
    exact Lib.BuilderAt.put (T := 72) (e := 5) hB hb2 (bs' := Lib.byteCells l ++ Lib.strCells s) (by simpa [Lib.strCells_length] using hown') (by decide)
  · exact (hb1.grown hgrow (by have := hb1.size; omega) (fun k hk => (hown.lt k hk).1)).setCell (p := ⟨b, 1, none⟩) hB _
end Go.Proofs.YtimhlnndobfehaaDoor
namespace Go.Proofs.YtimhlnndobfehaaDoor
open Go.Lib
set_option linter.unusedVariables false

noncomputable def rankF (l : List Lt) : Nat → Lit → Option Int
  | 0 => fun _ => none
  | k + 1 => setAt (rankF l k) (.int .i32 ((l[k]?.map (·.rune)).getD 0)) (some (k : Int))
def numI (a : Al) (r : Int) : Int := match num a r with | some i => i | none => -1

theorem numF_none : ∀ (l : List Lt) (i : Nat) (r : Int), numF l i r = none ↔ ∀ x ∈ l, x.rune ≠ r
  | [], i, r => by simp [numF]
  | x :: l, i, r => by
    unfold numF
    by_cases h : x.rune = r
    · rw [if_pos h]
      simp [h]
    · rw [if_neg h, numF_none l (i + 1) r]
      simp [h]
theorem numF_some : ∀ (l : List Lt) (i k : Nat) (r : Int) (hk : k < l.length), l[k].rune = r → (∀ j (hj : j < k), l[j].rune ≠ r) → numF l i r = some (i + k)
  | [], i, k, r, hk, _, _ => by simp at hk
  | x :: l, i, 0, r, hk, h, _ => by
    unfold numF
    rw [if_pos (show x.rune = r from h), Nat.add_zero]
  | x :: l, i, k + 1, r, hk, h, hn => by
    unfold numF
    rw [if_neg (show ¬ x.rune = r from hn 0 (by omega)), numF_some l (i + 1) k r (by simpa using hk) (by simpa using h) (fun j hj => by simpa using hn (j + 1) (by omega))]
    congr 1
    omega
theorem letsOk_distinct (n : Nat) : ∀ (l : List Lt) (seen : List Int), letsOk n seen l = true → (∀ x ∈ l, x.rune ∉ seen) ∧ l.Pairwise (fun x y => x.rune ≠ y.rune)
  | [], seen, _ => ⟨by simp, List.Pairwise.nil⟩
  | x :: l, seen, h => by
    unfold letsOk at h
    simp only [Bool.and_eq_true, Bool.not_eq_true', decide_eq_false_iff_not] at h
    obtain ⟨⟨⟨_, h1⟩, _⟩, h2⟩ := h
    obtain ⟨h3, h4⟩ := letsOk_distinct n l _ h2
    refine ⟨fun y hy => ?_, List.Pairwise.cons (fun y hy e => ?_) h4⟩
    · rcases List.mem_cons.1 hy with rfl | hy
      · exact h1
      · exact fun hs => h3 y hy (List.mem_cons_of_mem _ hs)
    · exact h3 y hy (by rw [← e]; exact List.mem_cons_self ..)
theorem alOk_distinct {a : Al} (h : alOk a = true) : a.lets.Pairwise (fun x y => x.rune ≠ y.rune) := by
  unfold alOk at h
  simp only [Bool.and_eq_true] at h
  exact (letsOk_distinct _ _ _ h.2).2
theorem alOk_size {a : Al} (h : alOk a = true) : a.feats.length ≤ 24 ∧ 1 ≤ a.lets.length ∧ a.lets.length ≤ 128 := by
  unfold alOk at h
  simp only [Bool.and_eq_true, decide_eq_true_eq] at h
  exact ⟨h.1.1.1.1, h.1.1.1.2, h.1.1.2⟩
theorem alE_zero {a : Al} : alE a = 0 ↔ alOk a = true := by
  unfold alE
  cases alOk a <;> simp
/-- Of letters that are all unlike the map of ranks is their number. -/
theorem rank_at (l : List Lt) (hd : l.Pairwise (fun x y => x.rune ≠ y.rune)) (r : Int) : ∀ k, k ≤ l.length → rankF l k (.int .i32 r) = Option.map (fun i : Nat => (i : Int)) (numF (l.take k) 0 r)
  | 0, _ => rfl
  | k + 1, hk => by
    have hlt : k < l.length := by omega
    have ih := rank_at l hd r k (by omega)
    unfold rankF setAt
    rw [List.getElem?_eq_getElem hlt, Option.map_some, Option.getD_some]
    by_cases h : l[k].rune = r
    · rw [if_pos (by rw [h])]
      rw [numF_some (l.take (k + 1)) 0 k r (by rw [List.length_take]; omega) (by rw [List.getElem_take]; exact h) (fun j hj e => ?_)]
      · simp
      · rw [List.getElem_take] at e
        exact List.pairwise_iff_getElem.1 hd j k (by omega) hlt hj (by rw [e, h])
    · rw [if_neg (by intro e; injection e with _ e; exact h e.symm), ih]
      have e : l.take (k + 1) = l.take k ++ [l[k]] := List.take_succ_eq_append_getElem hlt
      congr 1
      rw [e]
      have key : ∀ (m : List Lt) (i : Nat), numF (m ++ [l[k]]) i r = numF m i r := by
        intro m
        induction m with
        | nil =>
          intro i
          simp [numF, h]
        | cons x m ih =>
          intro i
          rw [List.cons_append]
          unfold numF
          rw [ih]
      rw [key]
theorem rank_num (a : Al) (h : alOk a = true) (r : Int) : rankF a.lets a.lets.length (.int .i32 r) = Option.map (fun i : Nat => (i : Int)) (num a r) := by
  rw [rank_at a.lets (alOk_distinct h) r _ (Nat.le_refl _), List.take_length]
  rfl

/-! ### a text longer than is read -/
theorem decode_cut (s : ByteArray) (b i : Nat) (hb : b ≤ s.size) (hi : i < b) (hw : i + (Utf8.decode s i).2 ≤ b) : Utf8.decode (s.extract 0 b) i = Utf8.decode s i := by
  have := decode_extract s 0 b i hb (by omega) (by rw [Nat.zero_add]; exact hw)
  rwa [Nat.zero_add] at this
theorem pcs_cut (s : ByteArray) (b : Nat) (hb : b ≤ s.size) (k : Nat) : ∀ i : Nat, i + 4 * k ≤ b → (pcsFrom (s.extract 0 b) i).take k = (pcsFrom s i).take k := by
  induction k with
  | zero => intro i _; rw [List.take_zero, List.take_zero]
  | succ k ih =>
    intro i h
    have hi : i < s.size := by omega
    have hw := decode_width s i hi
    have hx : i < (s.extract 0 b).size := by rw [ByteArray.size_extract]; omega
    have hd := decode_cut s b i hb (by omega) (by omega)
    have ih2 := ih (i + (Utf8.decode s i).2) (by omega)
    have hp : pcAt (s.extract 0 b) i = pcAt s i := by
      unfold pcAt
      rw [hd]
    have e1 := pcsFrom_step (s.extract 0 b) i hx
    rw [hd, hp] at e1
    rw [e1, pcsFrom_step s i hi, List.take_succ_cons, List.take_succ_cons, ih2]
theorem pcs_many (s : ByteArray) : ∀ (f i : Nat), s.size - i ≤ f → i ≤ s.size → s.size - i ≤ 4 * (pcsFrom s i).length
  | 0, i, h, _ => by omega
  | f + 1, i, h, hi => by
    by_cases hlt : i < s.size
    · have hw := decode_width s i hlt
      have := pcs_many s f (i + (Utf8.decode s i).2) (by omega) (by omega)
      rw [pcsFrom_step s i hlt, List.length_cons]
      omega
    · omega
theorem readP_take (isL : Int → Bool) (most : Nat) : ∀ (l : List Pc) (acc : List Int) (k : Nat), acc.length ≤ most → most - acc.length < k → k ≤ l.length → readP isL most l acc = readP isL most (l.take k) acc
  | [], acc, k, h1, h2, h3 => by simp at h3; omega
  | p :: l, acc, k, h1, h2, h3 => by
    obtain ⟨k, rfl⟩ : ∃ j, k = j + 1 := ⟨k - 1, by omega⟩
    rw [List.take_succ_cons]
    unfold readP
    split
    · rfl
    · split
      · rfl
      · split
        · rfl
        · rename_i h
          exact readP_take isL most l _ k (by rw [List.length_append]; simp; omega) (by rw [List.length_append]; simp; omega) (by simpa using h3)
theorem readS_cut (a : Al) (w : ByteArray) (h : 65536 < w.size) : readS a w = readS a (w.extract 0 65536) := by
  unfold readS
  have h1 := pcs_many w _ 0 (Nat.le_refl _) (by omega)
  have h2 := pcs_many (w.extract 0 65536) _ 0 (Nat.le_refl _) (by omega)
  have hz : (w.extract 0 65536).size = 65536 := by rw [ByteArray.size_extract]; omega
  rw [readP_take (isLet a) 64 (pcs w) [] 65 (by simp) (by simp) (by unfold pcs; omega), readP_take (isLet a) 64 (pcs (w.extract 0 65536)) [] 65 (by simp) (by simp) (by unfold pcs; omega)]
  unfold pcs
  rw [pcs_cut w 65536 (by omega) 65 0 (by omega)]
end Go.Proofs.YtimhlnndobfehaaDoor
namespace Go.Proofs.YtimhlnndobfehaaDoor
open Go.RowKit
set_option linter.unusedVariables false

theorem zero_int (w : World) : (zeroValue 3).run Tryd.prog w = .ok (.int .i64 0) w := by kernel_rfl
theorem run_makeMap_hint {P : Program} (t k e : TypeId) (ht : P.underlying t = some (.map k e)) (n : Nat) (w : World) : (Instr.makeMap t (some (.int .i64 (n : Int)))).run P w = .ok (.map (some w.heap.size)) (w.alloc (.map #[] 0)) := by
  simp [Instr.makeMap, run_underlying ht, asInt, asIntOf]

def RankSt (a : Al) (w : World) (v1 v2 : Value) (bm : Nat) (i : Value) (wr : World) : Prop :=
  ∃ k : Nat, k ≤ a.lets.length ∧ i = .int .i64 (k : Int) ∧ MapI Tryd.prog 21 3 .i64 wr bm k (rankF a.lets k) ∧ w.heap.size ≤ bm ∧ Below w.heap.size w wr
/-- The ranks of an alphabet's letters, in a map of the call's own; or the error. -/
def RanksOut (a : Al) (w : World) (e : Ending) (w' : World) : Prop :=
  (alOk a = false ∧ e = .returned (.tuple #[.map none, .int .i64 7]) ∧ Below w.heap.size w w') ∨
    (alOk a = true ∧ ∃ bm n, e = .returned (.tuple #[.map (some bm), .int .i64 0]) ∧ MapI Tryd.prog 21 3 .i64 w' bm n (rankF a.lets a.lets.length) ∧ w.heap.size ≤ bm ∧ Below w.heap.size w w')

set_option maxHeartbeats 4000000 in
set_option maxRecDepth 100000 in
theorem ranks_any (A1 A2 : Option Addr) (c1 c2 lo : Nat) (a : Al) (w : World) (hin : AlIn w lo w.heap.size A1 A2 a) :
    Calls Tryd.prog 79 #[.agg #[.slice A1 a.feats.length c1, .slice A2 a.lets.length c2]] w (RanksOut a w) := by
  have hn1 := hin.n1
  have hn2 := hin.n2
  have hal : Below w.heap.size w (w.alloc (.cells #[.slice A1 a.feats.length c1, .slice A2 a.lets.length c2] 25)) := (Below.refl _ _).alloc (Nat.le_refl _) _
  have hr0 := Row.new w 25 [.slice A1 a.feats.length c1, .slice A2 a.lets.length c2]
  have hcall := Lib.hid (check_any A1 A2 c1 c2 lo a _ (hin.on hal))
  cases hok : alOk a with
  | false =>
    have he : alE a = 7 := by unfold alE; rw [hok]; rfl
    rw [he] at hcall
    have HF := Lib.hid hok
    clear hok he
    go_enter Tryd.func79, Tryd.ntmps79
    go_wp2_with fail
    refine hcall.out.mono ?_
    rintro e w1 ⟨rfl, hb1⟩
    go_wp2_with fail
    go_ret2
    exact .inl ⟨HF.out, rfl, hal.trans (hb1.mono (by simp))⟩
  | true =>
    have he : alE a = 0 := alE_zero.2 hok
    rw [he] at hcall
    have hmm := fun (n : Nat) w => run_makeMap_hint (P := Tryd.prog) 132 21 3 Tryd.underlying132 n w
    have hsz := alOk_size hok
    have HF := Lib.hid hok
    clear hok he
    go_enter Tryd.func79, Tryd.ntmps79
    go_wp2_with fail
    refine hcall.out.mono ?_
    rintro e w1 ⟨rfl, hb1⟩
    have hr1 := hr0.below hb1 hr0.lt
    have hbw1 := hal.trans (hb1.mono (by simp))
    have hz1 := hbw1.size
    have hl1 := hr1.lt
    obtain ⟨q1, f1⟩ := hr1.cel (i := 1) rfl
    have hst : RankSt a w (.slice A1 a.feats.length c1) (.slice A2 a.lets.length c2) w1.heap.size (.int .i64 0) (w1.alloc (.map #[] 0)) := ⟨0, by omega, rfl, MapI.made _ _ _ _ _, hz1, hbw1.alloc hz1 _⟩
    have HST := Lib.hid hst
    clear hst hcall hb1
    go_wp2_with fail
    generalize w1.heap.size = bm at *
    go_loopw [20] (fun i wr => RankSt a w (.slice A1 a.feats.length c1) (.slice A2 a.lets.length c2) bm i wr) (fun i _ => a.lets.length - (intOf i).toNat)
    case atStart => exact HST.out
    case round =>
      clear HST q1 f1 hr1 hr0 hbw1 hal
      obtain ⟨k, hk, rfl, hmap, hbm, hb⟩ := hrel
      have hbs := hb.size
      by_cases hlt : k < a.lets.length
      · obtain ⟨b, off, rfl, _, hbb, ⟨x0, y0⟩, ⟨x1, y1⟩, ⟨x2, y2⟩, hrr, hpp, hmm'⟩ := lt_at (hin.l.below vLt_good hb (Nat.le_refl _)) hlt
        have hkey := key_rune hrr
        have hnext : rankF a.lets (k + 1) = setAt (rankF a.lets k) (.int .i32 a.lets[k].rune) (some (k : Int)) := by
          show setAt _ _ _ = _
          rw [List.getElem?_eq_getElem hlt]
          rfl
        generalize a.lets[k] = l at *
        have HK := Lib.hid hkey
        have HN := Lib.hid hnext
        clear hkey hnext
        have hal1 : Below wr.heap.size wr (wr.alloc (.cells #[.int .i32 l.rune, .int .u32 (l.plus : Int), .int .u32 (l.minus : Int)] 89)) := (Below.refl _ _).alloc (Nat.le_refl _) _
        have hmap1 := hmap.below hal1 hmap.lt
        have hb1 := hb.trans (hal1.mono hbs)
        go_wp2_with (at_mapUpdate; refine wpList_update_mapI (by rfl) _ _ _ 132 rfl 21 3 .i64 (Maps.int_keyed Tryd.underlying21) Tryd.underlying132 Tryd.underlying3 bm k (rankF a.lets k) rfl hmap1 (by unfold maxLen; omega) _ (k : Int) (by simp [Lit.wf, IntKind.min, IntKind.max, IntKind.signed, IntKind.bits]; omega) _ rfl rfl HK.out trivial ?_)
        intro w3 hmap3 hgr3
        rw [← HN.out] at hmap3
        have hb3 := hb1.grown hgr3 hb1.size (fun j hj => by simp only [Option.some.injEq] at hj; omega)
        clear hgr3 hmap1 hmap hb1 x0 y0 x1 y1 x2 y2 hal1
        go_wp2_with fail
        exact ⟨⟨k + 1, by omega, by go_num, hmap3, hbm, hb3⟩, by simp [intOf]; omega⟩
      · obtain rfl : k = a.lets.length := by omega
        have HM := Lib.hid hmap
        clear hmap
        go_wp2_with fail
        go_ret2
        exact .inr ⟨HF.out, bm, _, rfl, HM.out, hbm, hb⟩

def NumSt (a : Al) (r : Int) (w : World) (i : Value) (wr : World) : Prop := ∃ k : Nat, k ≤ a.lets.length ∧ i = .int .i64 (k : Int) ∧ (∀ j (hj : j < k) (hl : j < a.lets.length), a.lets[j].rune ≠ r)
theorem numI_none {a : Al} {r : Int} (h : ∀ j (hl : j < a.lets.length), a.lets[j].rune ≠ r) : numI a r = -1 := by
  unfold numI num
  rw [(numF_none a.lets 0 r).2 fun x hx => by
    obtain ⟨j, hj, rfl⟩ := List.getElem_of_mem hx
    exact h j hj]
theorem numI_some {a : Al} {r : Int} {k : Nat} (hk : k < a.lets.length) (he : a.lets[k].rune = r) (h : ∀ j (hj : j < k) (hl : j < a.lets.length), a.lets[j].rune ≠ r) : numI a r = k := by
  unfold numI num
  rw [numF_some a.lets 0 k r hk he (fun j hj => h j hj (by omega))]
  simp
end Go.Proofs.YtimhlnndobfehaaDoor
namespace Go.Proofs.YtimhlnndobfehaaDoor
open Go.Lib
set_option linter.unusedVariables false

theorem decodeN_len (n b0 b1 b2 b3 : Nat) (h0 : b0 < 256) (h1 : b1 < 256) (h2 : b2 < 256) (h3 : b3 < 256) : ((decodeN n b0 b1 b2 b3).2 : Int) = runeLen ((decodeN n b0 b1 b2 b3).1 : Int) ∨ decodeN n b0 b1 b2 b3 = (65533, 1) := by
  unfold decodeN
  repeat' split
  all_goals first
    | (right; rfl)
    | (left; simp only; unfold runeLen; repeat' split; all_goals omega)
theorem decode_len (s : ByteArray) (i : Nat) : ((Utf8.decode s i).2 : Int) = runeLen ((Utf8.decode s i).1 : Int) ∨ Utf8.decode s i = (65533, 1) := by
  rw [decode_bt]
  exact decodeN_len _ _ _ _ _ (bt_lt _ _) (bt_lt _ _) (bt_lt _ _) (bt_lt _ _)
theorem decode_tail (s : ByteArray) (i : Nat) (h : i < s.size) : Utf8.decode (s.extract i s.size) 0 = Utf8.decode s i := by
  have hw := decode_width s i h
  have := decode_extract s i s.size 0 (Nat.le_refl _) (by omega) (by simpa using hw.2.1)
  simpa using this
end Go.Proofs.YtimhlnndobfehaaDoor
