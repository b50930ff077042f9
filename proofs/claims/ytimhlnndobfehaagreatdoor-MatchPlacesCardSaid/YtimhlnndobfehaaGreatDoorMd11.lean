/- Letters' numbers; the letters of a text. Plain Lean. word.ranks; the document's Number. Widths of runes. Plain Lean. Pieces of texts in memory. The program's each: a function value is called with each piece of a text, until it says no. -/
import Derived.Test.YtimhlnndobfehaaGreatDoorMd04
import Derived.Test.YtimhlnndobfehaaGreatDoorMd03
import Derived.Test.YtimhlnndobfehaaGreatDoorMd07
import Derived.Lib.Small
import Derived.Test.YtimhlnndobfehaaGreatDoorChecked
import Derived.Lib.RuneBytes
import Derived.Laws.IdiomStrings
import Derived.Laws.BytesArg
import Derived.Test.YtimhlnndobfehaaGreatDoorShelf
import Derived.Lib.OthersKept
namespace Go.Proofs.YtimhlnndobfehaaGreatDoor
open Go.Lib
set_option linter.unusedVariables false

noncomputable def rankF (l : List Lt) : Nat → Lit → Option Int
  | 0 => fun _ => none
  | k + 1 => setAt (rankF l k) (.int .i32 ((l[k]?.map (·.rune)).getD 0)) (some (k : Int))
def numI (a : Al) (r : Int) : Int := match num a r with | some i => i | none => -1

theorem numF_none : ∀ (l : List Lt) (i : Nat) (r : Int), numF l i r = none ↔ ∀ x ∈ l, x.rune ≠ r
  | [], i, r => by simp [numF]
  | x :: l, i, r => by
    unfold numF
    by_cases h : x.rune = r
    · rw [if_pos h]
      simp [h]
    · rw [if_neg h, numF_none l (i + 1) r]
      simp [h]
theorem numF_some : ∀ (l : List Lt) (i k : Nat) (r : Int) (hk : k < l.length), l[k].rune = r → (∀ j (hj : j < k), l[j].rune ≠ r) → numF l i r = some (i + k)
  | [], i, k, r, hk, _, _ => by simp at hk
  | x :: l, i, 0, r, hk, h, _ => by
    unfold numF
    rw [if_pos (show x.rune = r from h), Nat.add_zero]
  | x :: l, i, k + 1, r, hk, h, hn => by
    unfold numF
    rw [if_neg (show ¬ x.rune = r from hn 0 (by omega)), numF_some l (i + 1) k r (by simpa using hk) (by simpa using h) (fun j hj => by simpa using hn (j + 1) (by omega))]
    congr 1
    omega
theorem letsOk_distinct (n : Nat) : ∀ (l : List Lt) (seen : List Int), letsOk n seen l = true → (∀ x ∈ l, x.rune ∉ seen) ∧ l.Pairwise (fun x y => x.rune ≠ y.rune)
  | [], seen, _ => ⟨by simp, List.Pairwise.nil⟩
  | x :: l, seen, h => by
    unfold letsOk at h
    simp only [Bool.and_eq_true, Bool.not_eq_true', decide_eq_false_iff_not] at h
    obtain ⟨⟨⟨_, h1⟩, _⟩, h2⟩ := h
    obtain ⟨h3, h4⟩ := letsOk_distinct n l _ h2
    refine ⟨fun y hy => ?_, List.Pairwise.cons (fun y hy e => ?_) h4⟩
    · rcases List.mem_cons.1 hy with rfl | hy
      · exact h1
      · exact fun hs => h3 y hy (List.mem_cons_of_mem _ hs)
    · exact h3 y hy (by rw [← e]; exact List.mem_cons_self ..)
theorem alOk_distinct {a : Al} (h : alOk a = true) : a.lets.Pairwise (fun x y => x.rune ≠ y.rune) := by
  unfold alOk at h
  simp only [Bool.and_eq_true] at h
  exact (letsOk_distinct _ _ _ h.2).2
theorem alOk_size {a : Al} (h : alOk a = true) : a.feats.length ≤ 24 ∧ 1 ≤ a.lets.length ∧ a.lets.length ≤ 128 := by
  unfold alOk at h
  simp only [Bool.and_eq_true, decide_eq_true_eq] at h
  exact ⟨h.1.1.1.1, h.1.1.1.2, h.1.1.2⟩
theorem alE_zero {a : Al} : alE a = 0 ↔ alOk a = true := by
  unfold alE
  cases alOk a <;> simp
/-- Of letters that are all unlike the map of ranks is their number. -/
theorem rank_at (l : List Lt) (hd : l.Pairwise (fun x y => x.rune ≠ y.rune)) (r : Int) : ∀ k, k ≤ l.length → rankF l k (.int .i32 r) = Option.map (fun i : Nat => (i : Int)) (numF (l.take k) 0 r)
  | 0, _ => rfl
  | k + 1, hk => by
    have hlt : k < l.length := by omega
    have ih := rank_at l hd r k (by omega)
    unfold rankF setAt
    rw [List.getElem?_eq_getElem hlt, Option.map_some, Option.getD_some]
    by_cases h : l[k].rune = r
    · rw [if_pos (by rw [h])]
      rw [numF_some (l.take (k + 1)) 0 k r (by rw [List.length_take]; omega) (by rw [List.getElem_take]; exact h) (fun j hj e => ?_)]
      · simp
      · rw [List.getElem_take] at e
        exact List.pairwise_iff_getElem.1 hd j k (by omega) hlt hj (by rw [e, h])
    · rw [if_neg (by intro e; injection e with _ e; exact h e.symm), ih]
      have e : l.take (k + 1) = l.take k ++ [l[k]] := List.take_succ_eq_append_getElem hlt
      congr 1
      rw [e]
      have key : ∀ (m : List Lt) (i : Nat), numF (m ++ [l[k]]) i r = numF m i r := by
        intro m
        induction m with
        | nil =>
          intro i
          simp [numF, h]
        | cons x m ih =>
          intro i
          rw [List.cons_append]
          unfold numF
          rw [ih]
      rw [key]
theorem rank_num (a : Al) (h : alOk a = true) (r : Int) : rankF a.lets a.lets.length (.int .i32 r) = Option.map (fun i : Nat => (i : Int)) (num a r) := by
  rw [rank_at a.lets (alOk_distinct h) r _ (Nat.le_refl _), List.take_length]
  rfl

/-! ### a text longer than is read -/
theorem decode_cut (s : ByteArray) (b i : Nat) (hb : b ≤ s.size) (hi : i < b) (hw : i + (Utf8.decode s i).2 ≤ b) : Utf8.decode (s.extract 0 b) i = Utf8.decode s i := by
  have := decode_extract s 0 b i hb (by omega) (by rw [Nat.zero_add]; exact hw)
  rwa [Nat.zero_add] at this
theorem pcs_cut (s : ByteArray) (b : Nat) (hb : b ≤ s.size) (k : Nat) : ∀ i : Nat, i + 4 * k ≤ b → (pcsFrom (s.extract 0 b) i).take k = (pcsFrom s i).take k := by
  induction k with
  | zero => intro i _; rw [List.take_zero, List.take_zero]
  | succ k ih =>
    intro i h
    have hi : i < s.size := by omega
    have hw := decode_width s i hi
    have hx : i < (s.extract 0 b).size := by rw [ByteArray.size_extract]; omega
    have hd := decode_cut s b i hb (by omega) (by omega)
    have ih2 := ih (i + (Utf8.decode s i).2) (by omega)
    have hp : pcAt (s.extract 0 b) i = pcAt s i := by
      unfold pcAt
      rw [hd]
    have e1 := pcsFrom_step (s.extract 0 b) i hx
    rw [hd, hp] at e1
    rw [e1, pcsFrom_step s i hi, List.take_succ_cons, List.take_succ_cons, ih2]
theorem pcs_many (s : ByteArray) : ∀ (f i : Nat), s.size - i ≤ f → i ≤ s.size → s.size - i ≤ 4 * (pcsFrom s i).length
  | 0, i, h, _ => by omega
  | f + 1, i, h, hi => by
    by_cases hlt : i < s.size
    · have hw := decode_width s i hlt
      have := pcs_many s f (i + (Utf8.decode s i).2) (by omega) (by omega)
      rw [pcsFrom_step s i hlt, List.length_cons]
      omega
    · omega
theorem readP_take (isL : Int → Bool) (most : Nat) : ∀ (l : List Pc) (acc : List Int) (k : Nat), acc.length ≤ most → most - acc.length < k → k ≤ l.length → readP isL most l acc = readP isL most (l.take k) acc
  | [], acc, k, h1, h2, h3 => by simp at h3; omega
  | p :: l, acc, k, h1, h2, h3 => by
    obtain ⟨k, rfl⟩ : ∃ j, k = j + 1 := ⟨k - 1, by omega⟩
    rw [List.take_succ_cons]
    unfold readP
    split
    · rfl
    · split
      · rfl
      · split
        · rfl
        · rename_i h
          exact readP_take isL most l _ k (by rw [List.length_append]; simp; omega) (by rw [List.length_append]; simp; omega) (by simpa using h3)
theorem readS_cut (a : Al) (w : ByteArray) (h : 65536 < w.size) : readS a w = readS a (w.extract 0 65536) := by
  unfold readS
  have h1 := pcs_many w _ 0 (Nat.le_refl _) (by omega)
  have h2 := pcs_many (w.extract 0 65536) _ 0 (Nat.le_refl _) (by omega)
  have hz : (w.extract 0 65536).size = 65536 := by rw [ByteArray.size_extract]; omega
  rw [readP_take (isLet a) 64 (pcs w) [] 65 (by simp) (by simp) (by unfold pcs; omega), readP_take (isLet a) 64 (pcs (w.extract 0 65536)) [] 65 (by simp) (by simp) (by unfold pcs; omega)]
  unfold pcs
  rw [pcs_cut w 65536 (by omega) 65 0 (by omega)]
end Go.Proofs.YtimhlnndobfehaaGreatDoor
namespace Go.Proofs.YtimhlnndobfehaaGreatDoor
open Go.RowKit
set_option linter.unusedVariables false

theorem zero_int (w : World) : (zeroValue 3).run Tryz.prog w = .ok (.int .i64 0) w := by kernel_rfl
theorem run_makeMap_hint {P : Program} (t k e : TypeId) (ht : P.underlying t = some (.map k e)) (n : Nat) (w : World) : (Instr.makeMap t (some (.int .i64 (n : Int)))).run P w = .ok (.map (some w.heap.size)) (w.alloc (.map #[] 0)) := by
  simp [Instr.makeMap, run_underlying ht, asInt, asIntOf]

def RankSt (a : Al) (w : World) (v1 v2 : Value) (bm : Nat) (i : Value) (wr : World) : Prop :=
  ∃ k : Nat, k ≤ a.lets.length ∧ i = .int .i64 (k : Int) ∧ MapI Tryz.prog 21 3 .i64 wr bm k (rankF a.lets k) ∧ w.heap.size ≤ bm ∧ Below w.heap.size w wr
/-- The ranks of an alphabet's letters, in a map of the call's own; or the error. -/
def RanksOut (a : Al) (w : World) (e : Ending) (w' : World) : Prop :=
  (alOk a = false ∧ e = .returned (.tuple #[.map none, .int .i64 7]) ∧ Below w.heap.size w w') ∨
    (alOk a = true ∧ ∃ bm n, e = .returned (.tuple #[.map (some bm), .int .i64 0]) ∧ MapI Tryz.prog 21 3 .i64 w' bm n (rankF a.lets a.lets.length) ∧ w.heap.size ≤ bm ∧ Below w.heap.size w w')

set_option maxHeartbeats 4000000 in
set_option maxRecDepth 100000 in
theorem ranks_any (A1 A2 : Option Addr) (c1 c2 lo : Nat) (a : Al) (w : World) (hin : AlIn w lo w.heap.size A1 A2 a) :
    Calls Tryz.prog 100 #[.agg #[.slice A1 a.feats.length c1, .slice A2 a.lets.length c2]] w (RanksOut a w) := by
  have hn1 := hin.n1
  have hn2 := hin.n2
  have hal : Below w.heap.size w (w.alloc (.cells #[.slice A1 a.feats.length c1, .slice A2 a.lets.length c2] 25)) := (Below.refl _ _).alloc (Nat.le_refl _) _
  have hr0 := Row.new w 25 [.slice A1 a.feats.length c1, .slice A2 a.lets.length c2]
  have hcall := Lib.hid (check_any A1 A2 c1 c2 lo a _ (hin.on hal))
  cases hok : alOk a with
  | false =>
    have he : alE a = 7 := by unfold alE; rw [hok]; rfl
    rw [he] at hcall
    have HF := Lib.hid hok
    clear hok he
    go_enter Tryz.func100, Tryz.ntmps100
    go_wp2_with fail
    refine hcall.out.mono ?_
    rintro e w1 ⟨rfl, hb1⟩
    go_wp2_with fail
    go_ret2
    exact .inl ⟨HF.out, rfl, hal.trans (hb1.mono (by simp))⟩
  | true =>
    have he : alE a = 0 := alE_zero.2 hok
    rw [he] at hcall
    have hmm := fun (n : Nat) w => run_makeMap_hint (P := Tryz.prog) 147 21 3 Tryz.underlying147 n w
    have hsz := alOk_size hok
    have HF := Lib.hid hok
    clear hok he
    go_enter Tryz.func100, Tryz.ntmps100
    go_wp2_with fail
    refine hcall.out.mono ?_
    rintro e w1 ⟨rfl, hb1⟩
    have hr1 := hr0.below hb1 hr0.lt
    have hbw1 := hal.trans (hb1.mono (by simp))
    have hz1 := hbw1.size
    have hl1 := hr1.lt
    obtain ⟨q1, f1⟩ := hr1.cel (i := 1) rfl
    have hst : RankSt a w (.slice A1 a.feats.length c1) (.slice A2 a.lets.length c2) w1.heap.size (.int .i64 0) (w1.alloc (.map #[] 0)) := ⟨0, by omega, rfl, MapI.made _ _ _ _ _, hz1, hbw1.alloc hz1 _⟩
    have HST := Lib.hid hst
    clear hst hcall hb1
    go_wp2_with fail
    generalize w1.heap.size = bm at *
    go_loopw [20] (fun i wr => RankSt a w (.slice A1 a.feats.length c1) (.slice A2 a.lets.length c2) bm i wr) (fun i _ => a.lets.length - (intOf i).toNat)
    case atStart => exact HST.out
    case round =>
      clear HST q1 f1 hr1 hr0 hbw1 hal
      obtain ⟨k, hk, rfl, hmap, hbm, hb⟩ := hrel
      have hbs := hb.size
      by_cases hlt : k < a.lets.length
      · obtain ⟨b, off, rfl, _, hbb, ⟨x0, y0⟩, ⟨x1, y1⟩, ⟨x2, y2⟩, hrr, hpp, hmm'⟩ := lt_at (hin.l.below vLt_good hb (Nat.le_refl _)) hlt
        have hkey := key_rune hrr
        have hnext : rankF a.lets (k + 1) = setAt (rankF a.lets k) (.int .i32 a.lets[k].rune) (some (k : Int)) := by
          show setAt _ _ _ = _
          rw [List.getElem?_eq_getElem hlt]
          rfl
        generalize a.lets[k] = l at *
        have HK := Lib.hid hkey
        have HN := Lib.hid hnext
        clear hkey hnext
        have hal1 : Below wr.heap.size wr (wr.alloc (.cells #[.int .i32 l.rune, .int .u32 (l.plus : Int), .int .u32 (l.minus : Int)] 90)) := (Below.refl _ _).alloc (Nat.le_refl _) _
        have hmap1 := hmap.below hal1 hmap.lt
        have hb1 := hb.trans (hal1.mono hbs)
        go_wp2_with (at_mapUpdate; refine wpList_update_mapI (by rfl) _ _ _ 147 rfl 21 3 .i64 (Maps.int_keyed Tryz.underlying21) Tryz.underlying147 Tryz.underlying3 bm k (rankF a.lets k) rfl hmap1 (by unfold maxLen; omega) _ (k : Int) (by simp [Lit.wf, IntKind.min, IntKind.max, IntKind.signed, IntKind.bits]; omega) _ rfl rfl HK.out trivial ?_)
        intro w3 hmap3 hgr3
        rw [← HN.out] at hmap3
        have hb3 := hb1.grown hgr3 hb1.size (fun j hj => by simp only [Option.some.injEq] at hj; omega)
        clear hgr3 hmap1 hmap hb1 x0 y0 x1 y1 x2 y2 hal1
        go_wp2_with fail
        exact ⟨⟨k + 1, by omega, by go_num, hmap3, hbm, hb3⟩, by simp [intOf]; omega⟩
      · obtain rfl : k = a.lets.length := by omega
        have HM := Lib.hid hmap
        clear hmap
        go_wp2_with fail
        go_ret2
        exact .inr ⟨HF.out, bm, _, rfl, HM.out, hbm, hb⟩

def NumSt (a : Al) (r : Int) (w : World) (i : Value) (wr : World) : Prop := ∃ k : Nat, k ≤ a.lets.length ∧ i = .int .i64 (k : Int) ∧ (∀ j (hj : j < k) (hl : j < a.lets.length), a.lets[j].rune ≠ r)
theorem numI_none {a : Al} {r : Int} (h : ∀ j (hl : j < a.lets.length), a.lets[j].rune ≠ r) : numI a r = -1 := by
  unfold numI num
  rw [(numF_none a.lets 0 r).2 fun x hx => by
    obtain ⟨j, hj, rfl⟩ := List.getElem_of_mem hx
    exact h j hj]
theorem numI_some {a : Al} {r : Int} {k : Nat} (hk : k < a.lets.length) (he : a.lets[k].rune = r) (h : ∀ j (hj : j < k) (hl : j < a.lets.length), a.lets[j].rune ≠ r) : numI a r = k := by
  unfold numI num
  rw [numF_some a.lets 0 k r hk he (fun j hj => h j hj (by omega))]
  simp
set_option maxHeartbeats 4000000 in
set_option maxRecDepth 100000 in
theorem number_any (A1 A2 : Option Addr) (c1 c2 lo : Nat) (a : Al) (r : Int) (w : World) (hin : AlIn w lo w.heap.size A1 A2 a) (hr : -2147483648 ≤ r ∧ r ≤ 2147483647) :
    Calls Tryz.prog 154 #[.agg #[.slice A1 a.feats.length c1, .slice A2 a.lets.length c2], .int .i32 r] w fun e w' => e = .returned (.int .i64 (numI a r)) ∧ Below w.heap.size w w' := by
  have hn1 := hin.n1
  have hn2 := hin.n2
  have hal : Below w.heap.size w (w.alloc (.cells #[.slice A1 a.feats.length c1, .slice A2 a.lets.length c2] 25)) := (Below.refl _ _).alloc (Nat.le_refl _) _
  have hin1 := hin.on hal
  go_enter Tryz.func154, Tryz.ntmps154
  go_wp2_with fail
  go_loop [5] (fun i => NumSt a r w i w) (fun i => a.lets.length - (intOf i).toNat)
  case atStart => exact ⟨0, by omega, rfl, fun j hj => by omega⟩
  case round =>
    obtain ⟨k, hk, rfl, hne⟩ := hrel
    have HNE := Lib.hid hne
    clear hne
    by_cases hlt : k < a.lets.length
    · obtain ⟨b, off, rfl, _, hbb, ⟨x0, y0⟩, _, _, hrr, _, _⟩ := lt_at hin1.l hlt
      have hs := fun he => numI_some (a := a) (r := r) hlt he HNE.out
      have hnx : a.lets[k].rune ≠ r → ∀ j (hj : j < k + 1) (hl : j < a.lets.length), a.lets[j].rune ≠ r := fun h j hj hl => by
        by_cases hjk : j < k
        · exact HNE.out j hjk hl
        · have : j = k := by omega
          subst this
          exact h
      generalize a.lets[k].rune = x at *
      have HS := Lib.hid hs
      have HNX := Lib.hid hnx
      clear hs hnx
      by_cases he : x = r
      · have hd : (x == r) = true := by rw [beq_iff_eq]; exact he
        have HF := Lib.hid (HS.out he)
        clear he HS HNX
        go_wp2_with fail
        go_ret
        exact ⟨by rw [HF.out]; rfl, hal⟩
      · have hd : (x == r) = false := by rw [beq_eq_false_iff_ne]; exact he
        have HF := Lib.hid (HNX.out he)
        clear HS HNX
        go_wp2_with fail
        exact ⟨⟨k + 1, by omega, by go_num, HF.out⟩, by simp [intOf]; omega⟩
    · have HF := Lib.hid (numI_none (a := a) (r := r) (fun j hl => HNE.out j (by omega) hl))
      go_wp2_with fail
      go_ret
      exact ⟨by rw [HF.out]; rfl, hal⟩
end Go.Proofs.YtimhlnndobfehaaGreatDoor
namespace Go.Proofs.YtimhlnndobfehaaGreatDoor
open Go.Lib
set_option linter.unusedVariables false

theorem decodeN_len (n b0 b1 b2 b3 : Nat) (h0 : b0 < 256) (h1 : b1 < 256) (h2 : b2 < 256) (h3 : b3 < 256) : ((decodeN n b0 b1 b2 b3).2 : Int) = runeLen ((decodeN n b0 b1 b2 b3).1 : Int) ∨ decodeN n b0 b1 b2 b3 = (65533, 1) := by
  unfold decodeN
  repeat' split
  all_goals first
    | (right; rfl)
    | (left; simp only; unfold runeLen; repeat' split; all_goals omega)
theorem decode_len (s : ByteArray) (i : Nat) : ((Utf8.decode s i).2 : Int) = runeLen ((Utf8.decode s i).1 : Int) ∨ Utf8.decode s i = (65533, 1) := by
  rw [decode_bt]
  exact decodeN_len _ _ _ _ _ (bt_lt _ _) (bt_lt _ _) (bt_lt _ _) (bt_lt _ _)
theorem decode_tail (s : ByteArray) (i : Nat) (h : i < s.size) : Utf8.decode (s.extract i s.size) 0 = Utf8.decode s i := by
  have hw := decode_width s i h
  have := decode_extract s i s.size 0 (Nat.le_refl _) (by omega) (by simpa using hw.2.1)
  simpa using this
end Go.Proofs.YtimhlnndobfehaaGreatDoor
namespace Go.Proofs.YtimhlnndobfehaaGreatDoor
open Go.RowKit Go.Lib
set_option linter.unusedVariables false

def vPc (p : Pc) : Value := .agg #[.int .i32 p.rune, .int .i64 p.at_, .int .i64 p.len, .bool p.broken]
theorem boxes2 (w : World) (t : TypeId) (l m : List Value) : Row ((w.alloc (.cells l.toArray t)).alloc (.cells m.toArray t)) w.heap.size t l ∧ Row ((w.alloc (.cells l.toArray t)).alloc (.cells m.toArray t)) (w.heap.size + 1) t m ∧ Below w.heap.size w ((w.alloc (.cells l.toArray t)).alloc (.cells m.toArray t)) := by
  refine ⟨(Row.new w t l).alloc _, ?_, ((Below.refl _ _).alloc (Nat.le_refl _) _).alloc (by simp) _⟩
  have h := Row.new (w.alloc (.cells l.toArray t)) t m
  simpa using h
def pcCells (p : Pc) : List Value := [.int .i32 p.rune, .int .i64 p.at_, .int .i64 p.len, .bool p.broken]
def pcFlat (l : List Pc) : List Value := l.flatMap pcCells
theorem piece_info : (Tryz.prog.info? 174).map (fun i => (i.zero, i.size, i.bytes)) = some (some (.agg #[.int .i32 0, .int .i64 0, .int .i64 0, .bool false]), 4, 32) := by kernel_rfl

theorem pcFlat_snoc (l : List Pc) (p : Pc) : pcFlat (l ++ [p]) = pcFlat l ++ pcCells p := by unfold pcFlat; simp

theorem decodeN_rune (n b0 b1 b2 b3 : Nat) (h0 : b0 < 256) (h1 : b1 < 256) (h2 : b2 < 256) (h3 : b3 < 256) : (decodeN n b0 b1 b2 b3).1 ≤ 1114111 ∧ ¬ (55296 ≤ (decodeN n b0 b1 b2 b3).1 ∧ (decodeN n b0 b1 b2 b3).1 ≤ 57343) := by
  unfold decodeN
  repeat' split
  all_goals (simp only; omega)
theorem decode_rune (s : ByteArray) (i : Nat) : (Utf8.decode s i).1 ≤ 1114111 ∧ ¬ (55296 ≤ (Utf8.decode s i).1 ∧ (Utf8.decode s i).1 ≤ 57343) := by
  rw [decode_bt]
  exact decodeN_rune _ _ _ _ _ (bt_lt _ _) (bt_lt _ _) (bt_lt _ _) (bt_lt _ _)

/-- What a piece of a text is like. -/
def PcOk (p : Pc) : Prop := 0 ≤ p.rune ∧ p.rune ≤ 1114111 ∧ p.at_ ≤ 4611686018427387904 ∧ 1 ≤ p.len ∧ p.len ≤ 4
def vPiece : Rep Pc := fun _ _ _ cs p => cs = pcCells p ∧ PcOk p
theorem vPiece_good : vPiece.Good := ⟨fun _ h => h, fun _ _ h => h⟩
theorem pcs_ok (s : ByteArray) (h : s.size ≤ 4611686018427387904) {p : Pc} (hp : p ∈ pcs s) : PcOk p := by
  obtain ⟨k, hk, rfl⟩ := List.getElem_of_mem hp
  obtain ⟨e, hlt⟩ := pcs_at s 0 k hk
  have e' : (pcs s)[k] = pcAt s (placeOf s 0 k) := e
  rw [e']
  have h1 := decode_rune s (placeOf s 0 k)
  have h2 := decode_width s _ hlt
  unfold PcOk pcAt
  simp only
  omega

theorem pcFlat_length (l : List Pc) : (pcFlat l).length = l.length * 4 := by
  unfold pcFlat
  induction l with
  | nil => rfl
  | cons p l ih =>
    rw [List.flatMap_cons, List.length_append, ih, List.length_cons]
    show 4 + _ = _
    omega
theorem pcFlat_fits {w : World} {lo hi : Nat} : ∀ (l : List Pc), (∀ p ∈ l, PcOk p) → Fits 4 vPiece w lo hi (pcFlat l) l := by
  intro l
  induction l with
  | nil => exact fun _ => Fits.nil
  | cons p l ih =>
    intro h
    have := (Fits.one (V := vPiece) (w := w) (lo := lo) (hi := hi) (cs := pcCells p) (x := p) (sz := 4) rfl ⟨rfl, h p (List.mem_cons_self ..)⟩).append (ih fun q hq => h q (List.mem_cons_of_mem _ hq))
    exact this

/-- A slice of the pieces of a text. -/
def PcsOut (l : List Pc) (w : World) (e : Ending) (w' : World) : Prop :=
  ∃ A c, e = .returned (.slice A l.length c) ∧ l.length ≤ c ∧ c ≤ maxLen ∧ Sl 4 vPiece w' w.heap.size w'.heap.size A l ∧ Below w.heap.size w w'
def PcsOut2 (l : List Pc) (w : World) (e : Ending) (w' : World) : Prop :=
  ∃ A c, e = .returned (.tuple #[.slice A l.length c, .int .i64 0]) ∧ l.length ≤ c ∧ c ≤ maxLen ∧ Sl 4 vPiece w' w.heap.size w'.heap.size A l ∧ Below w.heap.size w w'
theorem pc_at {w : World} {lo hi k : Nat} {A : Option Addr} {l : List Pc} (h : Sl 4 vPiece w lo hi A l) (hk : k < l.length) :
    ∃ b off, A = some ⟨b, off, none⟩ ∧ lo ≤ b ∧ b < hi ∧ Cel w b (off + k * 4) (.int .i32 l[k].rune) ∧ Cel w b (off + k * 4 + 1) (.int .i64 l[k].at_) ∧ Cel w b (off + k * 4 + 2) (.int .i64 l[k].len) ∧ Cel w b (off + k * 4 + 3) (.bool l[k].broken) ∧ PcOk l[k] := by
  obtain ⟨b, off, cs, e, h1, h2, _, h4, h5, h6⟩ := h.at_ hk
  subst h5
  exact ⟨b, off, e, h1, h2, h4 0 _ rfl, h4 1 _ rfl, h4 2 _ rfl, h4 3 _ rfl, h6⟩
theorem Sl.drop {α : Type} {sz : Nat} {V : Rep α} {w : World} {lo hi b off : Nat} {xs : List α} (h : Sl sz V w lo hi (some ⟨b, off, none⟩) xs) (k : Nat) : Sl sz V w lo hi (some ⟨b, off + k * sz, none⟩) (xs.drop k) := fun hn => by
  rw [List.length_drop] at hn
  obtain ⟨b', off', e, h1, h2, h3⟩ := h (by omega)
  simp only [Option.some.injEq, Addr.mk.injEq, and_true] at e
  obtain ⟨rfl, rfl⟩ := e
  refine ⟨b, off + k * sz, rfl, h1, h2, fun i x hx => ?_⟩
  rw [List.getElem?_drop] at hx
  obtain ⟨cs, h4, h5, h6⟩ := h3 _ x hx
  refine ⟨cs, h4, ?_, h6⟩
  rw [Nat.add_assoc, ← Nat.add_mul]
  exact h5
theorem Sl.take {α : Type} {sz : Nat} {V : Rep α} {w : World} {lo hi : Nat} {A : Option Addr} {xs : List α} (h : Sl sz V w lo hi A xs) (k : Nat) : Sl sz V w lo hi A (xs.take k) := fun hn => by
  rw [List.length_take] at hn
  obtain ⟨b', off', e, h1, h2, h3⟩ := h (by omega)
  refine ⟨b', off', e, h1, h2, fun i x hx => ?_⟩
  rw [List.getElem?_take] at hx
  split at hx
  · exact h3 i x hx
  · cases hx
/-- string(b), where b is a row of bytes of the call's own. -/
theorem own_string {P : Program} {w : World} {base : Nat} {v : Value} {B : List UInt8} {src dst e : TypeId} (hs : P.underlying src = some (.slice e)) (he : P.underlying e = some (.int .u8)) (hd : P.underlying dst = some .string)
    (h : w.ownsRow base e 1 v B.length (byteCells B)) : (convert src dst v).run P w = .ok (.string ⟨B.toArray⟩) w := by
  rcases h.2 with ⟨rfl, h0⟩ | ⟨g, cap, cur, rfl, _⟩
  · have : B = [] := List.eq_nil_of_length_eq_zero h0
    subst this
    exact run_convert_bytes_nil _ src e hs he 0 0 dst hd
  · refine run_convert_bytes_back w src dst e ⟨g, 0, none⟩ cap B hs he hd fun j hj => ?_
    have := own_cel h (j := j) (u := .int .u8 (B[j].toNat : Int)) (by unfold byteCells; rw [List.getElem?_map, List.getElem?_eq_getElem hj]; rfl)
    rw [Addr.add_lit, Nat.zero_add]
    exact this.1
theorem utf8_info : (Tryz.prog.info? 5).map (fun i => (i.zero, i.size, i.bytes)) = some (some (.int .u8 0), 1, 1) := by kernel_rfl
end Go.Proofs.YtimhlnndobfehaaGreatDoor
namespace Go.Proofs.YtimhlnndobfehaaGreatDoor
open Go.RowKit Go.Lib
set_option linter.unusedVariables false

/-- All blocks stand but the iterator's, the block it; and all rows of cells. -/
structure CellsKept (it : Nat) (w w' : World) : Prop where
  os : w'.os = w.os
  tape : w'.tape = w.tape
  output : w'.output = w.output
  size : w.heap.size ≤ w'.heap.size
  block : ∀ k, k < w.heap.size → k ≠ it → w'.heap[k]? = w.heap[k]?
  row : ∀ (k : Nat) (c : Array Value) (t : TypeId) (fr : Nat × Nat), w.heap[k]? = some (Obj.cells c t fr) → w'.heap[k]? = some (Obj.cells c t fr)
section
variable {it : Nat}
theorem CellsKept.refl (it : Nat) (w : World) : CellsKept it w w := ⟨rfl, rfl, rfl, Nat.le_refl _, fun _ _ _ => rfl, fun _ _ _ _ h => h⟩
theorem CellsKept.trans {a b c : World} (h : CellsKept it a b) (k : CellsKept it b c) : CellsKept it a c :=
  ⟨k.os.trans h.os, k.tape.trans h.tape, k.output.trans h.output, Nat.le_trans h.size k.size, fun i hi hn => (k.block i (Nat.lt_of_lt_of_le hi h.size) hn).trans (h.block i hi hn), fun i x t fr hh => k.row i x t fr (h.row i x t fr hh)⟩
theorem CellsKept.of_below {w w' : World} (h : Below w.heap.size w w') : CellsKept it w w' := ⟨h.os, h.tape, h.output, h.size, fun k hk _ => h.block k hk, fun k c t fr hk => (h.block k (Array.getElem?_eq_some_iff.1 hk).1).trans hk⟩
theorem CellsKept.alloc {w w' : World} (h : CellsKept it w w') (o : Obj) : CellsKept it w (w'.alloc o) := h.trans (.of_below ((Below.refl _ _).alloc (Nat.le_refl _) _))
theorem CellsKept.iterAt {w w' : World} {pos : Nat} {s : ByteArray} (h : CellsKept it w w') (hk : w'.heap[it]? = some (.stringIter s pos)) (pos' : Nat) : CellsKept it w (w'.iterAt it s pos') :=
  h.trans ⟨rfl, rfl, rfl, by rw [iterAt_size]; exact Nat.le_refl _, fun i _ e => iterAt_other w' it i s pos' e, fun i c t fr hi => by
    by_cases e : i = it
    · subst e
      rw [hk] at hi
      cases hi
    · rw [iterAt_other w' it i s pos' e]
      exact hi⟩
theorem CellsKept.below {B : Nat} {w wa wb : World} (h : Below B w wa) (hk : CellsKept it wa wb) (hB : B ≤ it) (hw : B ≤ wa.heap.size) : Below B w wb :=
  ⟨hk.os.trans h.os, hk.tape.trans h.tape, hk.output.trans h.output, Nat.le_trans h.size hk.size, fun k hk' => (hk.block k (by omega) (by omega)).trans (h.block k hk')⟩
theorem CellsKept.setCell {w w' : World} (h : CellsKept it w w') {p : Addr} (hp : w.heap.size ≤ p.block) (u : Value) : CellsKept it w (w'.setCell p u) :=
  ⟨h.os, h.tape, h.output, by simpa using h.size, fun k hk hn => (Below.heap_setCell w' p u k (by omega)).trans (h.block k hk hn), fun k c t fr hk => (Below.heap_setCell w' p u k (by have := (Array.getElem?_eq_some_iff.1 hk).1; omega)).trans (h.row k c t fr hk)⟩
theorem CellsKept.hrow {w w' : World} (h : CellsKept it w w') {g : Nat} {t : TypeId} {l : List Value} (hr : Row w g t l) : Row w' g t l := h.row _ _ _ _ hr
theorem CellsKept.own {w w' : World} {base sz n : Nat} {e : TypeId} {v : Value} {xs : List Value} (hk : CellsKept it w w') (h : w.ownsRow base e sz v n xs) : w'.ownsRow base e sz v n xs := by
  refine ⟨h.1, ?_⟩
  rcases h.2 with hn | ⟨g, cap, cur, rfl, hbg, hgg, rest⟩
  · exact .inl hn
  · exact .inr ⟨g, cap, cur, rfl, hbg, hk.row _ _ _ _ hgg, rest⟩
theorem CellsKept.cell {w w' : World} (h : CellsKept it w w') {a : Addr} {v : Value} (hc : w.cell? a = some v) : w'.cell? a = some v := by
  cases hb : w.heap[a.block]? with
  | none => simp [World.cell?, hb] at hc
  | some o =>
    cases o with
    | cells c t fr =>
      unfold World.cell? at hc ⊢
      rw [hb] at hc
      rw [h.row _ _ _ _ hb]
      exact hc
    | _ => simp [World.cell?, hb] at hc
theorem CellsKept.tabs {w w' : World} (hb : CellsKept it w w') (h : Utf8Tabs 0 1 w) : Utf8Tabs 0 1 w' :=
  ⟨fun c hc => hb.cell (h.1 c hc), fun i hi => ⟨hb.cell (h.2 i hi).1, hb.cell (h.2 i hi).2⟩⟩

end

/-- What the called function value (f, with one captured place b) holds to: I of what it was given so far, J where it has said no. -/
structure EachOk (s : ByteArray) (it : Nat) (f : FuncId) (b : Nat) (I J : List Pc → World → Prop) : Prop where
  tabs : ∀ l wa, I l wa → Utf8Tabs 0 1 wa ∧ it ≤ wa.heap.size
  keep : ∀ l wa wb, I l wa → CellsKept it wa wb → I l wb
  call : ∀ l p r wa, pcs s = l ++ p :: r → I l wa → it < wa.heap.size → Calls Tryz.prog f #[vPc p, .pointer (some ⟨b, 0, none⟩)] wa fun e w' =>
    ((e = .returned (.bool true) ∧ I (l ++ [p]) w') ∨ (e = .returned (.bool false) ∧ J (l ++ [p]) w')) ∧ ∀ pos, wa.heap[it]? = some (.stringIter s pos) → w'.heap[it]? = some (.stringIter s pos)

def EachOut (s : ByteArray) (I J : List Pc → World → Prop) (e : Ending) (w' : World) : Prop :=
  e = .returned (.tuple #[]) ∧ (I (pcs s) w' ∨ ∃ l p r, pcs s = l ++ p :: r ∧ J (l ++ [p]) w')
def EachSt (s : ByteArray) (it : Nat) (I : List Pc → World → Prop) (wr : World) : Prop :=
  ∃ pos l, pos ≤ s.size ∧ pcs s = l ++ pcsFrom s pos ∧ I l wr ∧ wr.heap[it]? = some (.stringIter s pos)

end Go.Proofs.YtimhlnndobfehaaGreatDoor
