/- Letters' numbers; the letters of a text. Plain Lean. -/
import Derived.Test.YtfjccjjdgbkbiaaDoorAlMem
import Derived.Test.YtfjccjjdgbkbiaaDoorRuneAt
namespace Go.Proofs.YtfjccjjdgbkbiaaDoor
open Go.Lib
set_option linter.unusedVariables false

noncomputable def rankF (l : List Lt) : Nat → Lit → Option Int
  | 0 => fun _ => none
  | k + 1 => setAt (rankF l k) (.int .i32 ((l[k]?.map (·.rune)).getD 0)) (some (k : Int))
def numI (a : Al) (r : Int) : Int := match num a r with | some i => i | none => -1

theorem numF_none : ∀ (l : List Lt) (i : Nat) (r : Int), numF l i r = none ↔ ∀ x ∈ l, x.rune ≠ r
  | [], i, r => by simp [numF]
  | x :: l, i, r => by
    unfold numF
    by_cases h : x.rune = r
    · rw [if_pos h]
      simp [h]
    · rw [if_neg h, numF_none l (i + 1) r]
      simp [h]
theorem numF_some : ∀ (l : List Lt) (i k : Nat) (r : Int) (hk : k < l.length), l[k].rune = r → (∀ j (hj : j < k), l[j].rune ≠ r) → numF l i r = some (i + k)
  | [], i, k, r, hk, _, _ => by simp at hk
  | x :: l, i, 0, r, hk, h, _ => by
    unfold numF
    rw [if_pos (show x.rune = r from h), Nat.add_zero]
  | x :: l, i, k + 1, r, hk, h, hn => by
    unfold numF
    rw [if_neg (show ¬ x.rune = r from hn 0 (by omega)), numF_some l (i + 1) k r (by simpa using hk) (by simpa using h) (fun j hj => by simpa using hn (j + 1) (by omega))]
    congr 1
    omega
theorem letsOk_distinct (n : Nat) : ∀ (l : List Lt) (seen : List Int), letsOk n seen l = true → (∀ x ∈ l, x.rune ∉ seen) ∧ l.Pairwise (fun x y => x.rune ≠ y.rune)
  | [], seen, _ => ⟨by simp, List.Pairwise.nil⟩
  | x :: l, seen, h => by
    unfold letsOk at h
    simp only [Bool.and_eq_true, Bool.not_eq_true', decide_eq_false_iff_not] at h
    obtain ⟨⟨⟨_, h1⟩, _⟩, h2⟩ := h
    obtain ⟨h3, h4⟩ := letsOk_distinct n l _ h2
    refine ⟨fun y hy => ?_, List.Pairwise.cons (fun y hy e => ?_) h4⟩
    · rcases List.mem_cons.1 hy with rfl | hy
      · exact h1
      · exact fun hs => h3 y hy (List.mem_cons_of_mem _ hs)
    · exact h3 y hy (by rw [← e]; exact List.mem_cons_self ..)
theorem alOk_distinct {a : Al} (h : alOk a = true) : a.lets.Pairwise (fun x y => x.rune ≠ y.rune) := by
  unfold alOk at h
  simp only [Bool.and_eq_true] at h
  exact (letsOk_distinct _ _ _ h.2).2
theorem alOk_size {a : Al} (h : alOk a = true) : a.feats.length ≤ 24 ∧ 1 ≤ a.lets.length ∧ a.lets.length ≤ 128 := by
  unfold alOk at h
  simp only [Bool.and_eq_true, decide_eq_true_eq] at h
  exact ⟨h.1.1.1.1, h.1.1.1.2, h.1.1.2⟩
theorem alE_zero {a : Al} : alE a = 0 ↔ alOk a = true := by
  unfold alE
  cases alOk a <;> simp
/-- Of letters that are all unlike the map of ranks is their number. -/
theorem rank_at (l : List Lt) (hd : l.Pairwise (fun x y => x.rune ≠ y.rune)) (r : Int) : ∀ k, k ≤ l.length → rankF l k (.int .i32 r) = Option.map (fun i : Nat => (i : Int)) (numF (l.take k) 0 r)
  | 0, _ => rfl
  | k + 1, hk => by
    have hlt : k < l.length := by omega
    have ih := rank_at l hd r k (by omega)
    unfold rankF setAt
    rw [List.getElem?_eq_getElem hlt, Option.map_some, Option.getD_some]
    by_cases h : l[k].rune = r
    · rw [if_pos (by rw [h])]
      rw [numF_some (l.take (k + 1)) 0 k r (by rw [List.length_take]; omega) (by rw [List.getElem_take]; exact h) (fun j hj e => ?_)]
      · simp
      · rw [List.getElem_take] at e
        exact List.pairwise_iff_getElem.1 hd j k (by omega) hlt hj (by rw [e, h])
    · rw [if_neg (by intro e; injection e with _ e; exact h e.symm), ih]
      have e : l.take (k + 1) = l.take k ++ [l[k]] := List.take_succ_eq_append_getElem hlt
      congr 1
      rw [e]
      have key : ∀ (m : List Lt) (i : Nat), numF (m ++ [l[k]]) i r = numF m i r := by
        intro m
        induction m with
        | nil =>
          intro i
          simp [numF, h]
        | cons x m ih =>
          intro i
          rw [List.cons_append]
          unfold numF
          rw [ih]
      rw [key]
theorem rank_num (a : Al) (h : alOk a = true) (r : Int) : rankF a.lets a.lets.length (.int .i32 r) = Option.map (fun i : Nat => (i : Int)) (num a r) := by
  rw [rank_at a.lets (alOk_distinct h) r _ (Nat.le_refl _), List.take_length]
  rfl

/-! ### a text longer than is read -/
theorem decode_cut (s : ByteArray) (b i : Nat) (hb : b ≤ s.size) (hi : i < b) (hw : i + (Utf8.decode s i).2 ≤ b) : Utf8.decode (s.extract 0 b) i = Utf8.decode s i := by
  have := decode_extract s 0 b i hb (by omega) (by rw [Nat.zero_add]; exact hw)
  rwa [Nat.zero_add] at this
theorem pcs_cut (s : ByteArray) (b : Nat) (hb : b ≤ s.size) (k : Nat) : ∀ i : Nat, i + 4 * k ≤ b → (pcsFrom (s.extract 0 b) i).take k = (pcsFrom s i).take k := by
  induction k with
  | zero => intro i _; rw [List.take_zero, List.take_zero]
  | succ k ih =>
    intro i h
    have hi : i < s.size := by omega
    have hw := decode_width s i hi
    have hx : i < (s.extract 0 b).size := by rw [ByteArray.size_extract]; omega
    have hd := decode_cut s b i hb (by omega) (by omega)
    have ih2 := ih (i + (Utf8.decode s i).2) (by omega)
    have hp : pcAt (s.extract 0 b) i = pcAt s i := by
      unfold pcAt
      rw [hd]
    have e1 := pcsFrom_step (s.extract 0 b) i hx
    rw [hd, hp] at e1
    rw [e1, pcsFrom_step s i hi, List.take_succ_cons, List.take_succ_cons, ih2]
theorem pcs_many (s : ByteArray) : ∀ (f i : Nat), s.size - i ≤ f → i ≤ s.size → s.size - i ≤ 4 * (pcsFrom s i).length
  | 0, i, h, _ => by omega
  | f + 1, i, h, hi => by
    by_cases hlt : i < s.size
    · have hw := decode_width s i hlt
      have := pcs_many s f (i + (Utf8.decode s i).2) (by omega) (by omega)
      rw [pcsFrom_step s i hlt, List.length_cons]
      omega
    · omega
theorem readP_take (isL : Int → Bool) (most : Nat) : ∀ (l : List Pc) (acc : List Int) (k : Nat), acc.length ≤ most → most - acc.length < k → k ≤ l.length → readP isL most l acc = readP isL most (l.take k) acc
  | [], acc, k, h1, h2, h3 => by simp at h3; omega
  | p :: l, acc, k, h1, h2, h3 => by
    obtain ⟨k, rfl⟩ : ∃ j, k = j + 1 := ⟨k - 1, by omega⟩
    rw [List.take_succ_cons]
    unfold readP
    split
    · rfl
    · split
      · rfl
      · split
        · rfl
        · rename_i h
          exact readP_take isL most l _ k (by rw [List.length_append]; simp; omega) (by rw [List.length_append]; simp; omega) (by simpa using h3)
theorem readS_cut (a : Al) (w : ByteArray) (h : 65536 < w.size) : readS a w = readS a (w.extract 0 65536) := by
  unfold readS
  have h1 := pcs_many w _ 0 (Nat.le_refl _) (by omega)
  have h2 := pcs_many (w.extract 0 65536) _ 0 (Nat.le_refl _) (by omega)
  have hz : (w.extract 0 65536).size = 65536 := by rw [ByteArray.size_extract]; omega
  rw [readP_take (isLet a) 64 (pcs w) [] 65 (by simp) (by simp) (by unfold pcs; omega), readP_take (isLet a) 64 (pcs (w.extract 0 65536)) [] 65 (by simp) (by simp) (by unfold pcs; omega)]
  unfold pcs
  rw [pcs_cut w 65536 (by omega) 65 0 (by omega)]
end Go.Proofs.YtfjccjjdgbkbiaaDoor
