/- word.Sort. What WordOrder asks. Plain Lean. The document's Join. The document's Order, two, Cmp, Common. -/
import Derived.Test.YtfjccjjdgbkbiaaDoorWr17
import Derived.Test.YtfjccjjdgbkbiaaDoorWr32
import Derived.Test.YtfjccjjdgbkbiaaDoorWr23
import Derived.Test.YtfjccjjdgbkbiaaDoorWr26
import Derived.Test.YtfjccjjdgbkbiaaDoorWr29
import Derived.Test.YtfjccjjdgbkbiaaDoorWr30
import Derived.Test.YtfjccjjdgbkbiaaDoorWr14
import Derived.BigRegion
import Derived.Deep.DeepCutAuto
import Derived.Deep.CutBlock
namespace Go.Proofs.YtfjccjjdgbkbiaaDoor
open Go.RowKit
open Go.Lib (Utf8Tabs)
set_option linter.unusedVariables false

def insR (rk : Int → Int) (x : List Int) : List (List Int) → List (List Int)
  | [] => [x]
  | y :: r => if cmpL rk x y = -1 then x :: y :: r else if cmpL rk x y = 0 then y :: r else y :: insR rk x r
def rowR (rk : Int → Int) (ls : List (List Int)) : List (List Int) := ls.foldr (insR rk) []
theorem insR_mem (rk : Int → Int) (x : List Int) : ∀ (l : List (List Int)), (∀ y ∈ l, cmpL rk x y = 0 → x = y) → ∀ z, z ∈ insR rk x l ↔ z = x ∨ z ∈ l
  | [], _, z => by simp [insR]
  | y :: r, h, z => by
    have ih := insR_mem rk x r (fun y hy => h y (List.mem_cons_of_mem _ hy)) z
    unfold insR
    split
    · rw [List.mem_cons]
    · split
      · rename_i h0
        have := h y (List.mem_cons_self ..) h0
        subst this
        constructor
        · exact fun h => .inr h
        · rintro (rfl | h)
          · exact List.mem_cons_self ..
          · exact h
      · rw [List.mem_cons, ih, List.mem_cons]
        constructor
        · rintro (h | h | h)
          · exact .inr (.inl h)
          · exact .inl h
          · exact .inr (.inr h)
        · rintro (h | h | h)
          · exact .inr (.inl h)
          · exact .inl h
          · exact .inr (.inr h)
theorem insR_sub (rk : Int → Int) (x : List Int) : ∀ (l : List (List Int)) (z : List Int), z ∈ insR rk x l → z = x ∨ z ∈ l
  | [], z, h => by simp [insR] at h; exact .inl h
  | y :: r, z, h => by
    unfold insR at h
    split at h
    · exact List.mem_cons.1 h
    · split at h
      · exact .inr h
      · rcases List.mem_cons.1 h with h | h
        · exact .inr (List.mem_cons.2 (.inl h))
        · exact (insR_sub rk x r z h).elim .inl (fun h => .inr (List.mem_cons_of_mem _ h))
theorem insR_rows (rk : Int → Int) (x : List Int) : ∀ (l : List (List Int)), Rows rk l → Rows rk (insR rk x l)
  | [], _ => List.pairwise_singleton _ _
  | y :: r, h => by
    obtain ⟨h1, h2⟩ := List.pairwise_cons.1 h
    unfold insR
    split
    · rename_i hx
      refine List.pairwise_cons.2 ⟨fun z hz => ?_, h⟩
      rcases List.mem_cons.1 hz with rfl | hz
      · exact hx
      · exact cmpL_trans rk hx (h1 z hz)
    · split
      · exact h
      · rename_i a b
        have c := cmpL_three rk x y
        have d := cmpL_flip rk x y
        refine List.pairwise_cons.2 ⟨fun z hz => ?_, insR_rows rk x r h2⟩
        rcases insR_sub rk x r z hz with rfl | hz
        · omega
        · exact h1 z hz
theorem rowR_rows (rk : Int → Int) : ∀ ls : List (List Int), Rows rk (rowR rk ls)
  | [] => List.Pairwise.nil
  | x :: ls => insR_rows rk x _ (rowR_rows rk ls)
theorem rowR_mem (rk : Int → Int) : ∀ ls : List (List Int), (∀ x ∈ ls, ∀ y ∈ ls, cmpL rk x y = 0 → x = y) → ∀ z, z ∈ rowR rk ls ↔ z ∈ ls
  | [], _, z => Iff.rfl
  | x :: ls, h, z => by
    have ih := rowR_mem rk ls fun a ha b hb => h a (List.mem_cons_of_mem _ ha) b (List.mem_cons_of_mem _ hb)
    show z ∈ insR rk x (rowR rk ls) ↔ _
    rw [insR_mem rk x _ (fun y hy => h x (List.mem_cons_self ..) y (List.mem_cons_of_mem _ ((ih y).1 hy))), ih, List.mem_cons]
/-- What is sorted and taken once is the row. -/
theorem row_is (rk : Int → Int) {ls ls' : List (List Int)} (hp : ls'.Perm ls) (hs : ls'.Pairwise fun x y => cmpL rk x y ≤ 0) (hz : ∀ x ∈ ls, ∀ y ∈ ls, cmpL rk x y = 0 → x = y) : onceL ls' = rowR rk ls :=
  rows_unique rk _ _ (onceL_rows rk ls' hs fun x hx y hy => hz x (hp.mem_iff.1 hx) y (hp.mem_iff.1 hy)) (rowR_rows rk ls) fun x => by rw [onceL_mem, rowR_mem rk ls hz, hp.mem_iff]

theorem rkA_at {a : Al} (hok : alOk a = true) {x : Int} {k : Nat} (h : num a x = some k) : rkA a x = (k : Int) := by
  unfold rkA rkF
  rw [rank_num a hok, h]
  rfl
theorem rkA_inj {a : Al} (hok : alOk a = true) {x y : Int} (hx : isLet a x = true) (hy : isLet a y = true) (h : rkA a x = rkA a y) : x = y := by
  unfold isLet num at hx hy
  obtain ⟨n, hn⟩ := Option.isSome_iff_exists.1 hx
  obtain ⟨m, hm⟩ := Option.isSome_iff_exists.1 hy
  have e1 := rkA_at hok (show num a x = some n from hn)
  have e2 := rkA_at hok (show num a y = some m from hm)
  have : n = m := by omega
  subst this
  obtain ⟨k, hk, h1, h2⟩ := numF_at _ _ _ _ hn
  obtain ⟨k', hk', h3, h4⟩ := numF_at _ _ _ _ hm
  have : k = k' := by omega
  subst this
  rw [← h2, ← h4]
theorem cmpA_zero {a : Al} (hok : alOk a = true) : ∀ {l k : List Int}, (∀ x ∈ l, isLet a x = true) → (∀ x ∈ k, isLet a x = true) → cmpL (rkA a) l k = 0 → l = k := by
  intro l k hl hk h
  rw [cmpL_map, cmpZ_zero] at h
  induction l generalizing k with
  | nil => cases k with
    | nil => rfl
    | cons y k => simp at h
  | cons x l ih =>
    cases k with
    | nil => simp at h
    | cons y k =>
      simp only [List.map_cons, List.cons.injEq] at h
      rw [rkA_inj hok (hl x (List.mem_cons_self ..)) (hk y (List.mem_cons_self ..)) h.1, ih (fun z hz => hl z (List.mem_cons_of_mem _ hz)) (fun z hz => hk z (List.mem_cons_of_mem _ hz)) h.2]
theorem allF_letters (a : Al) : ∀ l : List ByteArray, ∀ x ∈ (allF a l).1, ∃ s ∈ l, x = (lettersS a s).1
  | [], x, hx => by simp [allF] at hx
  | s :: r, x, hx => by
    unfold allF at hx
    split at hx
    · simp at hx
    · split at hx
      · simp at hx
      · rcases List.mem_cons.1 hx with rfl | hx
        · exact ⟨s, List.mem_cons_self .., rfl⟩
        · obtain ⟨t, ht, e⟩ := allF_letters a r x hx
          exact ⟨t, List.mem_cons_of_mem _ ht, e⟩
theorem allS_letters (a : Al) (l : List ByteArray) : ∀ x ∈ (allS a l).1, ∃ s ∈ l, x = (lettersS a s).1 := by
  unfold allS
  split
  · intro x hx; simp at hx
  · split
    · intro x hx; simp at hx
    · exact allF_letters a l
theorem allS_many (a : Al) (l : List ByteArray) : (allS a l).1.length ≤ 4096 := by
  unfold allS
  split
  · simp
  · split
    · simp
    · have key : ∀ l : List ByteArray, (allF a l).1.length ≤ l.length := by
        intro l
        induction l with
        | nil => simp [allF]
        | cons s r ih =>
          unfold allF
          split
          · simp
          · split
            · simp
            · simp only [List.length_cons]; omega
      have := key l
      omega
theorem onceL_len : ∀ l : List (List Int), (onceL l).length ≤ l.length
  | [] => Nat.le_refl _
  | [x] => Nat.le_refl _
  | x :: y :: l => by
    have := onceL_len (y :: l)
    unfold onceL
    split
    · simp only [List.length_cons] at this ⊢; omega
    · simp only [List.length_cons] at this ⊢; omega
/-- A list's words in their row, and the error. -/
noncomputable def sortS (a : Al) (l : List ByteArray) : List (List Int) × Int := if (allS a l).2 ≠ 0 then ([], (allS a l).2) else (rowR (rkA a) (allS a l).1, 0)
end Go.Proofs.YtfjccjjdgbkbiaaDoor
namespace Go.Proofs.YtfjccjjdgbkbiaaDoor
open Go.RowKit
set_option linter.unusedVariables false

theorem both_ok {a : Al} {x y : ByteArray} (hx : (lettersS a x).2 = 0) (hy : (lettersS a y).2 = 0) : cmpS a x y = (cmpL (rkA a) (lettersS a x).1 (lettersS a y).1, 0) := by
  unfold cmpS bothS
  rw [hx, hy]
  simp
theorem both_bad {a : Al} {x y : ByteArray} (h : ¬ ((lettersS a x).2 = 0 ∧ (lettersS a y).2 = 0)) : (cmpS a x y).1 = 0 ∧ (cmpS a x y).2 ≠ 0 := by
  unfold cmpS bothS
  by_cases hx : (lettersS a x).2 = 0
  · by_cases hy : (lettersS a y).2 = 0
    · exact absurd ⟨hx, hy⟩ h
    · rw [hx]; simp [hy]
  · simp [hx]
theorem cmp_words {a : Al} {x y : ByteArray} (hx : (lettersS a x).2 = 0) (hy : (lettersS a y).2 = 0) : cmpL (rkA a) (lettersS a x).1 (lettersS a y).1 = 0 ↔ x = y := by
  obtain ⟨hok, h1, e1⟩ := word_is hx
  obtain ⟨_, h2, e2⟩ := word_is hy
  constructor
  · intro h
    rw [e1, e2, cmpA_zero hok h1.1 h2.1 h]
  · intro h
    subst h
    exact cmpL_self _ _
/-- Two words, from both sides. -/
theorem order_two (a : Al) (x y : ByteArray) : ((cmpS a x y).2 = 0 ∧ (cmpS a y x).2 = 0 ∧ (cmpS a y x).1 = - (cmpS a x y).1 ∧ ((cmpS a x y).1 = -1 ∨ (cmpS a x y).1 = 0 ∨ (cmpS a x y).1 = 1) ∧ ((cmpS a x y).1 = 0 ↔ x = y)) ∨
    ((cmpS a x y).2 ≠ 0 ∧ (cmpS a y x).2 ≠ 0 ∧ (cmpS a x y).1 = 0 ∧ (cmpS a y x).1 = 0) := by
  by_cases h : (lettersS a x).2 = 0 ∧ (lettersS a y).2 = 0
  · refine .inl ?_
    rw [both_ok h.1 h.2, both_ok h.2 h.1]
    exact ⟨rfl, rfl, cmpL_flip _ _ _, cmpL_three _ _ _, cmp_words h.1 h.2⟩
  · have h1 := both_bad h
    have h2 := both_bad (a := a) (x := y) (y := x) (fun hh => h ⟨hh.2, hh.1⟩)
    exact .inr ⟨h1.2, h2.2, h1.1, h2.1⟩
theorem cmp_zero_ok {a : Al} {x y : ByteArray} (h : (cmpS a x y).2 = 0) : (lettersS a x).2 = 0 ∧ (lettersS a y).2 = 0 := by
  apply Classical.byContradiction
  intro hh
  exact (both_bad hh).2 h
/-- Of three words none is ahead of itself. -/
theorem order_three (a : Al) (x y z : ByteArray) (h1 : (cmpS a x y).2 = 0) (h2 : (cmpS a y z).2 = 0) (h3 : (cmpS a x z).2 = 0) :
    ((cmpS a x y).1 = -1 ∨ (cmpS a x y).1 = 0 ∨ (cmpS a x y).1 = 1) ∧ ((cmpS a y z).1 = -1 ∨ (cmpS a y z).1 = 0 ∨ (cmpS a y z).1 = 1) ∧ ((cmpS a x z).1 = -1 ∨ (cmpS a x z).1 = 0 ∨ (cmpS a x z).1 = 1) ∧
    ((cmpS a x y).1 ≤ 0 → (cmpS a y z).1 ≤ 0 → (cmpS a x z).1 ≤ 0 ∧ ((cmpS a x z).1 = 0 → (cmpS a x y).1 = 0 ∧ (cmpS a y z).1 = 0)) := by
  obtain ⟨hx, hy⟩ := cmp_zero_ok h1
  obtain ⟨_, hz⟩ := cmp_zero_ok h2
  rw [both_ok hx hy, both_ok hy hz, both_ok hx hz]
  generalize (lettersS a x).1 = l
  generalize (lettersS a y).1 = k
  generalize (lettersS a z).1 = j
  have c1 := cmpL_three (rkA a) l k
  have c2 := cmpL_three (rkA a) k j
  have c3 := cmpL_three (rkA a) l j
  refine ⟨c1, c2, c3, fun h1 h2 => ?_⟩
  simp only at h1 h2 ⊢
  rcases c1 with c1 | c1 | c1
  · rcases c2 with c2 | c2 | c2
    · have := cmpL_trans (rkA a) c1 c2; omega
    · have c2' : cmpL (rkA a) j k = 0 := by have := cmpL_flip (rkA a) k j; omega
      have e := cmpL_zero_left (rkA a) c2' l
      have f1 := cmpL_flip (rkA a) l k
      have f2 := cmpL_flip (rkA a) l j
      omega
    · omega
  · have e := cmpL_zero_left (rkA a) c1 j
    omega
  · omega
theorem allF_zero (a : Al) : ∀ l : List ByteArray, (allF a l).2 = 0 → (∀ s ∈ l, (lettersS a s).2 = 0) ∧ (allF a l).1 = l.map fun s => (lettersS a s).1
  | [], _ => ⟨fun s hs => by simp at hs, rfl⟩
  | s :: r, h => by
    unfold allF at h ⊢
    by_cases h1 : (lettersS a s).2 = 0
    · rw [if_neg (by simp [h1])] at h ⊢
      by_cases h2 : (allF a r).2 = 0
      · obtain ⟨h3, h4⟩ := allF_zero a r h2
        rw [if_neg (by simp [h2])]
        refine ⟨fun t ht => ?_, by rw [h4]; rfl⟩
        rcases List.mem_cons.1 ht with rfl | ht
        · exact h1
        · exact h3 t ht
      · rw [if_pos h2] at h; exact absurd h h2
    · rw [if_pos h1] at h; exact absurd h h1
theorem sort_zero {a : Al} {l : List ByteArray} (h : (sortS a l).2 = 0) : alOk a = true ∧ l.length ≤ 4096 ∧ (∀ s ∈ l, (lettersS a s).2 = 0) ∧ (sortS a l).1 = rowR (rkA a) (l.map fun s => (lettersS a s).1) := by
  unfold sortS at h ⊢
  by_cases h1 : (allS a l).2 = 0
  · rw [if_neg (by simp [h1])]
    unfold allS at h1 ⊢
    cases hok : alOk a with
    | false => rw [hok] at h1; simp at h1
    | true =>
      rw [hok] at h1
      by_cases h2 : 4096 < l.length
      · simp [h2] at h1
      · simp only [Bool.true_eq_false, if_false, h2] at h1 ⊢
        obtain ⟨h3, h4⟩ := allF_zero a l h1
        exact ⟨trivial, by omega, h3, by rw [h4]⟩
  · rw [if_pos h1] at h; exact absurd h h1
theorem sort_err {a : Al} {l : List ByteArray} (h : (sortS a l).2 ≠ 0) : (sortS a l).1 = [] := by
  unfold sortS at h ⊢
  by_cases h1 : (allS a l).2 = 0
  · rw [if_neg (by simp [h1])] at h; exact absurd rfl h
  · rw [if_pos h1]
theorem mem_z {a : Al} (hok : alOk a = true) {ls : List (List Int)} (h : ∀ x ∈ ls, Lets a x) : ∀ x ∈ ls, ∀ y ∈ ls, cmpL (rkA a) x y = 0 → x = y := fun x hx y hy he => cmpA_zero hok (h x hx).1 (h y hy).1 he
/-- What is sorted, is. -/
theorem sorted_facts {a : Al} {l : List ByteArray} (h : (sortS a l).2 = 0) :
    (∀ x ∈ (sortS a l).1, Lets a x) ∧ alOk a = true ∧ Rows (rkA a) (sortS a l).1 ∧ (∀ x, x ∈ (sortS a l).1.map encR ↔ x ∈ l) ∧ (sortS a ((sortS a l).1.map encR)) = ((sortS a l).1, 0) := by
  obtain ⟨hok, hn, hl, e⟩ := sort_zero h
  have hlets : ∀ x ∈ l.map (fun s => (lettersS a s).1), Lets a x := fun x hx => by
    obtain ⟨s, hs, rfl⟩ := List.mem_map.1 hx
    exact (word_is (hl s hs)).2.1
  have hmem := rowR_mem (rkA a) _ (mem_z hok hlets)
  have hrows := rowR_rows (rkA a) (l.map fun s => (lettersS a s).1)
  rw [← e] at hmem hrows
  have hlets2 : ∀ x ∈ (sortS a l).1, Lets a x := fun x hx => hlets x ((hmem x).1 hx)
  have hlen : (sortS a l).1.length ≤ 4096 := by
    rw [e]
    have key : ∀ ls : List (List Int), (rowR (rkA a) ls).length ≤ ls.length := by
      intro ls
      induction ls with
      | nil => exact Nat.le_refl _
      | cons x r ih =>
        have k2 : ∀ q : List (List Int), (insR (rkA a) x q).length ≤ q.length + 1 := by
          intro q
          induction q with
          | nil => simp [insR]
          | cons y q ihq =>
            unfold insR
            split
            · simp
            · split
              · simp
              · simp only [List.length_cons]; omega
        have := k2 (rowR (rkA a) r)
        show (insR (rkA a) x (rowR (rkA a) r)).length ≤ _
        simp only [List.length_cons]
        omega
    have := key (l.map fun s => (lettersS a s).1)
    rw [List.length_map] at this
    omega
  refine ⟨hlets2, hok, hrows, fun x => ?_, ?_⟩
  · constructor
    · intro hx
      obtain ⟨y, hy, rfl⟩ := List.mem_map.1 hx
      obtain ⟨s, hs, rfl⟩ := List.mem_map.1 ((hmem y).1 hy)
      rw [text_back (hl s hs)]
      exact hs
    · intro hx
      exact List.mem_map.2 ⟨(lettersS a x).1, (hmem _).2 (List.mem_map.2 ⟨x, hx, rfl⟩), text_back (hl x hx)⟩
  · generalize (sortS a l).1 = R at *
    have hb : ∀ s ∈ R.map encR, (lettersS a s).2 = 0 := fun s hs => by
      obtain ⟨y, hy, rfl⟩ := List.mem_map.1 hs
      rw [(hlets2 y hy).back hok]
    have hm : (R.map encR).map (fun s => (lettersS a s).1) = R := by
      rw [List.map_map]
      conv => rhs; rw [← List.map_id R]
      refine List.map_congr_left fun x hx => ?_
      show (lettersS a (encR x)).1 = id x
      rw [(hlets2 x hx).back hok]
      rfl
    have he : allS a (R.map encR) = (R, 0) := by
      unfold allS
      rw [if_neg (by rw [hok]; simp), if_neg (by rw [List.length_map]; omega), allF_ok a _ hb, hm]
    unfold sortS
    rw [he, if_neg (by simp)]
    have hz := mem_z hok hlets2
    rw [rows_unique (rkA a) _ _ (rowR_rows (rkA a) R) hrows (rowR_mem (rkA a) R hz)]
theorem sorted_next {a : Al} {l : List ByteArray} (h : (sortS a l).2 = 0) {i : Nat} (hi : i + 1 < (sortS a l).1.length) : cmpS a (encR (sortS a l).1[i]) (encR (sortS a l).1[i + 1]) = (-1, 0) := by
  obtain ⟨hl, hok, hr, _⟩ := sorted_facts h
  have h1 := (hl _ (List.getElem_mem (show i < (sortS a l).1.length by omega))).back hok
  have h2 := (hl _ (List.getElem_mem hi)).back hok
  rw [both_ok (by rw [h1]) (by rw [h2]), h1, h2]
  exact Prod.ext (List.pairwise_iff_getElem.1 hr i (i + 1) (by omega) hi (by omega)) rfl
end Go.Proofs.YtfjccjjdgbkbiaaDoor
namespace Go.Proofs.YtfjccjjdgbkbiaaDoor
open Go.RowKit
open Go.Lib (Utf8Tabs)
set_option linter.unusedVariables false

def RJoinSt (ls : List (List Int)) (W : World) (o n i : Value) (wr : World) : Prop :=
  ∃ k : Nat, k ≤ ls.length ∧ i = .int .i64 (k : Int) ∧ n = .int .i64 ((ls.take k).flatten.length : Int) ∧ o = .string (encR (ls.take k).flatten) ∧ (ls.take k).flatten.length ≤ 256 ∧ Hid (Below W.heap.size W wr)
theorem allS_zero {a : Al} {l : List ByteArray} (h : (allS a l).2 = 0) : alOk a = true ∧ l.length ≤ 4096 ∧ (∀ s ∈ l, (lettersS a s).2 = 0) ∧ (allS a l).1 = l.map fun s => (lettersS a s).1 := by
  unfold allS at h ⊢
  cases hok : alOk a with
  | false => rw [hok] at h; simp at h
  | true =>
    rw [hok] at h
    by_cases h2 : 4096 < l.length
    · simp [h2] at h
    · simp only [Bool.true_eq_false, if_false, h2] at h ⊢
      obtain ⟨h3, h4⟩ := allF_zero a l h
      exact ⟨trivial, by omega, h3, h4⟩
set_option maxHeartbeats 8000000 in
set_option maxRecDepth 100000 in
theorem rjoinW_any (A1 A2 AL : Option Addr) (c1 c2 cl lo : Nat) (a : Al) (l : List ByteArray) (w : World) (hin : AlIn w lo w.heap.size A1 A2 a) (hT : Utf8Tabs 0 1 w) (hsl : Sl 1 vStr w lo w.heap.size AL l) (hn : l.length ≤ 9223372036854775807) :
    Calls Tryd.prog 37 #[.agg #[.slice A1 a.feats.length c1, .slice A2 a.lets.length c2], .slice AL l.length cl] w (StrOut (joinW a l) w) := by
  have hal : Below w.heap.size w (w.alloc (.cells #[.slice A1 a.feats.length c1, .slice A2 a.lets.length c2] 25)) := (Below.refl _ _).alloc (Nat.le_refl _) _
  have hcall := Lib.hid (rlist_any A1 A2 AL c1 c2 cl lo a l _ (hin.on hal) (Utf8Tabs_below hT hal) ((hsl.below vStr_good hal (Nat.le_refl _)).wide vStr_good (Nat.le_refl _) hal.size) hn)
  have HL : Hid (joinW a l = if (allS a l).2 ≠ 0 then (⟨#[]⟩, (allS a l).2) else if 256 < (allS a l).1.flatten.length then (⟨#[]⟩, 9) else (encR (allS a l).1.flatten, 0)) := rfl
  generalize joinW a l = J at *
  by_cases hE : (allS a l).2 = 0
  · obtain ⟨hok, hl4, hwords, hls⟩ := allS_zero hE
    rw [hE] at hcall
    have HF : Hid (J = if 256 < (allS a l).1.flatten.length then (⟨#[]⟩, 9) else (encR (allS a l).1.flatten, 0)) := by show _ = _; rw [HL.out, if_neg (by simp [hE])]
    rw [hls] at HF
    have HW := Lib.hid (fun k (hk : k < l.length) => And.intro (text_back (hwords _ (List.getElem_mem hk))) (And.intro (letters_count (hwords _ (List.getElem_mem hk))) (And.intro (letters_size (hwords _ (List.getElem_mem hk))) (letters_len a l[k]))))
    have hml : (l.map fun s => (lettersS a s).1).length = l.length := List.length_map _
    have HG := Lib.hid (fun k (hk : k < l.length) => (show (l.map fun s => (lettersS a s).1)[k]? = some (lettersS a l[k]).1 by rw [List.getElem?_map, List.getElem?_eq_getElem hk]; rfl))
    generalize (l.map fun s => (lettersS a s).1) = ls at *
    have HML := Lib.hid hml
    clear HL hls hwords hE hok hml
    go_enter Tryd.func37, Tryd.ntmps37
    go_wp2_with fail
    refine hcall.out.mono ?_
    rintro e w1 ⟨rfl, hb1⟩
    have HBW := Lib.hid (hal.trans (hb1.mono (by simp)))
    clear hb1 hal hcall
    have hst : RJoinSt ls w1 (.string ⟨#[]⟩) (.int .i64 0) (.int .i64 0) w1 := ⟨0, by omega, rfl, rfl, rfl, by simp, Below.refl _ _⟩
    have HST := Lib.hid hst
    clear hst
    go_wp2_with fail
    go_loopw [7, 8, 9] (fun o n i wr => RJoinSt ls w1 o n i wr) (fun _ _ i _ => ls.length - (intOf i).toNat)
    case atStart => exact HST.out
    case round =>
      clear HST
      obtain ⟨k, hk, rfl, rfl, rfl, h256, hB⟩ := hrel
      by_cases hlt : k < l.length
      · have hlt2 : k < ls.length := by rw [HML.out]; exact hlt
        obtain ⟨b, off, rfl, _, hbb, ⟨x0, y0⟩, hsz⟩ := strs_at (hsl.below vStr_good (HBW.out.trans (hB.out.mono HBW.out.size)) (Nat.le_refl _)) hlt
        obtain ⟨q1, q2, q3, q4⟩ := HW.out k hlt
        have hg : ls[k] = (lettersS a l[k]).1 := by
          have h := HG.out k hlt
          rw [List.getElem?_eq_getElem hlt2] at h
          exact Option.some.inj h
        have hrc := fun w' => Tryd.utf8_RuneCountInString l[k] w' (by omega)
        rw [runeCount_eq, q2, ← hg] at hrc
        rw [← hg] at q1 q4
        have hft := flatten_take hlt2
        have hel : encR (ls.take (k + 1)).flatten = encR (ls.take k).flatten ++ l[k] := by rw [hft, encR_append, q1]
        have hsz2 := encR_size (ls.take k).flatten
        have hln : (ls.take (k + 1)).flatten.length = (ls.take k).flatten.length + ls[k].length := by rw [hft, List.length_append]
        have hfl := flatten_le ls (k + 1)
        generalize l[k] = s at *
        generalize ls[k].length = m at *
        generalize hX : encR (ls.take k).flatten = X at *
        generalize hN : (ls.take k).flatten.length = N at *
        have HRC := Lib.hid (fun w' => (hrc w').mono (R' := fun (e : Ending) w'' => e = .returned (.int .i64 (m : Int)) ∧ Below w'.heap.size w' w'') fun e w'' ⟨he, pos, hw⟩ => ⟨he, by rw [hw]; exact below_iter (Below.refl _ _) (Nat.le_refl _) _ _⟩)
        have HEL := Lib.hid hel
        have HLN := Lib.hid hln
        have j1 : (k : Int) < (l.length : Int) := by omega
        have j2 : 0 ≤ (k : Int) := by omega
        have j3 : s.size ≤ 256 := q3
        have j4 : X.size ≤ 1024 := by omega
        have hlk : (ls.length : Int) = (l.length : Int) := by rw [HML.out]
        by_cases hbig : 256 < N + m
        · have hj : J = (⟨#[]⟩, 9) := by rw [HF.out, if_pos (by omega)]
          have HFIN := Lib.hid (fun wx hb => StrOut.mk' (W := w) (w' := wx) hj hb)
          have hb9 : 256 < (N : Int) + (m : Int) := by omega
          clear hj hrc hel hln hfl hX hN hft hg q1 q2 q3 hbig
          go_wp2_with fail
          refine (HRC.out _).mono ?_
          rintro e w6 ⟨rfl, hb6⟩
          have HF6 := Lib.hid (HFIN.out w6 (HBW.out.trans ((hB.out.trans (hb6.mono hB.out.size)).mono HBW.out.size)))
          clear hb6
          go_wp2_with fail
          go_ret2
          exact HF6.out
        · have hb9 : ¬ 256 < (N : Int) + (m : Int) := by omega
          have hfin : ∀ w6, Below wr.heap.size wr w6 → RJoinSt ls w1 (.string (X ++ s)) (.int .i64 ((N : Int) + (m : Int))) (.int .i64 ((k : Int) + 1)) w6 := fun w6 hb6 => ⟨k + 1, by omega, by simp, by rw [hln]; simp, by rw [hel], by omega, hB.out.trans (hb6.mono hB.out.size)⟩
          have HFIN := Lib.hid hfin
          have hbl : b < wr.heap.size := by have := hB.out.size; have := HBW.out.size; omega
          clear hfin hrc hel hln hfl hX hN hft hg q1 q2 q3 hbig
          go_wp2_with fail
          refine (HRC.out _).mono ?_
          rintro e w6 ⟨rfl, hb6⟩
          have HF6 := Lib.hid (HFIN.out w6 hb6)
          have x6 := ((bcell hb6).1 b (off + k) hbl).trans x0
          clear hb6 x0 y0
          go_wp2_with fail
          exact ⟨HF6.out, by simp [intOf]; omega⟩
      · obtain rfl : k = ls.length := by rw [HML.out] at hk ⊢; omega
        rw [List.take_length] at h256 ⊢
        have hfin : StrOut J w (.returned (.tuple #[.string (encR ls.flatten), .int .i64 0])) wr := StrOut.mk' (by rw [HF.out, if_neg (by omega)]) (HBW.out.trans (hB.out.mono HBW.out.size))
        have HFIN := Lib.hid hfin
        have j1 : ¬ (ls.length : Int) < (l.length : Int) := by rw [HML.out]; omega
        generalize encR ls.flatten = X at *
        generalize ls.flatten.length = N at *
        clear hfin
        go_wp2_with fail
        go_ret2
        exact HFIN.out
  · have HFIN := Lib.hid (fun wx hb => StrOut.mk' (W := w) (w' := wx) (show J = (⟨#[]⟩, (allS a l).2) by rw [HL.out, if_pos hE]) hb)
    generalize (allS a l).2 = E at *
    have hne : (E != 0) = true := by rw [bne_iff_ne]; exact hE
    clear HL hE
    go_enter Tryd.func37, Tryd.ntmps37
    go_wp2_with fail
    refine hcall.out.mono ?_
    rintro e w1 ⟨rfl, hb1⟩
    have HB := Lib.hid (hal.trans (hb1.mono (by simp)))
    clear hb1
    go_wp2_with fail
    go_ret2
    exact HFIN.out _ HB.out
end Go.Proofs.YtfjccjjdgbkbiaaDoor
namespace Go.Proofs.YtfjccjjdgbkbiaaDoor
open Go.RowKit
open Go.Lib (Utf8Tabs)
set_option linter.unusedVariables false

theorem cmpL_congr {f g : Int → Int} : ∀ {l k : List Int}, (∀ x ∈ l, f x = g x) → (∀ x ∈ k, f x = g x) → cmpL f l k = cmpL g l k
  | [], [], _, _ => rfl
  | [], _ :: _, _, _ => rfl
  | _ :: _, [], _, _ => rfl
  | x :: l, y :: k, h1, h2 => by
    simp only [cmpL]
    rw [h1 x (List.mem_cons_self ..), h2 y (List.mem_cons_self ..), cmpL_congr (fun z hz => h1 z (List.mem_cons_of_mem _ hz)) (fun z hz => h2 z (List.mem_cons_of_mem _ hz))]
theorem numI_rk {a : Al} (hok : alOk a = true) {x : Int} (hx : isLet a x = true) : numI a x = rkF (rankF a.lets a.lets.length) x := by
  unfold isLet at hx
  obtain ⟨n, hn⟩ := Option.isSome_iff_exists.1 hx
  unfold numI rkF
  rw [rank_num a hok, hn]
  rfl
theorem cmpL_num {a : Al} (hok : alOk a = true) {l k : List Int} (hl : ∀ x ∈ l, isLet a x = true) (hk : ∀ x ∈ k, isLet a x = true) : cmpL (numI a) l k = cmpL (rkA a) l k :=
  cmpL_congr (fun x hx => numI_rk hok (hl x hx)) (fun x hx => numI_rk hok (hk x hx))
theorem numI_range {a : Al} {x : Int} (h : a.lets.length ≤ 9223372036854775807) : -1 ≤ numI a x ∧ numI a x < 9223372036854775807 := by
  unfold numI num
  split
  · rename_i i hi
    have := numF_lt _ _ _ _ hi
    omega
  · omega
theorem cmpN_step {rk : Int → Int} {l k : List Int} {i : Nat} (h1 : i < l.length) (h2 : i < k.length) (hl : ¬ rk l[i] < rk k[i]) (hg : ¬ rk k[i] < rk l[i]) : cmpL rk (l.drop i) (k.drop i) = cmpL rk (l.drop (i + 1)) (k.drop (i + 1)) := by
  rw [cmpL_step h1 h2, if_neg]
  unfold Lib.compareInt
  rw [if_neg hl, if_neg (by omega)]
  simp
theorem cmpN_less {rk : Int → Int} {l k : List Int} {i : Nat} (h1 : i < l.length) (h2 : i < k.length) (hl : rk l[i] < rk k[i]) : cmpL rk (l.drop i) (k.drop i) = -1 := by
  rw [cmpL_step h1 h2]
  unfold Lib.compareInt
  rw [if_pos hl]
  simp
theorem cmpN_more {rk : Int → Int} {l k : List Int} {i : Nat} (h1 : i < l.length) (h2 : i < k.length) (hl : rk k[i] < rk l[i]) : cmpL rk (l.drop i) (k.drop i) = 1 := by
  have e : Lib.compareInt (rk l[i]) (rk k[i]) = 1 := by unfold Lib.compareInt; rw [if_neg (by omega), if_pos (by omega)]
  rw [cmpL_step h1 h2, e]
  simp

set_option maxHeartbeats 8000000 in
set_option maxRecDepth 100000 in
theorem rorder_any (A1 A2 A B : Option Addr) (c1 c2 c d lo : Nat) (a : Al) (l k : List Int) (w : World) (hin : AlIn w lo w.heap.size A1 A2 a) (hl : RAt w A l) (hk : RAt w B k) (hkl : ∀ x ∈ l, kin .i32 x) (hkk : ∀ x ∈ k, kin .i32 x) (hml : l.length ≤ 4611686018427387904) (hmk : k.length ≤ 4611686018427387904) :
    Calls Tryd.prog 64 #[.agg #[.slice A1 a.feats.length c1, .slice A2 a.lets.length c2], .slice A l.length c, .slice B k.length d] w fun e w' => e = .returned (.int .i64 (cmpL (numI a) l k)) ∧ Below w.heap.size w w' := by
  have hal : Below w.heap.size w (w.alloc (.cells #[.slice A1 a.feats.length c1, .slice A2 a.lets.length c2] 25)) := (Below.refl _ _).alloc (Nat.le_refl _) _
  have hr0 := Row.new w 25 [.slice A1 a.feats.length c1, .slice A2 a.lets.length c2]
  have hst0 : Hid (cmpL (numI a) (l.drop 0) (k.drop 0) = cmpL (numI a) l k) := by show _ = _; rw [List.drop_zero, List.drop_zero]
  have HNUM := Lib.hid (fun (r : Int) (hr : kin .i32 r) (wx : World) (hx : Below w.heap.size w wx) => number_any A1 A2 c1 c2 lo a r wx ((hin.below hx (Nat.le_refl _)).wide (Nat.le_refl _) hx.size) (kin_i32 hr))
  have HNR := Lib.hid (fun x => numI_range (a := a) (x := x) hin.n2)
  have HRB := Lib.hid (fun (wx : World) (hx : Below w.heap.size w wx) => And.intro (hl.below hx) (hk.below hx))
  have HKL := Lib.hid hkl
  have HKK := Lib.hid hkk
  have HAL := Lib.hid hal
  clear hl hk hkl hkk hin
  generalize cmpL (numI a) l k = R at *
  go_enter Tryd.func64, Tryd.ntmps64
  go_wp2_with fail
  go_loopw [7] (fun i wr => ∃ j : Nat, j ≤ l.length ∧ j ≤ k.length ∧ i = .int .i64 (j : Int) ∧ Hid (cmpL (numI a) (l.drop j) (k.drop j) = R) ∧ Hid (Row wr w.heap.size 25 [.slice A1 a.feats.length c1, .slice A2 a.lets.length c2]) ∧ Hid (Below w.heap.size w wr)) (fun i _ => l.length - (intOf i).toNat)
  case atStart => exact ⟨0, by omega, by omega, rfl, hst0, hr0, HAL.out⟩
  case round =>
    clear hst0 hr0 hal
    obtain ⟨j, hj1, hj2, rfl, hc, hr, hB⟩ := hrel
    by_cases h1 : j < l.length
    · by_cases h2 : j < k.length
      · obtain ⟨g, eA, hg, hcx⟩ := (HRB.out wr hB.out).1.at_ h1
        obtain ⟨g', eB, hg', hcy⟩ := (HRB.out wr hB.out).2.at_ h2
        subst eA eB
        have HC := Lib.hid (fun (wx : World) (hx : Below wr.heap.size wr wx) => And.intro (And.intro ((hr.out.below hx hr.out.lt).cel (i := 0) rfl).1 ((hr.out.below hx hr.out.lt).cel (i := 1) rfl).1) (And.intro (Cel.keep (Kp.of_below hx) (Nat.zero_le _) hg hcx).1 (Cel.keep (Kp.of_below hx) (Nat.zero_le _) hg' hcy).1))
        have hs1 := cmpN_step (rk := numI a) h1 h2
        have hs2 := cmpN_less (rk := numI a) h1 h2
        have hs3 := cmpN_more (rk := numI a) h1 h2
        rw [hc.out] at hs1 hs2 hs3
        have K1 : Hid (∀ wx, Below wr.heap.size wr wx → Calls Tryd.prog 45 #[.agg #[.slice A1 a.feats.length c1, .slice A2 a.lets.length c2], .int .i32 l[j]] wx fun e w' => e = .returned (.int .i64 (numI a l[j])) ∧ Below wr.heap.size wr w') := by
          intro wx hx
          refine (HNUM.out _ (HKL.out _ (List.getElem_mem h1)) wx (hB.out.trans (hx.mono hB.out.size))).mono ?_
          rintro e w' ⟨rfl, hy⟩
          exact ⟨rfl, hx.trans (hy.mono hx.size)⟩
        have K2 : Hid (∀ wx, Below wr.heap.size wr wx → Calls Tryd.prog 45 #[.agg #[.slice A1 a.feats.length c1, .slice A2 a.lets.length c2], .int .i32 k[j]] wx fun e w' => e = .returned (.int .i64 (numI a k[j])) ∧ Below wr.heap.size wr w') := by
          intro wx hx
          refine (HNUM.out _ (HKK.out _ (List.getElem_mem h2)) wx (hB.out.trans (hx.mono hB.out.size))).mono ?_
          rintro e w' ⟨rfl, hy⟩
          exact ⟨rfl, hx.trans (hy.mono hx.size)⟩
        have r1 := HNR.out l[j]
        have r2 := HNR.out k[j]
        generalize numI a l[j] = N1 at *
        generalize numI a k[j] = N2 at *
        generalize l[j] = u at *
        generalize k[j] = v at *
        have HS1 := Lib.hid hs1
        have HS2 := Lib.hid hs2
        have HS3 := Lib.hid hs3
        have hd : Below wr.heap.size wr wr.drew := below_drewN (Below.refl _ _) 1
        have j1 : (j : Int) < (l.length : Int) := by omega
        have j2 : (j : Int) < (k.length : Int) := by omega
        have j3 : 0 ≤ (j : Int) := by omega
        clear hs1 hs2 hs3 hcx hcy
        go_upto_region 4 with (fail)
        refine wp_region_class (fun wx => Below wr.heap.size wr wx) (by kernel_rfl) (by kernel_rfl) hd ?_
        repeat (first
          | go_big_quiet_skip
          | (go_big_quiet_want; go_big_quiet_op; first
              | go_big_quiet_on
              | (apply Exists.intro
                 refine ⟨fun wx hx => ?_, ?_⟩
                 · (first
                    | exact rfl
                    | (have e1 := (HC.out wx hx).1.1; have e2 := (HC.out wx hx).1.2; simp only [e1, e2, Result.andThen]; exact ⟨trivial, rfl⟩)
                    | (have e3 := (HC.out wx hx).2.1; simp only [e3, Result.andThen]; exact ⟨trivial, rfl⟩)
                    | (go_at_call 45; with_reducible exact K1.out wx hx))
                 go_big_quiet_on)))
        refine wpQuiet_nil ?_
        intro w5 hq
        have hd5 : Below wr.heap.size wr w5.drew := below_drewN hq 1
        clear hd
        go_upto_region 5 with (fail)
        refine wp_region_class (fun wx => Below wr.heap.size wr wx) (by kernel_rfl) (by kernel_rfl) hd5 ?_
        repeat (first
          | go_big_quiet_skip
          | (go_big_quiet_want; go_big_quiet_op; first
              | go_big_quiet_on
              | (apply Exists.intro
                 refine ⟨fun wx hx => ?_, ?_⟩
                 · (first
                    | exact rfl
                    | (have e1 := (HC.out wx hx).1.1; have e2 := (HC.out wx hx).1.2; simp only [e1, e2, Result.andThen]; exact ⟨trivial, rfl⟩)
                    | (have e3 := (HC.out wx hx).2.2; simp only [e3, Result.andThen]; exact ⟨trivial, rfl⟩)
                    | (go_at_call 45; with_reducible exact K2.out wx hx))
                 go_big_quiet_on)))
        refine wpQuiet_nil ?_
        intro w6 hq6
        have HB6 := Lib.hid (hB.out.trans (hq6.mono hB.out.size))
        have HR6 := Lib.hid (hr.out.below hq6 hr.out.lt)
        clear hd5 hq hq6 HC K1 K2 hB hr hc
        by_cases hlt : N1 < N2
        · have HN := Lib.hid (HS2.out hlt)
          clear HS1 HS2 HS3
          go_wp2_with fail
          go_ret
          exact ⟨by rw [HN.out]; rfl, HB6.out⟩
        · by_cases hgt : N2 < N1
          · have HN := Lib.hid (HS3.out hgt)
            clear HS1 HS2 HS3
            go_wp2_with fail
            go_ret
            exact ⟨by rw [HN.out]; rfl, HB6.out⟩
          · have HN := Lib.hid (HS1.out hlt hgt)
            clear HS1 HS2 HS3
            go_wp2_with fail
            exact ⟨⟨j + 1, by omega, by omega, by go_num, HN.out.symm, HR6.out, HB6.out⟩, by simp [intOf]; omega⟩
      · have hst := cmpL_short (rk := numI a) h1 (by omega : k.length ≤ j)
        have HN : Hid (R = 1) := by show _ = _; rw [← hc.out, hst]
        have b1 : ¬ (j : Int) < (k.length : Int) := by omega
        have b2 : ¬ (l.length : Int) < (k.length : Int) := by omega
        have b3 : (k.length : Int) < (l.length : Int) := by omega
        clear hst hc
        go_wp2_with fail
        go_ret
        exact ⟨by rw [HN.out]; rfl, hB.out⟩
    · obtain rfl : j = l.length := by omega
      have b1 : ¬ (l.length : Int) < (l.length : Int) := by omega
      by_cases h2 : l.length < k.length
      · have hst := cmpL_less (rk := numI a) h2
        have HN : Hid (R = -1) := by show _ = _; rw [← hc.out, hst]
        have b2 : (l.length : Int) < (k.length : Int) := by omega
        clear hst hc
        go_wp2_with fail
        go_ret
        exact ⟨by rw [HN.out]; rfl, hB.out⟩
      · have hst := cmpL_end (rk := numI a) (by omega : k.length ≤ l.length)
        have HN : Hid (R = 0) := by show _ = _; rw [← hc.out, hst]
        have b2 : ¬ (l.length : Int) < (k.length : Int) := by omega
        have b3 : ¬ (k.length : Int) < (l.length : Int) := by omega
        clear hst hc
        go_wp2_with fail
        go_ret
        exact ⟨by rw [HN.out]; rfl, hB.out⟩
end Go.Proofs.YtfjccjjdgbkbiaaDoor
