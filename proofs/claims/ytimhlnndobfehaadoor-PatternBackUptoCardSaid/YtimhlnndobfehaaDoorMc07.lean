/- Places to which a pattern lies in letters: as steps on sets of places, and as a relation. Plain Lean. slices.Clone and slices.Reverse of integers. The library's contracts on integers: here all of them lie in the shelf's one text. slices.Sort and slices.Compact of integers that the call owns: the rising list of the same numbers. -/
import Derived.Test.YtimhlnndobfehaaDoorMc06
import Derived.Test.YtimhlnndobfehaaDoorShelf
namespace Go.Proofs.YtimhlnndobfehaaDoor
set_option linter.unusedVariables false

def takesB (x : Nd) (l : Lt) : Bool := if x.kind = 2 then decide (x.rune = l.rune) else if x.kind = 3 then likeL l x.plus.toNat x.minus.toNat else decide (x.kind = 4)

/-- Is a place in a set? -/
def On (S : List Bool) (j : Nat) : Prop := S[j]? = some true
instance (S : List Bool) (j : Nat) : Decidable (On S j) := inferInstanceAs (Decidable (S[j]? = some true))
def noneS (n : Nat) : List Bool := List.replicate n false
def singleS (n i : Nat) : List Bool := (noneS n).set i true
def joinS (a b : List Bool) : List Bool := (List.range a.length).map fun i => a.getD i false || b.getD i false
def edgeS (S : List Bool) : List Bool := (List.range S.length).map fun i => S.getD i false && (i == 0 || i + 1 == S.length)
def shiftS (x : Nd) (L : List Lt) (S : List Bool) : List Bool := (List.range S.length).map fun
  | 0 => false
  | i + 1 => S.getD i false && (match L[i]? with | some l => takesB x l | none => false)
def starS (g : List Bool → List Bool) : Nat → List Bool → List Bool
  | 0, S => S
  | n + 1, S => starS g n (joinS S (g S))

/-- A node's step, given the kids'. -/
def bodyS (L : List Lt) (g : Nat → List Bool → List Bool) (x : Nd) (S : List Bool) : List Bool :=
  if x.kind = 1 then S else if x.kind = 5 then edgeS S
  else if x.kind = 6 then x.kids.foldl (fun T c => g c.toNat T) S
  else if x.kind = 7 then x.kids.foldl (fun T c => joinS T (g c.toNat S)) (noneS S.length)
  else if x.kind = 9 then joinS S (match x.kids with | c :: _ => g c.toNat S | [] => noneS S.length)
  else if x.kind = 8 then (match x.kids with | c :: _ => starS (g c.toNat) S.length S | [] => S)
  else shiftS x L S
def stepS (ns : List Nd) (L : List Lt) : Nat → Nat → List Bool → List Bool
  | 0, _, S => noneS S.length
  | f + 1, k, S => match ns[k]? with | none => noneS S.length | some x => bodyS L (stepS ns L f) x S

inductive Star (R : Nat → Nat → Prop) : Nat → Nat → Prop
  | refl (i : Nat) : Star R i i
  | tail {i m j : Nat} : Star R i m → R m j → Star R i j
def SeqR (R : Nat → Nat → Nat → Prop) : List Int → Nat → Nat → Prop
  | [], i, j => i = j
  | c :: r, i, j => ∃ m, R c.toNat i m ∧ SeqR R r m j
def Body (L : List Lt) (R : Nat → Nat → Nat → Prop) (x : Nd) (i j : Nat) : Prop :=
  if x.kind = 1 then i = j else if x.kind = 5 then i = j ∧ (i = 0 ∨ i = L.length)
  else if x.kind = 6 then SeqR R x.kids i j
  else if x.kind = 7 then ∃ c ∈ x.kids, R c.toNat i j
  else if x.kind = 9 then i = j ∨ ∃ c, x.kids.head? = some c ∧ R c.toNat i j
  else if x.kind = 8 then i = j ∨ ∃ c, x.kids.head? = some c ∧ Star (R c.toNat) i j
  else j = i + 1 ∧ ∃ l, L[i]? = some l ∧ takesB x l = true
def Rel (ns : List Nd) (L : List Lt) : Nat → Nat → Nat → Nat → Prop
  | 0, _, _, _ => False
  | f + 1, k, i, j => match ns[k]? with | none => False | some x => Body L (Rel ns L f) x i j

theorem on_lt {S : List Bool} {j : Nat} (h : On S j) : j < S.length := (List.getElem?_eq_some_iff.1 h).1
theorem on_getD {S : List Bool} {j : Nat} : S.getD j false = true ↔ On S j := by
  unfold On
  rw [List.getD_eq_getElem?_getD]
  cases S[j]? with
  | none => simp
  | some b => simp
theorem on_none {n j : Nat} : ¬ On (noneS n) j := by
  unfold On noneS
  rw [List.getElem?_replicate]
  split <;> simp
theorem none_len (n : Nat) : (noneS n).length = n := by unfold noneS; simp
theorem on_single {n i j : Nat} (hi : i < n) : On (singleS n i) j ↔ i = j := by
  unfold On singleS
  rw [List.getElem?_set]
  by_cases h : i = j
  · subst h; simp [none_len, hi]
  · simp only [h, if_false, iff_false]
    exact on_none
theorem single_len (n i : Nat) : (singleS n i).length = n := by unfold singleS; rw [List.length_set, none_len]
theorem on_range {n : Nat} {f : Nat → Bool} {j : Nat} : On ((List.range n).map f) j ↔ j < n ∧ f j = true := by
  unfold On
  rw [List.getElem?_map]
  by_cases h : j < n
  · rw [List.getElem?_range h]
    simp [h]
  · rw [List.getElem?_eq_none (by simpa using h)]
    simp [h]
theorem on_join {a b : List Bool} {j : Nat} (h : a.length = b.length) : On (joinS a b) j ↔ On a j ∨ On b j := by
  unfold joinS
  rw [on_range, Bool.or_eq_true, on_getD, on_getD]
  constructor
  · exact fun h => h.2
  · rintro (h1 | h1)
    · exact ⟨on_lt h1, .inl h1⟩
    · exact ⟨by have := on_lt h1; omega, .inr h1⟩
theorem join_len (a b : List Bool) : (joinS a b).length = a.length := by unfold joinS; simp

theorem SeqR.mono {R : Nat → Nat → Nat → Prop} (h : ∀ c i j, R c i j → i ≤ j) : ∀ {l : List Int} {i j : Nat}, SeqR R l i j → i ≤ j
  | [], _, _, e => Nat.le_of_eq e
  | _ :: _, _, _, ⟨m, h1, h2⟩ => Nat.le_trans (h _ _ _ h1) (SeqR.mono h h2)
theorem Star.mono {R : Nat → Nat → Prop} (h : ∀ i j, R i j → i ≤ j) {i j : Nat} (s : Star R i j) : i ≤ j := by
  induction s with
  | refl => exact Nat.le_refl _
  | tail _ h2 ih => exact Nat.le_trans ih (h _ _ h2)
theorem SeqR.max {R : Nat → Nat → Nat → Prop} {n : Nat} (h : ∀ c i j, i ≤ n → R c i j → j ≤ n) : ∀ {l : List Int} {i j : Nat}, i ≤ n → SeqR R l i j → j ≤ n
  | [], _, _, hi, e => by have : _ = _ := e; omega
  | _ :: _, _, _, hi, ⟨m, h1, h2⟩ => SeqR.max h (h _ _ _ hi h1) h2
theorem Star.max {R : Nat → Nat → Prop} {n : Nat} (h : ∀ i j, i ≤ n → R i j → j ≤ n) {i j : Nat} (hi : i ≤ n) (s : Star R i j) : j ≤ n := by
  induction s with
  | refl => exact hi
  | tail _ h2 ih => exact h _ _ ih h2
theorem rel_mono (ns : List Nd) (L : List Lt) : ∀ (f k i j : Nat), Rel ns L f k i j → i ≤ j
  | 0, _, _, _, h => h.elim
  | f + 1, k, i, j, h => by
    have ih := rel_mono ns L f
    unfold Rel at h
    cases hx : ns[k]? with
    | none => rw [hx] at h; exact h.elim
    | some x =>
      rw [hx] at h
      simp only at h
      unfold Body at h
      split at h
      · omega
      · split at h
        · omega
        · split at h
          · exact SeqR.mono ih h
          · split at h
            · obtain ⟨c, _, h⟩ := h
              exact ih _ _ _ h
            · split at h
              · rcases h with h | ⟨c, _, h⟩
                · omega
                · exact ih _ _ _ h
              · split at h
                · rcases h with h | ⟨c, _, h⟩
                  · omega
                  · exact Star.mono (ih _) h
                · omega
theorem rel_max (ns : List Nd) (L : List Lt) : ∀ (f k i j : Nat), i ≤ L.length → Rel ns L f k i j → j ≤ L.length
  | 0, _, _, _, _, h => h.elim
  | f + 1, k, i, j, hi, h => by
    have ih := rel_max ns L f
    unfold Rel at h
    cases hx : ns[k]? with
    | none => rw [hx] at h; exact h.elim
    | some x =>
      rw [hx] at h
      simp only at h
      unfold Body at h
      split at h
      · omega
      · split at h
        · omega
        · split at h
          · exact SeqR.max ih hi h
          · split at h
            · obtain ⟨c, _, h⟩ := h
              exact ih _ _ _ hi h
            · split at h
              · rcases h with h | ⟨c, _, h⟩
                · omega
                · exact ih _ _ _ hi h
              · split at h
                · rcases h with h | ⟨c, _, h⟩
                  · omega
                  · exact Star.max (ih _) hi h
                · obtain ⟨h1, l, h2, _⟩ := h
                  have := (List.getElem?_eq_some_iff.1 h2).1
                  omega

/-- A step on sets does what the relation says. -/
def Steps (n : Nat) (g : List Bool → List Bool) (R : Nat → Nat → Prop) : Prop :=
  ∀ S : List Bool, S.length = n + 1 → (g S).length = n + 1 ∧ ∀ j, On (g S) j ↔ ∃ i, On S i ∧ R i j
theorem steps_seq {n : Nat} {g : Nat → List Bool → List Bool} {R : Nat → Nat → Nat → Prop} (h : ∀ c, Steps n (g c) (R c)) : ∀ l : List Int, Steps n (fun S => l.foldl (fun T c => g c.toNat T) S) (SeqR R l)
  | [], S, hS => ⟨hS, fun j => ⟨fun h => ⟨j, h, rfl⟩, fun ⟨i, h, e⟩ => by have e : i = j := e; subst e; exact h⟩⟩
  | c :: r, S, hS => by
    obtain ⟨h1, h2⟩ := h c.toNat S hS
    obtain ⟨h3, h4⟩ := steps_seq h r (g c.toNat S) h1
    refine ⟨h3, fun j => (h4 j).trans ⟨?_, ?_⟩⟩
    · rintro ⟨m, hm, hr⟩
      obtain ⟨i, hi, hc⟩ := (h2 m).1 hm
      exact ⟨i, hi, m, hc, hr⟩
    · rintro ⟨i, hi, m, hc, hr⟩
      exact ⟨m, (h2 m).2 ⟨i, hi, hc⟩, hr⟩
theorem steps_or {n : Nat} {g : Nat → List Bool → List Bool} {R : Nat → Nat → Nat → Prop} (h : ∀ c, Steps n (g c) (R c)) (S : List Bool) (hS : S.length = n + 1) :
    ∀ (l : List Int) (T : List Bool), T.length = n + 1 → (l.foldl (fun T c => joinS T (g c.toNat S)) T).length = n + 1 ∧ ∀ j, On (l.foldl (fun T c => joinS T (g c.toNat S)) T) j ↔ On T j ∨ ∃ i, On S i ∧ ∃ c ∈ l, R c.toNat i j
  | [], T, hT => ⟨hT, fun j => by simp⟩
  | c :: r, T, hT => by
    obtain ⟨h1, h2⟩ := h c.toNat S hS
    obtain ⟨h3, h4⟩ := steps_or h S hS r (joinS T (g c.toNat S)) (by rw [join_len, hT])
    refine ⟨h3, fun j => (h4 j).trans ?_⟩
    rw [on_join (by omega), h2 j, or_assoc]
    refine or_congr Iff.rfl ⟨?_, ?_⟩
    · rintro (⟨i, hi, hc⟩ | ⟨i, hi, d, hd, hc⟩)
      · exact ⟨i, hi, c, by simp, hc⟩
      · exact ⟨i, hi, d, by simp [hd], hc⟩
    · rintro ⟨i, hi, d, hd, hc⟩
      rcases List.mem_cons.1 hd with rfl | hd
      · exact .inl ⟨i, hi, hc⟩
      · exact .inr ⟨i, hi, d, hd, hc⟩
/-- Within so many steps. -/
def Near (R : Nat → Nat → Prop) : Nat → Nat → Nat → Prop
  | 0, i, j => i = j
  | n + 1, i, j => ∃ m, (i = m ∨ R i m) ∧ Near R n m j
theorem near_snoc {R : Nat → Nat → Prop} : ∀ {n i m j : Nat}, Near R n i m → (m = j ∨ R m j) → Near R (n + 1) i j
  | 0, _, _, _, e, h => by have e : _ = _ := e; subst e; exact ⟨_, h, rfl⟩
  | n + 1, _, _, _, ⟨p, h1, h2⟩, h => ⟨p, h1, near_snoc h2 h⟩
theorem near_star {R : Nat → Nat → Prop} : ∀ {n i m j : Nat}, Star R i m → Near R n m j → Star R i j
  | 0, _, _, _, s, e => by have e : _ = _ := e; subst e; exact s
  | n + 1, _, _, _, s, ⟨p, h1, h2⟩ => near_star (h1.elim (fun e => e ▸ s) s.tail) h2
theorem star_near {R : Nat → Nat → Prop} (hm : ∀ i j, R i j → i ≤ j) {i j : Nat} (s : Star R i j) : ∀ n, j - i ≤ n → Near R n i j := by
  have hself : ∀ n i, Near R n i i := by
    intro n
    induction n with
    | zero => exact fun _ => rfl
    | succ n ih => exact fun i => ⟨i, .inl rfl, ih i⟩
  induction s with
  | refl => exact fun n _ => hself n _
  | @tail m j s h ih =>
    intro n hn
    have h1 := s.mono hm
    have h2 := hm _ _ h
    by_cases e : m = j
    · subst e; exact ih n hn
    · obtain ⟨q, rfl⟩ : ∃ q, n = q + 1 := ⟨n - 1, by omega⟩
      exact near_snoc (ih q (by omega)) (.inr h)
theorem steps_near {n : Nat} {g : List Bool → List Bool} {R : Nat → Nat → Prop} (h : Steps n g R) : ∀ q, Steps n (starS g q) (Near R q)
  | 0, S, hS => ⟨hS, fun j => ⟨fun h => ⟨j, h, rfl⟩, fun ⟨i, h, e⟩ => by have e : i = j := e; subst e; exact h⟩⟩
  | q + 1, S, hS => by
    obtain ⟨h1, h2⟩ := h S hS
    obtain ⟨h3, h4⟩ := steps_near h q (joinS S (g S)) (by rw [join_len, hS])
    refine ⟨h3, fun j => (h4 j).trans ⟨?_, ?_⟩⟩
    · rintro ⟨m, hm, hr⟩
      rw [on_join (by omega), h2 m] at hm
      rcases hm with hm | ⟨i, hi, hc⟩
      · exact ⟨m, hm, m, .inl rfl, hr⟩
      · exact ⟨i, hi, m, .inr hc, hr⟩
    · rintro ⟨i, hi, m, hc, hr⟩
      refine ⟨m, ?_, hr⟩
      rw [on_join (by omega), h2 m]
      rcases hc with rfl | hc
      · exact .inl hi
      · exact .inr ⟨i, hi, hc⟩
theorem steps_star {n : Nat} {g : List Bool → List Bool} {R : Nat → Nat → Prop} (h : Steps n g R) (hm : ∀ i j, R i j → i ≤ j) (hx : ∀ i j, i ≤ n → R i j → j ≤ n) : Steps n (starS g (n + 1)) (Star R) := fun S hS => by
  obtain ⟨h1, h2⟩ := steps_near h (n + 1) S hS
  refine ⟨h1, fun j => (h2 j).trans ⟨fun ⟨i, hi, hc⟩ => ⟨i, hi, near_star (.refl i) hc⟩, fun ⟨i, hi, hc⟩ => ⟨i, hi, star_near hm hc _ ?_⟩⟩⟩
  have := hc.max hx (by have := on_lt hi; omega)
  omega
theorem body_steps {n : Nat} {L : List Lt} (hn : L.length = n) {g : Nat → List Bool → List Bool} {R : Nat → Nat → Nat → Prop} (h : ∀ c, Steps n (g c) (R c)) (hm : ∀ c i j, R c i j → i ≤ j) (hx : ∀ c i j, i ≤ n → R c i j → j ≤ n) (x : Nd) : Steps n (bodyS L g x) (Body L R x) := by
  intro S hS
  unfold bodyS Body
  by_cases k1 : x.kind = 1
  · simp only [k1, if_true]
    exact ⟨hS, fun j => ⟨fun h => ⟨j, h, rfl⟩, fun ⟨i, h, e⟩ => by subst e; exact h⟩⟩
  simp only [if_neg k1]
  by_cases k5 : x.kind = 5
  · simp only [k5, if_true]
    refine ⟨by unfold edgeS; simp [hS], fun j => ?_⟩
    unfold edgeS
    rw [on_range]
    simp only [Bool.and_eq_true, on_getD, Bool.or_eq_true, beq_iff_eq]
    constructor
    · rintro ⟨_, h1, h2⟩; exact ⟨j, h1, rfl, by omega⟩
    · rintro ⟨i, h1, rfl, h2⟩; have := on_lt h1; exact ⟨this, h1, by omega⟩
  simp only [if_neg k5]
  by_cases k6 : x.kind = 6
  · simp only [k6, if_true]; exact steps_seq h x.kids S hS
  simp only [if_neg k6]
  by_cases k7 : x.kind = 7
  · simp only [k7, if_true]
    obtain ⟨h1, h2⟩ := steps_or h S hS x.kids (noneS S.length) (by rw [none_len, hS])
    refine ⟨h1, fun j => (h2 j).trans ?_⟩
    simp only [on_none, false_or]
  simp only [if_neg k7]
  by_cases k9 : x.kind = 9
  · simp only [k9, if_true]
    cases hk : x.kids with
    | nil =>
      refine ⟨by rw [join_len, hS], fun j => ?_⟩
      rw [on_join (by rw [none_len])]
      simp only [on_none, or_false, List.head?_nil, reduceCtorEq, false_and, exists_false]
      exact ⟨fun h => ⟨j, h, rfl⟩, fun ⟨i, h, e⟩ => by subst e; exact h⟩
    | cons c r =>
      obtain ⟨h1, h2⟩ := h c.toNat S hS
      refine ⟨by simp only [join_len, hS], fun j => ?_⟩
      simp only [List.head?_cons, Option.some.injEq]
      rw [on_join (by omega), h2 j]
      constructor
      · rintro (h | ⟨i, hi, hc⟩)
        · exact ⟨j, h, .inl rfl⟩
        · exact ⟨i, hi, .inr ⟨c, rfl, hc⟩⟩
      · rintro ⟨i, hi, rfl | ⟨_, rfl, hc⟩⟩
        · exact .inl hi
        · exact .inr ⟨i, hi, hc⟩
  simp only [if_neg k9]
  by_cases k8 : x.kind = 8
  · simp only [k8, if_true]
    cases hk : x.kids with
    | nil =>
      simp only [List.head?_nil, reduceCtorEq, false_and, exists_false, or_false]
      exact ⟨hS, fun j => ⟨fun h => ⟨j, h, rfl⟩, fun ⟨i, h, e⟩ => by subst e; exact h⟩⟩
    | cons c r =>
      simp only [List.head?_cons, Option.some.injEq]
      obtain ⟨h1, h2⟩ := steps_star (h c.toNat) (hm _) (hx _) S hS
      rw [hS]
      refine ⟨h1, fun j => (h2 j).trans ⟨fun ⟨i, hi, hc⟩ => ⟨i, hi, .inr ⟨c, rfl, hc⟩⟩, ?_⟩⟩
      rintro ⟨i, hi, rfl | ⟨_, rfl, hc⟩⟩
      · exact ⟨i, hi, .refl i⟩
      · exact ⟨i, hi, hc⟩
  simp only [if_neg k8]
  refine ⟨by unfold shiftS; simp [hS], fun j => ?_⟩
  unfold shiftS
  rw [on_range]
  cases j with
  | zero => simp
  | succ j =>
    simp only [Bool.and_eq_true, on_getD]
    constructor
    · rintro ⟨_, h1, h2⟩
      refine ⟨j, h1, rfl, ?_⟩
      cases hl : L[j]? with
      | none => rw [hl] at h2; cases h2
      | some l => rw [hl] at h2; exact ⟨l, rfl, h2⟩
    · rintro ⟨i, h1, e, l, h2, h3⟩
      obtain rfl : j = i := by omega
      have := (List.getElem?_eq_some_iff.1 h2).1
      exact ⟨by omega, h1, by rw [h2]; exact h3⟩
theorem stepS_steps (ns : List Nd) (L : List Lt) : ∀ (f k : Nat), Steps L.length (stepS ns L f k) (Rel ns L f k)
  | 0, k, S, hS => ⟨by unfold stepS; rw [none_len, hS], fun j => by unfold stepS Rel; simp [on_none]⟩
  | f + 1, k, S, hS => by
    unfold stepS Rel
    cases ns[k]? with
    | none => exact ⟨by simp only; rw [none_len, hS], fun j => by simp [on_none]⟩
    | some x => exact body_steps rfl (stepS_steps ns L f) (rel_mono ns L f) (rel_max ns L f) x S hS

theorem SeqR.congr {R R' : Nat → Nat → Nat → Prop} : ∀ {l : List Int} {i j : Nat}, (∀ c ∈ l, ∀ i j, R c.toNat i j ↔ R' c.toNat i j) → (SeqR R l i j ↔ SeqR R' l i j)
  | [], _, _, _ => Iff.rfl
  | c :: r, i, j, h => by
    unfold SeqR
    refine exists_congr fun m => and_congr (h c (by simp) i m) (SeqR.congr fun d hd => h d (by simp [hd]))
theorem Star.imp {R R' : Nat → Nat → Prop} (h : ∀ i j, R i j → R' i j) {i j : Nat} (s : Star R i j) : Star R' i j := by
  induction s with
  | refl => exact .refl _
  | tail _ h2 ih => exact ih.tail (h _ _ h2)
theorem body_congr {L : List Lt} {R R' : Nat → Nat → Nat → Prop} {x : Nd} {i j : Nat} (h : ∀ c ∈ x.kids, ∀ i j, R c.toNat i j ↔ R' c.toNat i j) : Body L R x i j ↔ Body L R' x i j := by
  have hh : ∀ c, x.kids.head? = some c → ∀ i j, R c.toNat i j ↔ R' c.toNat i j := fun c hc => h c (List.mem_of_head? hc)
  unfold Body
  split
  · rfl
  · split
    · rfl
    · split
      · exact SeqR.congr h
      · split
        · exact exists_congr fun c => and_congr_right fun hc => h c hc i j
        · split
          · exact or_congr Iff.rfl (exists_congr fun c => and_congr_right fun hc => hh c hc i j)
          · split
            · exact or_congr Iff.rfl (exists_congr fun c => and_congr_right fun hc => ⟨Star.imp fun a b => (hh c hc a b).1, Star.imp fun a b => (hh c hc a b).2⟩)
            · rfl
/-- Kids stand behind their node. -/
def Kids (ns : List Nd) : Prop := ∀ (k : Nat) (x : Nd), ns[k]? = some x → ∀ c ∈ x.kids, (k : Int) < c ∧ c < ns.length
theorem inr_kids : ∀ {ns : List Nd} {n i : Int}, InR n i ns → ∀ (k : Nat) (x : Nd), ns[k]? = some x → ∀ c ∈ x.kids, i + k < c ∧ c < n
  | y :: r, n, i, h, 0, x, hx, c, hc => by
    simp only [List.getElem?_cons_zero, Option.some.injEq] at hx
    subst hx
    have := h.1 c hc
    omega
  | y :: r, n, i, h, k + 1, x, hx, c, hc => by
    rw [List.getElem?_cons_succ] at hx
    have := inr_kids h.2 k x hx c hc
    omega
theorem IsTree.kids {ns : List Nd} (h : IsTree ns) : Kids ns := fun k x hx c hc => by
  have := inr_kids h.inr k x hx c hc
  omega
theorem rel_fuel {ns : List Nd} {L : List Lt} (hk : Kids ns) : ∀ (f g k : Nat), ns.length - k ≤ f → ns.length - k ≤ g → ∀ i j, Rel ns L f k i j ↔ Rel ns L g k i j
  | f, g, k, hf, hg, i, j => by
    by_cases hlt : k < ns.length
    · obtain ⟨f, rfl⟩ : ∃ q, f = q + 1 := ⟨f - 1, by omega⟩
      obtain ⟨g, rfl⟩ : ∃ q, g = q + 1 := ⟨g - 1, by omega⟩
      have hx : ns[k]? = some ns[k] := List.getElem?_eq_getElem hlt
      unfold Rel
      rw [hx]
      refine body_congr fun c hc i j => ?_
      have := hk k _ hx c hc
      exact rel_fuel hk f g c.toNat (by omega) (by omega) i j
    · have hx : ns[k]? = none := List.getElem?_eq_none (by omega)
      cases f <;> cases g <;> unfold Rel <;> simp [hx]
/-- The node's pattern lies from i to j. -/
def Lies (ns : List Nd) (L : List Lt) : Nat → Nat → Nat → Prop := Rel ns L ns.length
theorem lies_iff {ns : List Nd} {L : List Lt} (hk : Kids ns) {k : Nat} {x : Nd} (hx : ns[k]? = some x) (i j : Nat) : Lies ns L k i j ↔ Body L (Lies ns L) x i j := by
  have hlt := (List.getElem?_eq_some_iff.1 hx).1
  obtain ⟨n, hn⟩ : ∃ n, ns.length = n + 1 := ⟨ns.length - 1, by omega⟩
  have e : Lies ns L k i j ↔ Body L (Rel ns L n) x i j := by
    unfold Lies
    rw [hn]
    unfold Rel
    rw [hx]
  rw [e]
  refine body_congr fun c hc i j => ?_
  have := hk k _ hx c hc
  exact rel_fuel hk _ _ _ (by omega) (by omega) i j
/-- Where it ends, begun at a place: rising. -/
def endsL (ns : List Nd) (L : List Lt) (k i : Nat) : List Nat := (List.range (L.length + 1)).filter fun j => decide (On (stepS ns L ns.length k (singleS (L.length + 1) i)) j)
theorem mem_ends {ns : List Nd} {L : List Lt} {k i j : Nat} (hi : i ≤ L.length) : j ∈ endsL ns L k i ↔ Lies ns L k i j := by
  obtain ⟨h1, h2⟩ := stepS_steps ns L ns.length k (singleS (L.length + 1) i) (single_len _ _)
  unfold endsL Lies
  rw [List.mem_filter, decide_eq_true_eq, h2 j, List.mem_range]
  constructor
  · rintro ⟨_, m, hm, h⟩
    rw [on_single (by omega)] at hm
    subst hm
    exact h
  · exact fun h => ⟨by have := rel_max ns L _ _ _ _ hi h; omega, i, (on_single (by omega)).2 rfl, h⟩
theorem ends_sorted (ns : List Nd) (L : List Lt) (k i : Nat) : (endsL ns L k i).Pairwise (· < ·) := List.Pairwise.filter _ List.pairwise_lt_range
theorem ends_le {ns : List Nd} {L : List Lt} {k i j : Nat} (h : j ∈ endsL ns L k i) : j ≤ L.length := by
  unfold endsL at h
  have := List.mem_range.1 (List.mem_filter.1 h).1
  omega
theorem ends_ge {ns : List Nd} {L : List Lt} {k i j : Nat} (hi : i ≤ L.length) (h : j ∈ endsL ns L k i) : i ≤ j := rel_mono ns L _ _ _ _ ((mem_ends hi).1 h)
theorem ends_len (ns : List Nd) (L : List Lt) (k i : Nat) : (endsL ns L k i).length ≤ L.length + 1 := by
  have := List.length_filter_le (fun j => decide (On (stepS ns L ns.length k (singleS (L.length + 1) i)) j)) (List.range (L.length + 1))
  rw [List.length_range] at this
  exact this
/-- Rising lists of the same members are the same. -/
theorem rising_eq : ∀ {l m : List Nat}, l.Pairwise (· < ·) → m.Pairwise (· < ·) → (∀ x, x ∈ l ↔ x ∈ m) → l = m
  | [], [], _, _, _ => rfl
  | [], y :: m, _, _, h => by have := (h y).2 (by simp); simp at this
  | x :: l, [], _, _, h => by have := (h x).1 (by simp); simp at this
  | x :: l, y :: m, hl, hm, h => by
    obtain ⟨hl1, hl2⟩ := List.pairwise_cons.1 hl
    obtain ⟨hm1, hm2⟩ := List.pairwise_cons.1 hm
    have e : x = y := by
      have h1 := (h x).1 (by simp)
      have h2 := (h y).2 (by simp)
      rcases List.mem_cons.1 h1 with h1 | h1
      · exact h1
      · rcases List.mem_cons.1 h2 with h2 | h2
        · exact h2.symm
        · have := hm1 x h1
          have := hl1 y h2
          omega
    subst e
    rw [rising_eq hl2 hm2 fun z => ?_]
    have := h z
    simp only [List.mem_cons] at this
    constructor
    · intro hz
      have h3 := hl1 z hz
      rcases this.1 (.inr hz) with e | e
      · omega
      · exact e
    · intro hz
      have h3 := hm1 z hz
      rcases this.2 (.inr hz) with e | e
      · omega
      · exact e
end Go.Proofs.YtimhlnndobfehaaDoor
namespace Go.Proofs.YtimhlnndobfehaaDoor
open Go.RowKit
set_option linter.unusedVariables false

theorem own_setCells {base sz n g : Nat} {e : TypeId} {v : Value} (hg : v.ownBlock = some g) : ∀ (rest pre old : List Value) (w : World), old.length = rest.length → w.ownsRow base e sz v n (pre ++ old) → (w.setCells g pre.length rest).ownsRow base e sz v n (pre ++ rest)
  | [], pre, [], w, _, h => by simpa [World.setCells] using h
  | r :: rest, pre, o :: old, w, hl, h => by
    have h1 := own_set h hg (j := pre.length) (by simp) r
    rw [List.set_append_right _ _ (Nat.le_refl _), Nat.sub_self, List.set_cons_zero] at h1
    have h2 := own_setCells hg rest (pre ++ [r]) old _ (by simpa using hl) (by simpa using h1)
    simpa [World.setCells, List.length_append] using h2

theorem clone_int {A : Option Addr} {c lo hi : Nat} {xs : List Int} {w : World} (hsl : Sl 1 (vInt .i64) w lo hi A xs) (hn : xs.length * 8 ≤ 140737488355328) :
    Calls Tryd.prog 55 #[.slice A xs.length c] w fun e w' => ∃ v', e = .returned v' ∧ w'.ownsRow w.heap.size 3 1 v' xs.length (xs.map (Value.int .i64)) ∧ Below w.heap.size w w' := by
  rcases Nat.eq_zero_or_pos xs.length with h0 | h0
  · have hx : xs = [] := List.eq_nil_of_length_eq_zero h0
    subst hx
    cases A with
    | none =>
      refine (Tryd.slices_Clone_int_nil 0 c w).mono ?_
      rintro e w' ⟨rfl, rfl⟩
      exact ⟨_, rfl, World.ownsRow_nil _ _ _ _, Below.refl _ _⟩
    | some a =>
      refine (Tryd.slices_Clone_int_zero a c w).mono ?_
      rintro e w' ⟨v', rfl, h1, _, h2⟩
      exact ⟨_, rfl, h1, h2⟩
  · obtain ⟨b, off, rfl, _⟩ := hsl h0
    refine (Tryd.slices_Clone_int b off xs.length c xs w (Nat.le_refl _) hn (fun j hj => ?_)).mono ?_
    · obtain ⟨b', off', e, _, _, hc, _⟩ := ints_at hsl hj
      injection e with e
      injection e with e1 e2
      subst e1 e2
      rw [hc.1, List.getD_eq_getElem?_getD, List.getElem?_eq_getElem hj]
      rfl
    · rintro e w' ⟨v', rfl, h1, _, h2⟩
      rw [List.take_of_length_le (Nat.le_refl _)] at h1
      exact ⟨_, rfl, h1, h2⟩

theorem reverse_int {base : Nat} {v : Value} {xs : List Int} {w : World} (h : w.ownsRow base 3 1 v xs.length (xs.map (Value.int .i64))) (hn : xs.length ≤ maxLen) :
    Calls Tryd.prog 71 #[v] w fun e w' => e = .returned (.tuple #[]) ∧ w'.ownsRow base 3 1 v xs.length (xs.reverse.map (Value.int .i64)) ∧ Fr (fun k => v.ownBlock = some k) w w' := by
  rcases Nat.eq_zero_or_pos xs.length with h0 | h0
  · have hx : xs = [] := List.eq_nil_of_length_eq_zero h0
    subst hx
    obtain ⟨A, c, rfl, _, _⟩ := own_form h
    refine (Tryd.slices_Reverse_int_empty A c w).mono ?_
    rintro e w' ⟨rfl, rfl⟩
    exact ⟨rfl, h, Fr.refl _ _⟩
  · obtain ⟨g, c, rfl, h1, h2, h3, h4⟩ := own_pos h h0
    refine (Tryd.slices_Reverse_int_cells g 0 xs.length c xs w (Nat.le_refl _) (by unfold maxLen at hn; omega) (fun j hj => ?_) (fun j hj => ?_)).mono ?_
    · rw [Nat.zero_add]
      refine (own_cel h ?_).1
      rw [List.getElem?_map, List.getD_eq_getElem?_getD, List.getElem?_eq_getElem hj]
      rfl
    · rw [Nat.zero_add]
      refine (own_cel h (u := .int .i64 xs[j]) ?_).2
      rw [List.getElem?_map, List.getElem?_eq_getElem hj]
      rfl
    · rintro e w' ⟨rfl, q, rfl⟩
      rw [List.take_of_length_le (Nat.le_refl _)]
      have hq : (w.drewN q).ownsRow base 3 1 (.slice (some ⟨g, 0, none⟩) xs.length c) xs.length (xs.map (Value.int .i64)) := h
      refine ⟨rfl, ?_, ?_⟩
      · exact own_setCells (g := g) rfl (xs.reverse.map (Value.int .i64)) [] (xs.map (Value.int .i64)) _ (by simp) hq
      · have hb : ∀ (vs : List Value) (o : Nat) (w0 : World), Fr (fun k => k = g) w0 (w0.setCells g o vs) := by
          intro vs
          induction vs with
          | nil => exact fun o w0 => Fr.refl _ _
          | cons x r ih => exact fun o w0 => (Fr.set_ (S := fun k => k = g) w0 ⟨g, o, none⟩ x rfl).trans (ih _ _) (fun k _ h => h)
        exact (((Fr.refl (fun k => k = g) w).drewN q).trans (hb _ _ _) (fun k _ h => h)).weak (fun k _ e => by subst e; rfl)
end Go.Proofs.YtimhlnndobfehaaDoor
namespace Go.Proofs.YtimhlnndobfehaaDoor
end Go.Proofs.YtimhlnndobfehaaDoor
namespace Go.Proofs.YtimhlnndobfehaaDoor
open Go.RowKit Go.Sort
set_option linter.unusedVariables false

section
variable {α : Type} [Inhabited α] {w : World} {enc : α → Value} {blk m : Nat} {dk : Array α} {os : Array Obj}
theorem sg_block {k : Nat} (hk : k < w.heap.size) (hne : k ≠ blk) : (grow (putRow enc (Sort.ahead w m) blk 0 dk) os).heap[k]? = w.heap[k]? := by
  unfold grow putRow mapBlock
  simp only [heap_ahead]
  rw [Array.getElem?_append_left (by simpa using hk), Array.getElem?_modify, if_neg (fun h => hne h.symm)]
theorem sg_fr : Fr (fun k => k = blk) w (grow (putRow enc (Sort.ahead w m) blk 0 dk) os) :=
  ⟨rfl, rfl, rfl, by simp, fun k hk hn => sg_block hk hn⟩
theorem sg_own {base c : Nat} {e : TypeId} {xs : List Value} (h : w.ownsRow base e 1 (.slice (some ⟨blk, 0, none⟩) dk.size c) dk.size xs) : (grow (putRow enc (Sort.ahead w m) blk 0 dk) os).ownsRow base e 1 (.slice (some ⟨blk, 0, none⟩) dk.size c) dk.size (dk.toList.map enc) := by
  have hl := h.1
  refine ⟨by simp, ?_⟩
  rcases h.2 with ⟨hv, _⟩ | ⟨g', cap, cur, hv, hbg, hgg, h1, h2, h3, h4⟩
  · cases hv
  · injection hv with hv1 hv2 hv3
    injection hv1 with hv1
    injection hv1 with hv1
    subst hv1 hv3
    have hlt : blk < w.heap.size := (Array.getElem?_eq_some_iff.1 hgg).1
    refine .inr ⟨blk, c, putCells enc 0 dk cur, rfl, hbg, ?_, h1, h2, by simpa [putCells] using h3, ?_⟩
    · unfold grow putRow mapBlock
      simp only [heap_ahead]
      rw [Array.getElem?_append_left (by simpa using hlt), Array.getElem?_modify, if_pos rfl, hgg]
      rfl
    · apply List.ext_getElem?
      intro i
      rw [List.getElem?_take, List.getElem?_map]
      unfold putCells
      simp only [Nat.mul_one, Array.getElem?_toList, Array.getElem?_mapIdx]
      by_cases hi : i < dk.size
      · have hic : i < cur.size := by omega
        rw [if_pos hi, Array.getElem?_eq_getElem hic, Array.getElem?_eq_getElem hi]
        simp only [Option.map_some, Nat.zero_le, Nat.zero_add, hi, and_self, if_true, Nat.sub_zero]
        rw [getElem!_pos dk i hi]
      · rw [if_neg hi, Array.getElem?_eq_none (by omega)]
        rfl
end
def srtL (xs : List Int) : List Int := xs.mergeSort fun x y => decide (x ≤ y)
theorem srt_len (xs : List Int) : (srtL xs).length = xs.length := List.length_mergeSort xs
theorem srt_mem {xs : List Int} {x : Int} : x ∈ srtL xs ↔ x ∈ xs := List.mem_mergeSort
theorem srt_le (xs : List Int) : (srtL xs).Pairwise (· ≤ ·) := by
  have := List.pairwise_mergeSort (le := fun x y : Int => decide (x ≤ y)) (fun a b c h1 h2 => by simp at *; omega) (fun a b => by simp; omega) xs
  exact this.imp fun h => by simpa using h
def cutL (xs : List Int) : List Int := Lib.compact (srtL xs)
theorem upTo_mem (d : Array Int) (x : Int) : ∀ m, x ∈ Lib.compactUpTo d m ↔ ∃ j, j < m ∧ d[j]! = x
  | 0 => by simp [Lib.compactUpTo]
  | m + 1 => by
    rw [Lib.compactUpTo_succ, List.mem_append, upTo_mem d x m]
    constructor
    · rintro (⟨j, hj, e⟩ | h)
      · exact ⟨j, by omega, e⟩
      · split at h
        · simp only [List.mem_singleton] at h; exact ⟨m, by omega, h.symm⟩
        · simp at h
    · rintro ⟨j, hj, e⟩
      by_cases hjm : j < m
      · exact .inl ⟨j, hjm, e⟩
      · obtain rfl : j = m := by omega
        by_cases hk : Lib.keeps d j = true
        · exact .inr (by rw [if_pos hk]; simp [e])
        · have hk' : ¬ (j = 0 ∨ d[j]! ≠ d[j - 1]!) := by simpa [Lib.keeps] using hk
          have h0 : j ≠ 0 := fun h => hk' (.inl h)
          have h1 : d[j]! = d[j - 1]! := Classical.byContradiction fun h => hk' (.inr h)
          exact .inl ⟨j - 1, by omega, by rw [← h1]; exact e⟩
theorem upTo_lt (d : Array Int) (hd : ∀ i j, i < j → j < d.size → d[i]! ≤ d[j]!) : ∀ m, m ≤ d.size → (Lib.compactUpTo d m).Pairwise (· < ·)
  | 0, _ => by simp [Lib.compactUpTo]
  | m + 1, hm => by
    rw [Lib.compactUpTo_succ]
    refine List.pairwise_append.2 ⟨upTo_lt d hd m (by omega), by split <;> simp, fun x hx y hy => ?_⟩
    split at hy
    · rename_i hk
      simp only [List.mem_singleton] at hy
      subst hy
      obtain ⟨j, hj, rfl⟩ := (upTo_mem d x m).1 hx
      have hk' : m = 0 ∨ d[m]! ≠ d[m - 1]! := by simpa [Lib.keeps] using hk
      have h1 : d[m - 1]! ≤ d[m]! := hd _ _ (by omega) (by omega)
      have h2 : d[j]! ≤ d[m - 1]! := by
        by_cases e : j = m - 1
        · rw [e]; omega
        · exact hd _ _ (by omega) (by omega)
      rcases hk' with h | h
      · omega
      · have h3 : d[m - 1]! ≠ d[m]! := fun e => h e.symm
        omega
    · simp at hy
theorem cut_mem {xs : List Int} {x : Int} : x ∈ cutL xs ↔ x ∈ xs := by
  unfold cutL Lib.compact
  rw [upTo_mem, ← srt_mem]
  constructor
  · rintro ⟨j, hj, e⟩
    rw [getElem!_pos (srtL xs).toArray j (by simpa using hj)] at e
    rw [← e]
    simp
  · intro h
    obtain ⟨j, hj, e⟩ := List.getElem_of_mem h
    exact ⟨j, hj, by rw [getElem!_pos (srtL xs).toArray j (by simpa using hj)]; simpa using e⟩
theorem cut_lt (xs : List Int) : (cutL xs).Pairwise (· < ·) := by
  unfold cutL Lib.compact
  refine upTo_lt _ (fun i j hij hj => ?_) _ (by simp)
  rw [getElem!_pos (srtL xs).toArray i (by omega), getElem!_pos (srtL xs).toArray j hj]
  simpa using List.pairwise_iff_getElem.1 (srt_le xs) i j (by simp at hj; omega) (by simpa using hj) hij
theorem cut_len (xs : List Int) : (cutL xs).length ≤ xs.length := by
  unfold cutL Lib.compact Lib.compactUpTo
  rw [List.length_map]
  have := List.length_filter_le (Lib.keeps (srtL xs).toArray) (List.range (srtL xs).length)
  rw [List.length_range, srt_len] at this
  rw [srt_len]
  exact this
/-- Rising lists of the same members are the same. -/
theorem rising_eqI : ∀ {l m : List Int}, l.Pairwise (· < ·) → m.Pairwise (· < ·) → (∀ x, x ∈ l ↔ x ∈ m) → l = m
  | [], [], _, _, _ => rfl
  | [], y :: m, _, _, h => by have := (h y).2 (by simp); simp at this
  | x :: l, [], _, _, h => by have := (h x).1 (by simp); simp at this
  | x :: l, y :: m, hl, hm, h => by
    obtain ⟨hl1, hl2⟩ := List.pairwise_cons.1 hl
    obtain ⟨hm1, hm2⟩ := List.pairwise_cons.1 hm
    have e : x = y := by
      have h1 := (h x).1 (by simp)
      have h2 := (h y).2 (by simp)
      rcases List.mem_cons.1 h1 with h1 | h1
      · exact h1
      · rcases List.mem_cons.1 h2 with h2 | h2
        · exact h2.symm
        · have := hm1 x h1
          have := hl1 y h2
          omega
    subst e
    rw [rising_eqI hl2 hm2 fun z => ?_]
    have := h z
    simp only [List.mem_cons] at this
    constructor
    · intro hz
      have h3 := hl1 z hz
      rcases this.1 (.inr hz) with e | e
      · omega
      · exact e
    · intro hz
      have h3 := hm1 z hz
      rcases this.2 (.inr hz) with e | e
      · omega
      · exact e
theorem fr_setCells (g : Nat) : ∀ (vs : List Value) (o : Nat) (w : World), Fr (fun k => k = g) w (w.setCells g o vs)
  | [], _, w => Fr.refl _ w
  | v :: r, o, w => (Fr.set_ (S := fun k => k = g) w ⟨g, o, none⟩ v rfl).trans (fr_setCells g r (o + 1) _) (fun _ _ h => h)
theorem own_take {w : World} {base sz n c m : Nat} {e : TypeId} {A : Option Addr} {xs : List Value} (h : w.ownsRow base e sz (.slice A n c) n xs) (hm : m ≤ n) : w.ownsRow base e sz (.slice A m c) m (xs.take (m * sz)) := by
  have hle : m * sz ≤ n * sz := Nat.mul_le_mul_right _ hm
  refine ⟨by rw [List.length_take, h.1]; omega, ?_⟩
  rcases h.2 with ⟨hv, h0⟩ | ⟨g, cap, cur, hv, hbg, hgg, h1, h2, h3, h4⟩
  · injection hv with e1 e2 e3
    subst e1 e3
    obtain rfl : m = 0 := by omega
    exact .inl ⟨rfl, rfl⟩
  · injection hv with e1 e2 e3
    subst e1 e3
    exact .inr ⟨g, _, cur, rfl, hbg, hgg, by omega, h2, h3, by rw [← h4, List.take_take, Nat.min_eq_left hle]⟩
section
variable {w : World} {base : Nat} {v : Value} {xs : List Int}
theorem own_holds {g c : Nat} (h : w.ownsRow base 3 1 (.slice (some ⟨g, 0, none⟩) xs.length c) xs.length (xs.map (Value.int .i64))) : Holds (Value.int .i64) w g 0 xs.toArray := by
  intro j hj
  have hj' : j < xs.length := by simpa using hj
  have := own_cel h (j := j) (u := .int .i64 xs[j]) (by rw [List.getElem?_map, List.getElem?_eq_getElem hj']; rfl)
  rw [getElem!_pos xs.toArray j hj]
  rw [Nat.zero_add]
  obtain ⟨h1, h2⟩ := this
  exact ⟨by simpa using h1, h2⟩
theorem sortInt_any (h : w.ownsRow base 3 1 v xs.length (xs.map (Value.int .i64))) (hn : xs.length < 4611686018427387904) :
    Calls Tryd.prog 76 #[v] w fun e w' => e = .returned (.tuple #[]) ∧ Fr (fun k => v.ownBlock = some k) w w' ∧ w'.ownsRow base 3 1 v xs.length ((srtL xs).map (Value.int .i64)) := by
  rcases Nat.eq_zero_or_pos xs.length with h0 | h0
  · obtain ⟨A, c, rfl, _⟩ := own_form h
    have hx : xs = [] := List.eq_nil_of_length_eq_zero h0
    subst hx
    refine (Tryd.slices_Sort_int_none A c w).mono ?_
    rintro e w' ⟨rfl, rfl⟩
    exact ⟨rfl, Fr.refl _ _, by simpa [srtL] using h⟩
  · obtain ⟨g, c, rfl, _, _, hb, hg⟩ := own_pos h h0
    refine (Tryd.slices_Sort_int g 0 c xs w (own_holds h) hg hn).mono ?_
    rintro e w' ⟨rfl, n, os, rfl⟩
    have hs := sg_own (enc := Value.int .i64) (m := n) (dk := (srtL xs).toArray) (os := os) (w := w) (blk := g) (base := base) (c := c) (e := 3) (xs := xs.map (Value.int .i64)) (by simpa [srt_len] using h)
    refine ⟨rfl, sg_fr.weak (fun k _ e => by simp only [e]; rfl), ?_⟩
    have e : (srtL xs).toArray.size = xs.length := by simp [srt_len]
    rw [e] at hs
    exact hs
theorem compactInt_any (h : w.ownsRow base 3 1 v xs.length (xs.map (Value.int .i64))) (hn : xs.length ≤ 9223372036854775807) :
    Calls Tryd.prog 77 #[v] w fun e w' => ∃ A c, v = .slice A xs.length c ∧ e = .returned (.slice A (Lib.compact xs).length c) ∧ Fr (fun k => v.ownBlock = some k) w w' ∧ w'.ownsRow base 3 1 (.slice A (Lib.compact xs).length c) (Lib.compact xs).length ((Lib.compact xs).map (Value.int .i64)) := by
  rcases Nat.eq_zero_or_pos xs.length with h0 | h0
  · obtain ⟨A, c, rfl, _⟩ := own_form h
    have hx : xs = [] := List.eq_nil_of_length_eq_zero h0
    subst hx
    refine (Tryd.slices_Compact_int_empty A c w).mono ?_
    rintro e w' ⟨rfl, rfl⟩
    exact ⟨A, c, rfl, rfl, Fr.refl _ _, h⟩
  · obtain ⟨g, c, rfl, hnc, _, hb, hg⟩ := own_pos h h0
    have hcell : ∀ j, j < xs.length → w.cell? ⟨g, 0 + j, none⟩ = some (.int .i64 (xs.getD j 0)) ∧ w.frozen? ⟨g, 0 + j, none⟩ = false := fun j hj => by
      have := own_cel h (j := j) (u := .int .i64 xs[j]) (by rw [List.getElem?_map, List.getElem?_eq_getElem hj]; rfl)
      rw [Nat.zero_add, List.getD_eq_getElem?_getD, List.getElem?_eq_getElem hj]
      exact this
    refine (Tryd.slices_Compact_int_cells g 0 xs.length c xs w (Nat.le_refl _) hn hnc (fun j hj => (hcell j hj).1) (fun j hj => (hcell j hj).2)).mono ?_
    rintro e w' ⟨rfl, q, rfl⟩
    rw [List.take_length]
    have hle : (Lib.compact xs).length ≤ xs.length := by
      unfold Lib.compact Lib.compactUpTo
      rw [List.length_map]
      have := List.length_filter_le (Lib.keeps xs.toArray) (List.range xs.length)
      rwa [List.length_range] at this
    have h1 : (w.drewN q).ownsRow base 3 1 (.slice (some ⟨g, 0, none⟩) xs.length c) xs.length ([] ++ xs.map (Value.int .i64)) := h
    have h2 := own_setCells rfl ((Lib.compact xs ++ List.replicate (xs.length - (Lib.compact xs).length) 0).map (Value.int .i64)) [] (xs.map (Value.int .i64)) (w.drewN q) (by simp; omega) h1
    have h3 := own_take h2 hle
    refine ⟨_, _, rfl, rfl, ?_, ?_⟩
    · refine ((Fr.of_below (S := fun k => (Value.slice (some ⟨g, 0, none⟩) xs.length c).ownBlock = some k) (below_drewN (Below.refl _ w) q)).trans (T := fun k => k = g) ?_ fun k _ e => by simp only [e]; rfl)
      exact fr_setCells g _ _ _
    · simpa using h3
end
end Go.Proofs.YtimhlnndobfehaaDoor
