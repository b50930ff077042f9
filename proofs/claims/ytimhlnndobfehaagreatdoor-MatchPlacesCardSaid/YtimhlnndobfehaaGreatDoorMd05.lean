/- Places to which a pattern lies in letters: as steps on sets of places, and as a relation. Plain Lean. slices.Clone and slices.Reverse of integers. Contracts of the library, laid by the kit over this translation. slices.Sort and slices.Compact of integers that the call owns: the rising list of the same numbers. A tree of nodes in its one numbering; how long that is; when two are the same. Plain Lean. Nodes and patterns in memory. A search in memory: its nodes, its letters, what it knows. -/
import Derived.Test.YtimhlnndobfehaaGreatDoorMd04
import Derived.Test.YtimhlnndobfehaaGreatDoorShelf
import Derived.Shelf.Sort.Plain
import Derived.Shelf.Slices.In.SortNone
import Derived.Ground.Names2Prog
import Derived.Test.YtimhlnndobfehaaGreatDoorProg
import Derived.Test.YtimhlnndobfehaaGreatDoorMd02
import Derived.Test.YtimhlnndobfehaaGreatDoorMd01
namespace Go.Proofs.YtimhlnndobfehaaGreatDoor
set_option linter.unusedVariables false

def takesB (x : Nd) (l : Lt) : Bool := if x.kind = 2 then decide (x.rune = l.rune) else if x.kind = 3 then likeL l x.plus.toNat x.minus.toNat else decide (x.kind = 4)

/-- Is a place in a set? -/
def On (S : List Bool) (j : Nat) : Prop := S[j]? = some true
instance (S : List Bool) (j : Nat) : Decidable (On S j) := inferInstanceAs (Decidable (S[j]? = some true))
def noneS (n : Nat) : List Bool := List.replicate n false
def singleS (n i : Nat) : List Bool := (noneS n).set i true
def joinS (a b : List Bool) : List Bool := (List.range a.length).map fun i => a.getD i false || b.getD i false
def edgeS (S : List Bool) : List Bool := (List.range S.length).map fun i => S.getD i false && (i == 0 || i + 1 == S.length)
def shiftS (x : Nd) (L : List Lt) (S : List Bool) : List Bool := (List.range S.length).map fun
  | 0 => false
  | i + 1 => S.getD i false && (match L[i]? with | some l => takesB x l | none => false)
def starS (g : List Bool → List Bool) : Nat → List Bool → List Bool
  | 0, S => S
  | n + 1, S => starS g n (joinS S (g S))

/-- A node's step, given the kids'. -/
def bodyS (L : List Lt) (g : Nat → List Bool → List Bool) (x : Nd) (S : List Bool) : List Bool :=
  if x.kind = 1 then S else if x.kind = 5 then edgeS S
  else if x.kind = 6 then x.kids.foldl (fun T c => g c.toNat T) S
  else if x.kind = 7 then x.kids.foldl (fun T c => joinS T (g c.toNat S)) (noneS S.length)
  else if x.kind = 9 then joinS S (match x.kids with | c :: _ => g c.toNat S | [] => noneS S.length)
  else if x.kind = 8 then (match x.kids with | c :: _ => starS (g c.toNat) S.length S | [] => S)
  else shiftS x L S
def stepS (ns : List Nd) (L : List Lt) : Nat → Nat → List Bool → List Bool
  | 0, _, S => noneS S.length
  | f + 1, k, S => match ns[k]? with | none => noneS S.length | some x => bodyS L (stepS ns L f) x S

inductive Star (R : Nat → Nat → Prop) : Nat → Nat → Prop
  | refl (i : Nat) : Star R i i
  | tail {i m j : Nat} : Star R i m → R m j → Star R i j
def SeqR (R : Nat → Nat → Nat → Prop) : List Int → Nat → Nat → Prop
  | [], i, j => i = j
  | c :: r, i, j => ∃ m, R c.toNat i m ∧ SeqR R r m j
def Body (L : List Lt) (R : Nat → Nat → Nat → Prop) (x : Nd) (i j : Nat) : Prop :=
  if x.kind = 1 then i = j else if x.kind = 5 then i = j ∧ (i = 0 ∨ i = L.length)
  else if x.kind = 6 then SeqR R x.kids i j
  else if x.kind = 7 then ∃ c ∈ x.kids, R c.toNat i j
  else if x.kind = 9 then i = j ∨ ∃ c, x.kids.head? = some c ∧ R c.toNat i j
  else if x.kind = 8 then i = j ∨ ∃ c, x.kids.head? = some c ∧ Star (R c.toNat) i j
  else j = i + 1 ∧ ∃ l, L[i]? = some l ∧ takesB x l = true
def Rel (ns : List Nd) (L : List Lt) : Nat → Nat → Nat → Nat → Prop
  | 0, _, _, _ => False
  | f + 1, k, i, j => match ns[k]? with | none => False | some x => Body L (Rel ns L f) x i j

theorem on_lt {S : List Bool} {j : Nat} (h : On S j) : j < S.length := (List.getElem?_eq_some_iff.1 h).1
theorem on_getD {S : List Bool} {j : Nat} : S.getD j false = true ↔ On S j := by
  unfold On
  rw [List.getD_eq_getElem?_getD]
  cases S[j]? with
  | none => simp
  | some b => simp
theorem on_none {n j : Nat} : ¬ On (noneS n) j := by
  unfold On noneS
  rw [List.getElem?_replicate]
  split <;> simp
theorem none_len (n : Nat) : (noneS n).length = n := by unfold noneS; simp
theorem on_single {n i j : Nat} (hi : i < n) : On (singleS n i) j ↔ i = j := by
  unfold On singleS
  rw [List.getElem?_set]
  by_cases h : i = j
  · subst h; simp [none_len, hi]
  · simp only [h, if_false, iff_false]
    exact on_none
theorem single_len (n i : Nat) : (singleS n i).length = n := by unfold singleS; rw [List.length_set, none_len]
theorem on_range {n : Nat} {f : Nat → Bool} {j : Nat} : On ((List.range n).map f) j ↔ j < n ∧ f j = true := by
  unfold On
  rw [List.getElem?_map]
  by_cases h : j < n
  · rw [List.getElem?_range h]
    simp [h]
  · rw [List.getElem?_eq_none (by simpa using h)]
    simp [h]
theorem on_join {a b : List Bool} {j : Nat} (h : a.length = b.length) : On (joinS a b) j ↔ On a j ∨ On b j := by
  unfold joinS
  rw [on_range, Bool.or_eq_true, on_getD, on_getD]
  constructor
  · exact fun h => h.2
  · rintro (h1 | h1)
    · exact ⟨on_lt h1, .inl h1⟩
    · exact ⟨by have := on_lt h1; omega, .inr h1⟩
theorem join_len (a b : List Bool) : (joinS a b).length = a.length := by unfold joinS; simp

theorem SeqR.mono {R : Nat → Nat → Nat → Prop} (h : ∀ c i j, R c i j → i ≤ j) : ∀ {l : List Int} {i j : Nat}, SeqR R l i j → i ≤ j
  | [], _, _, e => Nat.le_of_eq e
  | _ :: _, _, _, ⟨m, h1, h2⟩ => Nat.le_trans (h _ _ _ h1) (SeqR.mono h h2)
theorem Star.mono {R : Nat → Nat → Prop} (h : ∀ i j, R i j → i ≤ j) {i j : Nat} (s : Star R i j) : i ≤ j := by
  induction s with
  | refl => exact Nat.le_refl _
  | tail _ h2 ih => exact Nat.le_trans ih (h _ _ h2)
theorem SeqR.max {R : Nat → Nat → Nat → Prop} {n : Nat} (h : ∀ c i j, i ≤ n → R c i j → j ≤ n) : ∀ {l : List Int} {i j : Nat}, i ≤ n → SeqR R l i j → j ≤ n
  | [], _, _, hi, e => by have : _ = _ := e; omega
  | _ :: _, _, _, hi, ⟨m, h1, h2⟩ => SeqR.max h (h _ _ _ hi h1) h2
theorem Star.max {R : Nat → Nat → Prop} {n : Nat} (h : ∀ i j, i ≤ n → R i j → j ≤ n) {i j : Nat} (hi : i ≤ n) (s : Star R i j) : j ≤ n := by
  induction s with
  | refl => exact hi
  | tail _ h2 ih => exact h _ _ ih h2
theorem rel_mono (ns : List Nd) (L : List Lt) : ∀ (f k i j : Nat), Rel ns L f k i j → i ≤ j
  | 0, _, _, _, h => h.elim
  | f + 1, k, i, j, h => by
    have ih := rel_mono ns L f
    unfold Rel at h
    cases hx : ns[k]? with
    | none => rw [hx] at h; exact h.elim
    | some x =>
      rw [hx] at h
      simp only at h
      unfold Body at h
      split at h
      · omega
      · split at h
        · omega
        · split at h
          · exact SeqR.mono ih h
          · split at h
            · obtain ⟨c, _, h⟩ := h
              exact ih _ _ _ h
            · split at h
              · rcases h with h | ⟨c, _, h⟩
                · omega
                · exact ih _ _ _ h
              · split at h
                · rcases h with h | ⟨c, _, h⟩
                  · omega
                  · exact Star.mono (ih _) h
                · omega
theorem rel_max (ns : List Nd) (L : List Lt) : ∀ (f k i j : Nat), i ≤ L.length → Rel ns L f k i j → j ≤ L.length
  | 0, _, _, _, _, h => h.elim
  | f + 1, k, i, j, hi, h => by
    have ih := rel_max ns L f
    unfold Rel at h
    cases hx : ns[k]? with
    | none => rw [hx] at h; exact h.elim
    | some x =>
      rw [hx] at h
      simp only at h
      unfold Body at h
      split at h
      · omega
      · split at h
        · omega
        · split at h
          · exact SeqR.max ih hi h
          · split at h
            · obtain ⟨c, _, h⟩ := h
              exact ih _ _ _ hi h
            · split at h
              · rcases h with h | ⟨c, _, h⟩
                · omega
                · exact ih _ _ _ hi h
              · split at h
                · rcases h with h | ⟨c, _, h⟩
                  · omega
                  · exact Star.max (ih _) hi h
                · obtain ⟨h1, l, h2, _⟩ := h
                  have := (List.getElem?_eq_some_iff.1 h2).1
                  omega

/-- A step on sets does what the relation says. -/
def Steps (n : Nat) (g : List Bool → List Bool) (R : Nat → Nat → Prop) : Prop :=
  ∀ S : List Bool, S.length = n + 1 → (g S).length = n + 1 ∧ ∀ j, On (g S) j ↔ ∃ i, On S i ∧ R i j
theorem steps_seq {n : Nat} {g : Nat → List Bool → List Bool} {R : Nat → Nat → Nat → Prop} (h : ∀ c, Steps n (g c) (R c)) : ∀ l : List Int, Steps n (fun S => l.foldl (fun T c => g c.toNat T) S) (SeqR R l)
  | [], S, hS => ⟨hS, fun j => ⟨fun h => ⟨j, h, rfl⟩, fun ⟨i, h, e⟩ => by have e : i = j := e; subst e; exact h⟩⟩
  | c :: r, S, hS => by
    obtain ⟨h1, h2⟩ := h c.toNat S hS
    obtain ⟨h3, h4⟩ := steps_seq h r (g c.toNat S) h1
    refine ⟨h3, fun j => (h4 j).trans ⟨?_, ?_⟩⟩
    · rintro ⟨m, hm, hr⟩
      obtain ⟨i, hi, hc⟩ := (h2 m).1 hm
      exact ⟨i, hi, m, hc, hr⟩
    · rintro ⟨i, hi, m, hc, hr⟩
      exact ⟨m, (h2 m).2 ⟨i, hi, hc⟩, hr⟩
theorem steps_or {n : Nat} {g : Nat → List Bool → List Bool} {R : Nat → Nat → Nat → Prop} (h : ∀ c, Steps n (g c) (R c)) (S : List Bool) (hS : S.length = n + 1) :
    ∀ (l : List Int) (T : List Bool), T.length = n + 1 → (l.foldl (fun T c => joinS T (g c.toNat S)) T).length = n + 1 ∧ ∀ j, On (l.foldl (fun T c => joinS T (g c.toNat S)) T) j ↔ On T j ∨ ∃ i, On S i ∧ ∃ c ∈ l, R c.toNat i j
  | [], T, hT => ⟨hT, fun j => by simp⟩
  | c :: r, T, hT => by
    obtain ⟨h1, h2⟩ := h c.toNat S hS
    obtain ⟨h3, h4⟩ := steps_or h S hS r (joinS T (g c.toNat S)) (by rw [join_len, hT])
    refine ⟨h3, fun j => (h4 j).trans ?_⟩
    rw [on_join (by omega), h2 j, or_assoc]
    refine or_congr Iff.rfl ⟨?_, ?_⟩
    · rintro (⟨i, hi, hc⟩ | ⟨i, hi, d, hd, hc⟩)
      · exact ⟨i, hi, c, by simp, hc⟩
      · exact ⟨i, hi, d, by simp [hd], hc⟩
    · rintro ⟨i, hi, d, hd, hc⟩
      rcases List.mem_cons.1 hd with rfl | hd
      · exact .inl ⟨i, hi, hc⟩
      · exact .inr ⟨i, hi, d, hd, hc⟩
/-- Within so many steps. -/
def Near (R : Nat → Nat → Prop) : Nat → Nat → Nat → Prop
  | 0, i, j => i = j
  | n + 1, i, j => ∃ m, (i = m ∨ R i m) ∧ Near R n m j
theorem near_snoc {R : Nat → Nat → Prop} : ∀ {n i m j : Nat}, Near R n i m → (m = j ∨ R m j) → Near R (n + 1) i j
  | 0, _, _, _, e, h => by have e : _ = _ := e; subst e; exact ⟨_, h, rfl⟩
  | n + 1, _, _, _, ⟨p, h1, h2⟩, h => ⟨p, h1, near_snoc h2 h⟩
theorem near_star {R : Nat → Nat → Prop} : ∀ {n i m j : Nat}, Star R i m → Near R n m j → Star R i j
  | 0, _, _, _, s, e => by have e : _ = _ := e; subst e; exact s
  | n + 1, _, _, _, s, ⟨p, h1, h2⟩ => near_star (h1.elim (fun e => e ▸ s) s.tail) h2
theorem star_near {R : Nat → Nat → Prop} (hm : ∀ i j, R i j → i ≤ j) {i j : Nat} (s : Star R i j) : ∀ n, j - i ≤ n → Near R n i j := by
  have hself : ∀ n i, Near R n i i := by
    intro n
    induction n with
    | zero => exact fun _ => rfl
    | succ n ih => exact fun i => ⟨i, .inl rfl, ih i⟩
  induction s with
  | refl => exact fun n _ => hself n _
  | @tail m j s h ih =>
    intro n hn
    have h1 := s.mono hm
    have h2 := hm _ _ h
    by_cases e : m = j
    · subst e; exact ih n hn
    · obtain ⟨q, rfl⟩ : ∃ q, n = q + 1 := ⟨n - 1, by omega⟩
      exact near_snoc (ih q (by omega)) (.inr h)
theorem steps_near {n : Nat} {g : List Bool → List Bool} {R : Nat → Nat → Prop} (h : Steps n g R) : ∀ q, Steps n (starS g q) (Near R q)
  | 0, S, hS => ⟨hS, fun j => ⟨fun h => ⟨j, h, rfl⟩, fun ⟨i, h, e⟩ => by have e : i = j := e; subst e; exact h⟩⟩
  | q + 1, S, hS => by
    obtain ⟨h1, h2⟩ := h S hS
    obtain ⟨h3, h4⟩ := steps_near h q (joinS S (g S)) (by rw [join_len, hS])
    refine ⟨h3, fun j => (h4 j).trans ⟨?_, ?_⟩⟩
    · rintro ⟨m, hm, hr⟩
      rw [on_join (by omega), h2 m] at hm
      rcases hm with hm | ⟨i, hi, hc⟩
      · exact ⟨m, hm, m, .inl rfl, hr⟩
      · exact ⟨i, hi, m, .inr hc, hr⟩
    · rintro ⟨i, hi, m, hc, hr⟩
      refine ⟨m, ?_, hr⟩
      rw [on_join (by omega), h2 m]
      rcases hc with rfl | hc
      · exact .inl hi
      · exact .inr ⟨i, hi, hc⟩
theorem steps_star {n : Nat} {g : List Bool → List Bool} {R : Nat → Nat → Prop} (h : Steps n g R) (hm : ∀ i j, R i j → i ≤ j) (hx : ∀ i j, i ≤ n → R i j → j ≤ n) : Steps n (starS g (n + 1)) (Star R) := fun S hS => by
  obtain ⟨h1, h2⟩ := steps_near h (n + 1) S hS
  refine ⟨h1, fun j => (h2 j).trans ⟨fun ⟨i, hi, hc⟩ => ⟨i, hi, near_star (.refl i) hc⟩, fun ⟨i, hi, hc⟩ => ⟨i, hi, star_near hm hc _ ?_⟩⟩⟩
  have := hc.max hx (by have := on_lt hi; omega)
  omega
theorem body_steps {n : Nat} {L : List Lt} (hn : L.length = n) {g : Nat → List Bool → List Bool} {R : Nat → Nat → Nat → Prop} (h : ∀ c, Steps n (g c) (R c)) (hm : ∀ c i j, R c i j → i ≤ j) (hx : ∀ c i j, i ≤ n → R c i j → j ≤ n) (x : Nd) : Steps n (bodyS L g x) (Body L R x) := by
  intro S hS
  unfold bodyS Body
  by_cases k1 : x.kind = 1
  · simp only [k1, if_true]
    exact ⟨hS, fun j => ⟨fun h => ⟨j, h, rfl⟩, fun ⟨i, h, e⟩ => by subst e; exact h⟩⟩
  simp only [if_neg k1]
  by_cases k5 : x.kind = 5
  · simp only [k5, if_true]
    refine ⟨by unfold edgeS; simp [hS], fun j => ?_⟩
    unfold edgeS
    rw [on_range]
    simp only [Bool.and_eq_true, on_getD, Bool.or_eq_true, beq_iff_eq]
    constructor
    · rintro ⟨_, h1, h2⟩; exact ⟨j, h1, rfl, by omega⟩
    · rintro ⟨i, h1, rfl, h2⟩; have := on_lt h1; exact ⟨this, h1, by omega⟩
  simp only [if_neg k5]
  by_cases k6 : x.kind = 6
  · simp only [k6, if_true]; exact steps_seq h x.kids S hS
  simp only [if_neg k6]
  by_cases k7 : x.kind = 7
  · simp only [k7, if_true]
    obtain ⟨h1, h2⟩ := steps_or h S hS x.kids (noneS S.length) (by rw [none_len, hS])
    refine ⟨h1, fun j => (h2 j).trans ?_⟩
    simp only [on_none, false_or]
  simp only [if_neg k7]
  by_cases k9 : x.kind = 9
  · simp only [k9, if_true]
    cases hk : x.kids with
    | nil =>
      refine ⟨by rw [join_len, hS], fun j => ?_⟩
      rw [on_join (by rw [none_len])]
      simp only [on_none, or_false, List.head?_nil, reduceCtorEq, false_and, exists_false]
      exact ⟨fun h => ⟨j, h, rfl⟩, fun ⟨i, h, e⟩ => by subst e; exact h⟩
    | cons c r =>
      obtain ⟨h1, h2⟩ := h c.toNat S hS
      refine ⟨by simp only [join_len, hS], fun j => ?_⟩
      simp only [List.head?_cons, Option.some.injEq]
      rw [on_join (by omega), h2 j]
      constructor
      · rintro (h | ⟨i, hi, hc⟩)
        · exact ⟨j, h, .inl rfl⟩
        · exact ⟨i, hi, .inr ⟨c, rfl, hc⟩⟩
      · rintro ⟨i, hi, rfl | ⟨_, rfl, hc⟩⟩
        · exact .inl hi
        · exact .inr ⟨i, hi, hc⟩
  simp only [if_neg k9]
  by_cases k8 : x.kind = 8
  · simp only [k8, if_true]
    cases hk : x.kids with
    | nil =>
      simp only [List.head?_nil, reduceCtorEq, false_and, exists_false, or_false]
      exact ⟨hS, fun j => ⟨fun h => ⟨j, h, rfl⟩, fun ⟨i, h, e⟩ => by subst e; exact h⟩⟩
    | cons c r =>
      simp only [List.head?_cons, Option.some.injEq]
      obtain ⟨h1, h2⟩ := steps_star (h c.toNat) (hm _) (hx _) S hS
      rw [hS]
      refine ⟨h1, fun j => (h2 j).trans ⟨fun ⟨i, hi, hc⟩ => ⟨i, hi, .inr ⟨c, rfl, hc⟩⟩, ?_⟩⟩
      rintro ⟨i, hi, rfl | ⟨_, rfl, hc⟩⟩
      · exact ⟨i, hi, .refl i⟩
      · exact ⟨i, hi, hc⟩
  simp only [if_neg k8]
  refine ⟨by unfold shiftS; simp [hS], fun j => ?_⟩
  unfold shiftS
  rw [on_range]
  cases j with
  | zero => simp
  | succ j =>
    simp only [Bool.and_eq_true, on_getD]
    constructor
    · rintro ⟨_, h1, h2⟩
      refine ⟨j, h1, rfl, ?_⟩
      cases hl : L[j]? with
      | none => rw [hl] at h2; cases h2
      | some l => rw [hl] at h2; exact ⟨l, rfl, h2⟩
    · rintro ⟨i, h1, e, l, h2, h3⟩
      obtain rfl : j = i := by omega
      have := (List.getElem?_eq_some_iff.1 h2).1
      exact ⟨by omega, h1, by rw [h2]; exact h3⟩
theorem stepS_steps (ns : List Nd) (L : List Lt) : ∀ (f k : Nat), Steps L.length (stepS ns L f k) (Rel ns L f k)
  | 0, k, S, hS => ⟨by unfold stepS; rw [none_len, hS], fun j => by unfold stepS Rel; simp [on_none]⟩
  | f + 1, k, S, hS => by
    unfold stepS Rel
    cases ns[k]? with
    | none => exact ⟨by simp only; rw [none_len, hS], fun j => by simp [on_none]⟩
    | some x => exact body_steps rfl (stepS_steps ns L f) (rel_mono ns L f) (rel_max ns L f) x S hS

theorem SeqR.congr {R R' : Nat → Nat → Nat → Prop} : ∀ {l : List Int} {i j : Nat}, (∀ c ∈ l, ∀ i j, R c.toNat i j ↔ R' c.toNat i j) → (SeqR R l i j ↔ SeqR R' l i j)
  | [], _, _, _ => Iff.rfl
  | c :: r, i, j, h => by
    unfold SeqR
    refine exists_congr fun m => and_congr (h c (by simp) i m) (SeqR.congr fun d hd => h d (by simp [hd]))
theorem Star.imp {R R' : Nat → Nat → Prop} (h : ∀ i j, R i j → R' i j) {i j : Nat} (s : Star R i j) : Star R' i j := by
  induction s with
  | refl => exact .refl _
  | tail _ h2 ih => exact ih.tail (h _ _ h2)
theorem body_congr {L : List Lt} {R R' : Nat → Nat → Nat → Prop} {x : Nd} {i j : Nat} (h : ∀ c ∈ x.kids, ∀ i j, R c.toNat i j ↔ R' c.toNat i j) : Body L R x i j ↔ Body L R' x i j := by
  have hh : ∀ c, x.kids.head? = some c → ∀ i j, R c.toNat i j ↔ R' c.toNat i j := fun c hc => h c (List.mem_of_head? hc)
  unfold Body
  split
  · rfl
  · split
    · rfl
    · split
      · exact SeqR.congr h
      · split
        · exact exists_congr fun c => and_congr_right fun hc => h c hc i j
        · split
          · exact or_congr Iff.rfl (exists_congr fun c => and_congr_right fun hc => hh c hc i j)
          · split
            · exact or_congr Iff.rfl (exists_congr fun c => and_congr_right fun hc => ⟨Star.imp fun a b => (hh c hc a b).1, Star.imp fun a b => (hh c hc a b).2⟩)
            · rfl
/-- Kids stand behind their node. -/
def Kids (ns : List Nd) : Prop := ∀ (k : Nat) (x : Nd), ns[k]? = some x → ∀ c ∈ x.kids, (k : Int) < c ∧ c < ns.length
theorem inr_kids : ∀ {ns : List Nd} {n i : Int}, InR n i ns → ∀ (k : Nat) (x : Nd), ns[k]? = some x → ∀ c ∈ x.kids, i + k < c ∧ c < n
  | y :: r, n, i, h, 0, x, hx, c, hc => by
    simp only [List.getElem?_cons_zero, Option.some.injEq] at hx
    subst hx
    have := h.1 c hc
    omega
  | y :: r, n, i, h, k + 1, x, hx, c, hc => by
    rw [List.getElem?_cons_succ] at hx
    have := inr_kids h.2 k x hx c hc
    omega
theorem IsTree.kids {ns : List Nd} (h : IsTree ns) : Kids ns := fun k x hx c hc => by
  have := inr_kids h.inr k x hx c hc
  omega
theorem rel_fuel {ns : List Nd} {L : List Lt} (hk : Kids ns) : ∀ (f g k : Nat), ns.length - k ≤ f → ns.length - k ≤ g → ∀ i j, Rel ns L f k i j ↔ Rel ns L g k i j
  | f, g, k, hf, hg, i, j => by
    by_cases hlt : k < ns.length
    · obtain ⟨f, rfl⟩ : ∃ q, f = q + 1 := ⟨f - 1, by omega⟩
      obtain ⟨g, rfl⟩ : ∃ q, g = q + 1 := ⟨g - 1, by omega⟩
      have hx : ns[k]? = some ns[k] := List.getElem?_eq_getElem hlt
      unfold Rel
      rw [hx]
      refine body_congr fun c hc i j => ?_
      have := hk k _ hx c hc
      exact rel_fuel hk f g c.toNat (by omega) (by omega) i j
    · have hx : ns[k]? = none := List.getElem?_eq_none (by omega)
      cases f <;> cases g <;> unfold Rel <;> simp [hx]
/-- The node's pattern lies from i to j. -/
def Lies (ns : List Nd) (L : List Lt) : Nat → Nat → Nat → Prop := Rel ns L ns.length
theorem lies_iff {ns : List Nd} {L : List Lt} (hk : Kids ns) {k : Nat} {x : Nd} (hx : ns[k]? = some x) (i j : Nat) : Lies ns L k i j ↔ Body L (Lies ns L) x i j := by
  have hlt := (List.getElem?_eq_some_iff.1 hx).1
  obtain ⟨n, hn⟩ : ∃ n, ns.length = n + 1 := ⟨ns.length - 1, by omega⟩
  have e : Lies ns L k i j ↔ Body L (Rel ns L n) x i j := by
    unfold Lies
    rw [hn]
    unfold Rel
    rw [hx]
  rw [e]
  refine body_congr fun c hc i j => ?_
  have := hk k _ hx c hc
  exact rel_fuel hk _ _ _ (by omega) (by omega) i j
/-- Where it ends, begun at a place: rising. -/
def endsL (ns : List Nd) (L : List Lt) (k i : Nat) : List Nat := (List.range (L.length + 1)).filter fun j => decide (On (stepS ns L ns.length k (singleS (L.length + 1) i)) j)
theorem mem_ends {ns : List Nd} {L : List Lt} {k i j : Nat} (hi : i ≤ L.length) : j ∈ endsL ns L k i ↔ Lies ns L k i j := by
  obtain ⟨h1, h2⟩ := stepS_steps ns L ns.length k (singleS (L.length + 1) i) (single_len _ _)
  unfold endsL Lies
  rw [List.mem_filter, decide_eq_true_eq, h2 j, List.mem_range]
  constructor
  · rintro ⟨_, m, hm, h⟩
    rw [on_single (by omega)] at hm
    subst hm
    exact h
  · exact fun h => ⟨by have := rel_max ns L _ _ _ _ hi h; omega, i, (on_single (by omega)).2 rfl, h⟩
theorem ends_sorted (ns : List Nd) (L : List Lt) (k i : Nat) : (endsL ns L k i).Pairwise (· < ·) := List.Pairwise.filter _ List.pairwise_lt_range
theorem ends_le {ns : List Nd} {L : List Lt} {k i j : Nat} (h : j ∈ endsL ns L k i) : j ≤ L.length := by
  unfold endsL at h
  have := List.mem_range.1 (List.mem_filter.1 h).1
  omega
theorem ends_ge {ns : List Nd} {L : List Lt} {k i j : Nat} (hi : i ≤ L.length) (h : j ∈ endsL ns L k i) : i ≤ j := rel_mono ns L _ _ _ _ ((mem_ends hi).1 h)
theorem ends_len (ns : List Nd) (L : List Lt) (k i : Nat) : (endsL ns L k i).length ≤ L.length + 1 := by
  have := List.length_filter_le (fun j => decide (On (stepS ns L ns.length k (singleS (L.length + 1) i)) j)) (List.range (L.length + 1))
  rw [List.length_range] at this
  exact this
/-- Rising lists of the same members are the same. -/
theorem rising_eq : ∀ {l m : List Nat}, l.Pairwise (· < ·) → m.Pairwise (· < ·) → (∀ x, x ∈ l ↔ x ∈ m) → l = m
  | [], [], _, _, _ => rfl
  | [], y :: m, _, _, h => by have := (h y).2 (by simp); simp at this
  | x :: l, [], _, _, h => by have := (h x).1 (by simp); simp at this
  | x :: l, y :: m, hl, hm, h => by
    obtain ⟨hl1, hl2⟩ := List.pairwise_cons.1 hl
    obtain ⟨hm1, hm2⟩ := List.pairwise_cons.1 hm
    have e : x = y := by
      have h1 := (h x).1 (by simp)
      have h2 := (h y).2 (by simp)
      rcases List.mem_cons.1 h1 with h1 | h1
      · exact h1
      · rcases List.mem_cons.1 h2 with h2 | h2
        · exact h2.symm
        · have := hm1 x h1
          have := hl1 y h2
          omega
    subst e
    rw [rising_eq hl2 hm2 fun z => ?_]
    have := h z
    simp only [List.mem_cons] at this
    constructor
    · intro hz
      have h3 := hl1 z hz
      rcases this.1 (.inr hz) with e | e
      · omega
      · exact e
    · intro hz
      have h3 := hm1 z hz
      rcases this.2 (.inr hz) with e | e
      · omega
      · exact e
end Go.Proofs.YtimhlnndobfehaaGreatDoor
namespace Go.Proofs.YtimhlnndobfehaaGreatDoor
open Go.RowKit
set_option linter.unusedVariables false

theorem own_setCells {base sz n g : Nat} {e : TypeId} {v : Value} (hg : v.ownBlock = some g) : ∀ (rest pre old : List Value) (w : World), old.length = rest.length → w.ownsRow base e sz v n (pre ++ old) → (w.setCells g pre.length rest).ownsRow base e sz v n (pre ++ rest)
  | [], pre, [], w, _, h => by simpa [World.setCells] using h
  | r :: rest, pre, o :: old, w, hl, h => by
    have h1 := own_set h hg (j := pre.length) (by simp) r
    rw [List.set_append_right _ _ (Nat.le_refl _), Nat.sub_self, List.set_cons_zero] at h1
    have h2 := own_setCells hg rest (pre ++ [r]) old _ (by simpa using hl) (by simpa using h1)
    simpa [World.setCells, List.length_append] using h2

theorem clone_int {A : Option Addr} {c lo hi : Nat} {xs : List Int} {w : World} (hsl : Sl 1 (vInt .i64) w lo hi A xs) (hn : xs.length * 8 ≤ 140737488355328) :
    Calls Tryz.prog 61 #[.slice A xs.length c] w fun e w' => ∃ v', e = .returned v' ∧ w'.ownsRow w.heap.size 3 1 v' xs.length (xs.map (Value.int .i64)) ∧ Below w.heap.size w w' := by
  rcases Nat.eq_zero_or_pos xs.length with h0 | h0
  · have hx : xs = [] := List.eq_nil_of_length_eq_zero h0
    subst hx
    cases A with
    | none =>
      refine (Tryz.slices_Clone_int_nil 0 c w).mono ?_
      rintro e w' ⟨rfl, rfl⟩
      exact ⟨_, rfl, World.ownsRow_nil _ _ _ _, Below.refl _ _⟩
    | some a =>
      refine (Tryz.slices_Clone_int_zero a c w).mono ?_
      rintro e w' ⟨v', rfl, h1, _, h2⟩
      exact ⟨_, rfl, h1, h2⟩
  · obtain ⟨b, off, rfl, _⟩ := hsl h0
    refine (Tryz.slices_Clone_int b off xs.length c xs w (Nat.le_refl _) hn (fun j hj => ?_)).mono ?_
    · obtain ⟨b', off', e, _, _, hc, _⟩ := ints_at hsl hj
      injection e with e
      injection e with e1 e2
      subst e1 e2
      rw [hc.1, List.getD_eq_getElem?_getD, List.getElem?_eq_getElem hj]
      rfl
    · rintro e w' ⟨v', rfl, h1, _, h2⟩
      rw [List.take_of_length_le (Nat.le_refl _)] at h1
      exact ⟨_, rfl, h1, h2⟩

theorem reverse_int {base : Nat} {v : Value} {xs : List Int} {w : World} (h : w.ownsRow base 3 1 v xs.length (xs.map (Value.int .i64))) (hn : xs.length ≤ maxLen) :
    Calls Tryz.prog 81 #[v] w fun e w' => e = .returned (.tuple #[]) ∧ w'.ownsRow base 3 1 v xs.length (xs.reverse.map (Value.int .i64)) ∧ Fr (fun k => v.ownBlock = some k) w w' := by
  rcases Nat.eq_zero_or_pos xs.length with h0 | h0
  · have hx : xs = [] := List.eq_nil_of_length_eq_zero h0
    subst hx
    obtain ⟨A, c, rfl, _, _⟩ := own_form h
    refine (Tryz.slices_Reverse_int_empty A c w).mono ?_
    rintro e w' ⟨rfl, rfl⟩
    exact ⟨rfl, h, Fr.refl _ _⟩
  · obtain ⟨g, c, rfl, h1, h2, h3, h4⟩ := own_pos h h0
    refine (Tryz.slices_Reverse_int_cells g 0 xs.length c xs w (Nat.le_refl _) (by unfold maxLen at hn; omega) (fun j hj => ?_) (fun j hj => ?_)).mono ?_
    · rw [Nat.zero_add]
      refine (own_cel h ?_).1
      rw [List.getElem?_map, List.getD_eq_getElem?_getD, List.getElem?_eq_getElem hj]
      rfl
    · rw [Nat.zero_add]
      refine (own_cel h (u := .int .i64 xs[j]) ?_).2
      rw [List.getElem?_map, List.getElem?_eq_getElem hj]
      rfl
    · rintro e w' ⟨rfl, q, rfl⟩
      rw [List.take_of_length_le (Nat.le_refl _)]
      have hq : (w.drewN q).ownsRow base 3 1 (.slice (some ⟨g, 0, none⟩) xs.length c) xs.length (xs.map (Value.int .i64)) := h
      refine ⟨rfl, ?_, ?_⟩
      · exact own_setCells (g := g) rfl (xs.reverse.map (Value.int .i64)) [] (xs.map (Value.int .i64)) _ (by simp) hq
      · have hb : ∀ (vs : List Value) (o : Nat) (w0 : World), Fr (fun k => k = g) w0 (w0.setCells g o vs) := by
          intro vs
          induction vs with
          | nil => exact fun o w0 => Fr.refl _ _
          | cons x r ih => exact fun o w0 => (Fr.set_ (S := fun k => k = g) w0 ⟨g, o, none⟩ x rfl).trans (ih _ _) (fun k _ h => h)
        exact (((Fr.refl (fun k => k = g) w).drewN q).trans (hb _ _ _) (fun k _ h => h)).weak (fun k _ e => by subst e; rfl)
end Go.Proofs.YtimhlnndobfehaaGreatDoor
namespace Go.Proofs
open Go.Shelf
def Tryz.lays189_ren : Go.Shelf.Ren := ⟨fun | 189 => 94 | 125 => 125 | 257 => 124 | 128 => 152 | 129 => 153 | 294 => 143 | 295 => 144 | 296 => 145 | 297 => 146 | 298 => 147 | 299 => 148 | 216 => 149 | 300 => 150 | 301 => 151 | 328 => 168 | 329 => 169 | 330 => 170 | 331 => 171 | 332 => 172 | 215 => 173 | 343 => 180 | n => n, fun | 28 => 45 | 3 => 3 | 46 => 155 | 0 => 0 | 51 => 64 | 53 => 201 | 4 => 4 | 183 => 193 | 182 => 192 | 131 => 175 | 5 => 5 | 9 => 9 | 218 => 209 | 222 => 213 | 228 => 223 | 229 => 224 | n => n, fun | n => n⟩
theorem Tryz.lays189 : Go.Proofs.Lays.n189 Tryz.prog Tryz.lays189_ren := {
  mixed := by kernel_rfl
  f125 := Tryz.func125.trans (congrArg some (by kernel_rfl))
  f128 := Tryz.func152.trans (congrArg some (by kernel_rfl))
  f129 := Tryz.func153.trans (congrArg some (by kernel_rfl))
  f189 := Tryz.func94.trans (congrArg some (by kernel_rfl))
  f215 := Tryz.func173.trans (congrArg some (by kernel_rfl))
  f216 := Tryz.func149.trans (congrArg some (by kernel_rfl))
  f257 := Tryz.func124.trans (congrArg some (by kernel_rfl))
  f294 := Tryz.func143.trans (congrArg some (by kernel_rfl))
  f295 := Tryz.func144.trans (congrArg some (by kernel_rfl))
  f296 := Tryz.func145.trans (congrArg some (by kernel_rfl))
  f297 := Tryz.func146.trans (congrArg some (by kernel_rfl))
  f298 := Tryz.func147.trans (congrArg some (by kernel_rfl))
  f299 := Tryz.func148.trans (congrArg some (by kernel_rfl))
  f300 := Tryz.func150.trans (congrArg some (by kernel_rfl))
  f301 := Tryz.func151.trans (congrArg some (by kernel_rfl))
  f328 := Tryz.func168.trans (congrArg some (by kernel_rfl))
  f329 := Tryz.func169.trans (congrArg some (by kernel_rfl))
  f330 := Tryz.func170.trans (congrArg some (by kernel_rfl))
  f331 := Tryz.func171.trans (congrArg some (by kernel_rfl))
  f332 := Tryz.func172.trans (congrArg some (by kernel_rfl))
  f343 := Tryz.func180.trans (congrArg some (by kernel_rfl))
  t0 := Tryz.underlying0
  a0 := Tryz.isAgg0
  z0 := Tryz.sizeOf0
  v0 := Tryz.zeroValue0
  t3 := Tryz.underlying3
  a3 := Tryz.isAgg3
  z3 := Tryz.sizeOf3
  v3 := Tryz.zeroValue3
  t4 := Tryz.underlying4
  a4 := Tryz.isAgg4
  z4 := Tryz.sizeOf4
  v4 := Tryz.zeroValue4
  t5 := Tryz.underlying5
  a5 := Tryz.isAgg5
  z5 := Tryz.sizeOf5
  v5 := Tryz.zeroValue5
  t9 := Tryz.underlying9
  a9 := Tryz.isAgg9
  z9 := Tryz.sizeOf9
  v9 := Tryz.zeroValue9
  t28 := Tryz.underlying45
  a28 := Tryz.isAgg45
  z28 := Tryz.sizeOf45
  v28 := Tryz.zeroValue45
  t46 := Tryz.underlying155
  a46 := Tryz.isAgg155
  z46 := Tryz.sizeOf155
  v46 := Tryz.zeroValue155
  t51 := Tryz.underlying64
  a51 := Tryz.isAgg64
  z51 := Tryz.sizeOf64
  v51 := Tryz.zeroValue64
  t53 := Tryz.underlying201
  a53 := Tryz.isAgg201
  z53 := Tryz.sizeOf201
  v53 := Tryz.zeroValue201
  t131 := Tryz.underlying175
  a131 := Tryz.isAgg175
  z131 := Tryz.sizeOf175
  v131 := Tryz.zeroValue175
  t182 := Tryz.underlying192
  a182 := Tryz.isAgg192
  z182 := Tryz.sizeOf192
  v182 := Tryz.zeroValue192
  t183 := Tryz.underlying193
  a183 := Tryz.isAgg193
  z183 := Tryz.sizeOf193
  v183 := Tryz.zeroValue193
  t218 := Tryz.underlying209
  a218 := Tryz.isAgg209
  z218 := Tryz.sizeOf209
  v218 := Tryz.zeroValue209
  t222 := Tryz.underlying213
  a222 := Tryz.isAgg213
  z222 := Tryz.sizeOf213
  v222 := Tryz.zeroValue213
  t228 := Tryz.underlying223
  a228 := Tryz.isAgg223
  z228 := Tryz.sizeOf223
  v228 := Tryz.zeroValue223
  t229 := Tryz.underlying224
  a229 := Tryz.isAgg224
  z229 := Tryz.sizeOf224
  v229 := Tryz.zeroValue224 }
open Go.Sort Go.RowKit in
theorem Tryz.slices_Sort_int (blk off cap : Nat) (zs : List Int) (w : World) (hH : Holds (Value.int .i64) w blk off zs.toArray) (hblk : blk < w.heap.size) (hsz : zs.length < 4611686018427387904) :
    Calls Tryz.prog 94 #[.slice (some ⟨blk, off, none⟩) zs.length cap] w fun e w' =>
      e = .returned (.tuple #[]) ∧ ∃ n os, w' = grow (putRow (Value.int .i64) (Sort.ahead w n) blk off (zs.mergeSort fun x y => decide (x ≤ y)).toArray) os := Any.slices_Sort_int Tryz.lays189 blk off cap zs w hH hblk hsz
open Go.RowKit Go.Sort in
theorem Tryz.slices_Sort_int_none (p : Option Addr) (cap : Nat) (w : World) :
    Calls Tryz.prog 94 #[.slice p 0 cap] w fun e w' => e = .returned (.tuple #[]) ∧ w' = w := Any.slices_Sort_int_none Tryz.lays189 p cap w
end Go.Proofs
namespace Go.Proofs.YtimhlnndobfehaaGreatDoor
open Go.RowKit Go.Sort
set_option linter.unusedVariables false

section
variable {α : Type} [Inhabited α] {w : World} {enc : α → Value} {blk m : Nat} {dk : Array α} {os : Array Obj}
theorem sg_block {k : Nat} (hk : k < w.heap.size) (hne : k ≠ blk) : (grow (putRow enc (Sort.ahead w m) blk 0 dk) os).heap[k]? = w.heap[k]? := by
  unfold grow putRow mapBlock
  simp only [heap_ahead]
  rw [Array.getElem?_append_left (by simpa using hk), Array.getElem?_modify, if_neg (fun h => hne h.symm)]
theorem sg_fr : Fr (fun k => k = blk) w (grow (putRow enc (Sort.ahead w m) blk 0 dk) os) :=
  ⟨rfl, rfl, rfl, by simp, fun k hk hn => sg_block hk hn⟩
theorem sg_own {base c : Nat} {e : TypeId} {xs : List Value} (h : w.ownsRow base e 1 (.slice (some ⟨blk, 0, none⟩) dk.size c) dk.size xs) : (grow (putRow enc (Sort.ahead w m) blk 0 dk) os).ownsRow base e 1 (.slice (some ⟨blk, 0, none⟩) dk.size c) dk.size (dk.toList.map enc) := by
  have hl := h.1
  refine ⟨by simp, ?_⟩
  rcases h.2 with ⟨hv, _⟩ | ⟨g', cap, cur, hv, hbg, hgg, h1, h2, h3, h4⟩
  · cases hv
  · injection hv with hv1 hv2 hv3
    injection hv1 with hv1
    injection hv1 with hv1
    subst hv1 hv3
    have hlt : blk < w.heap.size := (Array.getElem?_eq_some_iff.1 hgg).1
    refine .inr ⟨blk, c, putCells enc 0 dk cur, rfl, hbg, ?_, h1, h2, by simpa [putCells] using h3, ?_⟩
    · unfold grow putRow mapBlock
      simp only [heap_ahead]
      rw [Array.getElem?_append_left (by simpa using hlt), Array.getElem?_modify, if_pos rfl, hgg]
      rfl
    · apply List.ext_getElem?
      intro i
      rw [List.getElem?_take, List.getElem?_map]
      unfold putCells
      simp only [Nat.mul_one, Array.getElem?_toList, Array.getElem?_mapIdx]
      by_cases hi : i < dk.size
      · have hic : i < cur.size := by omega
        rw [if_pos hi, Array.getElem?_eq_getElem hic, Array.getElem?_eq_getElem hi]
        simp only [Option.map_some, Nat.zero_le, Nat.zero_add, hi, and_self, if_true, Nat.sub_zero]
        rw [getElem!_pos dk i hi]
      · rw [if_neg hi, Array.getElem?_eq_none (by omega)]
        rfl
end
def srtL (xs : List Int) : List Int := xs.mergeSort fun x y => decide (x ≤ y)
theorem srt_len (xs : List Int) : (srtL xs).length = xs.length := List.length_mergeSort xs
theorem srt_mem {xs : List Int} {x : Int} : x ∈ srtL xs ↔ x ∈ xs := List.mem_mergeSort
theorem srt_le (xs : List Int) : (srtL xs).Pairwise (· ≤ ·) := by
  have := List.pairwise_mergeSort (le := fun x y : Int => decide (x ≤ y)) (fun a b c h1 h2 => by simp at *; omega) (fun a b => by simp; omega) xs
  exact this.imp fun h => by simpa using h
def cutL (xs : List Int) : List Int := Lib.compact (srtL xs)
theorem upTo_mem (d : Array Int) (x : Int) : ∀ m, x ∈ Lib.compactUpTo d m ↔ ∃ j, j < m ∧ d[j]! = x
  | 0 => by simp [Lib.compactUpTo]
  | m + 1 => by
    rw [Lib.compactUpTo_succ, List.mem_append, upTo_mem d x m]
    constructor
    · rintro (⟨j, hj, e⟩ | h)
      · exact ⟨j, by omega, e⟩
      · split at h
        · simp only [List.mem_singleton] at h; exact ⟨m, by omega, h.symm⟩
        · simp at h
    · rintro ⟨j, hj, e⟩
      by_cases hjm : j < m
      · exact .inl ⟨j, hjm, e⟩
      · obtain rfl : j = m := by omega
        by_cases hk : Lib.keeps d j = true
        · exact .inr (by rw [if_pos hk]; simp [e])
        · have hk' : ¬ (j = 0 ∨ d[j]! ≠ d[j - 1]!) := by simpa [Lib.keeps] using hk
          have h0 : j ≠ 0 := fun h => hk' (.inl h)
          have h1 : d[j]! = d[j - 1]! := Classical.byContradiction fun h => hk' (.inr h)
          exact .inl ⟨j - 1, by omega, by rw [← h1]; exact e⟩
theorem upTo_lt (d : Array Int) (hd : ∀ i j, i < j → j < d.size → d[i]! ≤ d[j]!) : ∀ m, m ≤ d.size → (Lib.compactUpTo d m).Pairwise (· < ·)
  | 0, _ => by simp [Lib.compactUpTo]
  | m + 1, hm => by
    rw [Lib.compactUpTo_succ]
    refine List.pairwise_append.2 ⟨upTo_lt d hd m (by omega), by split <;> simp, fun x hx y hy => ?_⟩
    split at hy
    · rename_i hk
      simp only [List.mem_singleton] at hy
      subst hy
      obtain ⟨j, hj, rfl⟩ := (upTo_mem d x m).1 hx
      have hk' : m = 0 ∨ d[m]! ≠ d[m - 1]! := by simpa [Lib.keeps] using hk
      have h1 : d[m - 1]! ≤ d[m]! := hd _ _ (by omega) (by omega)
      have h2 : d[j]! ≤ d[m - 1]! := by
        by_cases e : j = m - 1
        · rw [e]; omega
        · exact hd _ _ (by omega) (by omega)
      rcases hk' with h | h
      · omega
      · have h3 : d[m - 1]! ≠ d[m]! := fun e => h e.symm
        omega
    · simp at hy
theorem cut_mem {xs : List Int} {x : Int} : x ∈ cutL xs ↔ x ∈ xs := by
  unfold cutL Lib.compact
  rw [upTo_mem, ← srt_mem]
  constructor
  · rintro ⟨j, hj, e⟩
    rw [getElem!_pos (srtL xs).toArray j (by simpa using hj)] at e
    rw [← e]
    simp
  · intro h
    obtain ⟨j, hj, e⟩ := List.getElem_of_mem h
    exact ⟨j, hj, by rw [getElem!_pos (srtL xs).toArray j (by simpa using hj)]; simpa using e⟩
theorem cut_lt (xs : List Int) : (cutL xs).Pairwise (· < ·) := by
  unfold cutL Lib.compact
  refine upTo_lt _ (fun i j hij hj => ?_) _ (by simp)
  rw [getElem!_pos (srtL xs).toArray i (by omega), getElem!_pos (srtL xs).toArray j hj]
  simpa using List.pairwise_iff_getElem.1 (srt_le xs) i j (by simp at hj; omega) (by simpa using hj) hij
theorem cut_len (xs : List Int) : (cutL xs).length ≤ xs.length := by
  unfold cutL Lib.compact Lib.compactUpTo
  rw [List.length_map]
  have := List.length_filter_le (Lib.keeps (srtL xs).toArray) (List.range (srtL xs).length)
  rw [List.length_range, srt_len] at this
  rw [srt_len]
  exact this
/-- Rising lists of the same members are the same. -/
theorem rising_eqI : ∀ {l m : List Int}, l.Pairwise (· < ·) → m.Pairwise (· < ·) → (∀ x, x ∈ l ↔ x ∈ m) → l = m
  | [], [], _, _, _ => rfl
  | [], y :: m, _, _, h => by have := (h y).2 (by simp); simp at this
  | x :: l, [], _, _, h => by have := (h x).1 (by simp); simp at this
  | x :: l, y :: m, hl, hm, h => by
    obtain ⟨hl1, hl2⟩ := List.pairwise_cons.1 hl
    obtain ⟨hm1, hm2⟩ := List.pairwise_cons.1 hm
    have e : x = y := by
      have h1 := (h x).1 (by simp)
      have h2 := (h y).2 (by simp)
      rcases List.mem_cons.1 h1 with h1 | h1
      · exact h1
      · rcases List.mem_cons.1 h2 with h2 | h2
        · exact h2.symm
        · have := hm1 x h1
          have := hl1 y h2
          omega
    subst e
    rw [rising_eqI hl2 hm2 fun z => ?_]
    have := h z
    simp only [List.mem_cons] at this
    constructor
    · intro hz
      have h3 := hl1 z hz
      rcases this.1 (.inr hz) with e | e
      · omega
      · exact e
    · intro hz
      have h3 := hm1 z hz
      rcases this.2 (.inr hz) with e | e
      · omega
      · exact e
theorem fr_setCells (g : Nat) : ∀ (vs : List Value) (o : Nat) (w : World), Fr (fun k => k = g) w (w.setCells g o vs)
  | [], _, w => Fr.refl _ w
  | v :: r, o, w => (Fr.set_ (S := fun k => k = g) w ⟨g, o, none⟩ v rfl).trans (fr_setCells g r (o + 1) _) (fun _ _ h => h)
theorem own_take {w : World} {base sz n c m : Nat} {e : TypeId} {A : Option Addr} {xs : List Value} (h : w.ownsRow base e sz (.slice A n c) n xs) (hm : m ≤ n) : w.ownsRow base e sz (.slice A m c) m (xs.take (m * sz)) := by
  have hle : m * sz ≤ n * sz := Nat.mul_le_mul_right _ hm
  refine ⟨by rw [List.length_take, h.1]; omega, ?_⟩
  rcases h.2 with ⟨hv, h0⟩ | ⟨g, cap, cur, hv, hbg, hgg, h1, h2, h3, h4⟩
  · injection hv with e1 e2 e3
    subst e1 e3
    obtain rfl : m = 0 := by omega
    exact .inl ⟨rfl, rfl⟩
  · injection hv with e1 e2 e3
    subst e1 e3
    exact .inr ⟨g, _, cur, rfl, hbg, hgg, by omega, h2, h3, by rw [← h4, List.take_take, Nat.min_eq_left hle]⟩
section
variable {w : World} {base : Nat} {v : Value} {xs : List Int}
theorem own_holds {g c : Nat} (h : w.ownsRow base 3 1 (.slice (some ⟨g, 0, none⟩) xs.length c) xs.length (xs.map (Value.int .i64))) : Holds (Value.int .i64) w g 0 xs.toArray := by
  intro j hj
  have hj' : j < xs.length := by simpa using hj
  have := own_cel h (j := j) (u := .int .i64 xs[j]) (by rw [List.getElem?_map, List.getElem?_eq_getElem hj']; rfl)
  rw [getElem!_pos xs.toArray j hj]
  rw [Nat.zero_add]
  obtain ⟨h1, h2⟩ := this
  exact ⟨by simpa using h1, h2⟩
theorem sortInt_any (h : w.ownsRow base 3 1 v xs.length (xs.map (Value.int .i64))) (hn : xs.length < 4611686018427387904) :
    Calls Tryz.prog 94 #[v] w fun e w' => e = .returned (.tuple #[]) ∧ Fr (fun k => v.ownBlock = some k) w w' ∧ w'.ownsRow base 3 1 v xs.length ((srtL xs).map (Value.int .i64)) := by
  rcases Nat.eq_zero_or_pos xs.length with h0 | h0
  · obtain ⟨A, c, rfl, _⟩ := own_form h
    have hx : xs = [] := List.eq_nil_of_length_eq_zero h0
    subst hx
    refine (Tryz.slices_Sort_int_none A c w).mono ?_
    rintro e w' ⟨rfl, rfl⟩
    exact ⟨rfl, Fr.refl _ _, by simpa [srtL] using h⟩
  · obtain ⟨g, c, rfl, _, _, hb, hg⟩ := own_pos h h0
    refine (Tryz.slices_Sort_int g 0 c xs w (own_holds h) hg hn).mono ?_
    rintro e w' ⟨rfl, n, os, rfl⟩
    have hs := sg_own (enc := Value.int .i64) (m := n) (dk := (srtL xs).toArray) (os := os) (w := w) (blk := g) (base := base) (c := c) (e := 3) (xs := xs.map (Value.int .i64)) (by simpa [srt_len] using h)
    refine ⟨rfl, sg_fr.weak (fun k _ e => by simp only [e]; rfl), ?_⟩
    have e : (srtL xs).toArray.size = xs.length := by simp [srt_len]
    rw [e] at hs
    exact hs
theorem compactInt_any (h : w.ownsRow base 3 1 v xs.length (xs.map (Value.int .i64))) (hn : xs.length ≤ 9223372036854775807) :
    Calls Tryz.prog 95 #[v] w fun e w' => ∃ A c, v = .slice A xs.length c ∧ e = .returned (.slice A (Lib.compact xs).length c) ∧ Fr (fun k => v.ownBlock = some k) w w' ∧ w'.ownsRow base 3 1 (.slice A (Lib.compact xs).length c) (Lib.compact xs).length ((Lib.compact xs).map (Value.int .i64)) := by
  rcases Nat.eq_zero_or_pos xs.length with h0 | h0
  · obtain ⟨A, c, rfl, _⟩ := own_form h
    have hx : xs = [] := List.eq_nil_of_length_eq_zero h0
    subst hx
    refine (Tryz.slices_Compact_int_empty A c w).mono ?_
    rintro e w' ⟨rfl, rfl⟩
    exact ⟨A, c, rfl, rfl, Fr.refl _ _, h⟩
  · obtain ⟨g, c, rfl, hnc, _, hb, hg⟩ := own_pos h h0
    have hcell : ∀ j, j < xs.length → w.cell? ⟨g, 0 + j, none⟩ = some (.int .i64 (xs.getD j 0)) ∧ w.frozen? ⟨g, 0 + j, none⟩ = false := fun j hj => by
      have := own_cel h (j := j) (u := .int .i64 xs[j]) (by rw [List.getElem?_map, List.getElem?_eq_getElem hj]; rfl)
      rw [Nat.zero_add, List.getD_eq_getElem?_getD, List.getElem?_eq_getElem hj]
      exact this
    refine (Tryz.slices_Compact_int_cells g 0 xs.length c xs w (Nat.le_refl _) hn hnc (fun j hj => (hcell j hj).1) (fun j hj => (hcell j hj).2)).mono ?_
    rintro e w' ⟨rfl, q, rfl⟩
    rw [List.take_length]
    have hle : (Lib.compact xs).length ≤ xs.length := by
      unfold Lib.compact Lib.compactUpTo
      rw [List.length_map]
      have := List.length_filter_le (Lib.keeps xs.toArray) (List.range xs.length)
      rwa [List.length_range] at this
    have h1 : (w.drewN q).ownsRow base 3 1 (.slice (some ⟨g, 0, none⟩) xs.length c) xs.length ([] ++ xs.map (Value.int .i64)) := h
    have h2 := own_setCells rfl ((Lib.compact xs ++ List.replicate (xs.length - (Lib.compact xs).length) 0).map (Value.int .i64)) [] (xs.map (Value.int .i64)) (w.drewN q) (by simp; omega) h1
    have h3 := own_take h2 hle
    refine ⟨_, _, rfl, rfl, ?_, ?_⟩
    · refine ((Fr.of_below (S := fun k => (Value.slice (some ⟨g, 0, none⟩) xs.length c).ownBlock = some k) (below_drewN (Below.refl _ w) q)).trans (T := fun k => k = g) ?_ fun k _ e => by simp only [e]; rfl)
      exact fr_setCells g _ _ _
    · simpa using h3
end
end Go.Proofs.YtimhlnndobfehaaGreatDoor
namespace Go.Proofs.YtimhlnndobfehaaGreatDoor

def nd0 : Nd := ⟨0, 0, 0, 0, []⟩
def kidsT (tn : Bool) (x : Nd) : List Int := if tn = true ∧ x.kind = 6 then x.kids.reverse else x.kids

/-- Subtrees one behind the other: their nodes, their numbers. -/
def subs (g : Nat → Nat → List Nd) : Nat → List Int → List Nd × List Int
  | _, [] => ([], [])
  | b, k :: r => ((g b k.toNat) ++ (subs g (b + (g b k.toNat).length) r).1, (b : Int) :: (subs g (b + (g b k.toNat).length) r).2)
/-- The node 'at' and all below it, numbered from b on. -/
def sub (ns : List Nd) (tn : Bool) : Nat → Nat → Nat → List Nd
  | 0, _, _ => []
  | f + 1, b, i => { ns.getD i nd0 with kids := (subs (sub ns tn f) (b + 1) (kidsT tn (ns.getD i nd0))).2 } :: (subs (sub ns tn f) (b + 1) (kidsT tn (ns.getD i nd0))).1
/-- How many that are. -/
def szN (ns : List Nd) : Nat → Nat → Nat
  | 0, _ => 0
  | f + 1, i => 1 + ((ns.getD i nd0).kids.map fun k => szN ns f k.toNat).sum

theorem subs_snoc (g : Nat → Nat → List Nd) : ∀ (l : List Int) (b : Nat) (k : Int), subs g b (l ++ [k]) = ((subs g b l).1 ++ g (b + (subs g b l).1.length) k.toNat, (subs g b l).2 ++ [((b + (subs g b l).1.length : Nat) : Int)])
  | [], b, k => by simp [subs]
  | x :: r, b, k => by
    have ih := subs_snoc g r (b + (g b x.toNat).length) k
    simp only [List.cons_append, subs, ih, List.length_append, List.append_assoc, Nat.add_assoc]
theorem subs_num (g : Nat → Nat → List Nd) : ∀ (l : List Int) (b : Nat), (subs g b l).2.length = l.length
  | [], _ => rfl
  | _ :: r, b => by simp only [subs, List.length_cons, subs_num g r]

theorem subs_length {g : Nat → Nat → List Nd} {h : Nat → Nat} (e : ∀ b i, (g b i).length = h i) : ∀ (l : List Int) (b : Nat), (subs g b l).1.length = (l.map fun k => h k.toNat).sum
  | [], _ => rfl
  | k :: r, b => by simp only [subs, List.length_append, subs_length e r, List.map_cons, List.sum_cons, e]
theorem sum_rev (h : Int → Nat) (l : List Int) : (l.reverse.map h).sum = (l.map h).sum := by
  rw [List.map_reverse, List.sum_reverse]
theorem kidsT_sum (tn : Bool) (x : Nd) (h : Int → Nat) : ((kidsT tn x).map h).sum = (x.kids.map h).sum := by
  unfold kidsT
  split
  · exact sum_rev h _
  · rfl
theorem kidsT_length (tn : Bool) (x : Nd) : (kidsT tn x).length = x.kids.length := by
  unfold kidsT
  split
  · exact List.length_reverse
  · rfl
theorem kidsT_mem (tn : Bool) (x : Nd) (k : Int) : k ∈ kidsT tn x ↔ k ∈ x.kids := by
  unfold kidsT
  split
  · exact List.mem_reverse
  · exact Iff.rfl
theorem sub_length (ns : List Nd) (tn : Bool) : ∀ (f b i : Nat), (sub ns tn f b i).length = szN ns f i
  | 0, _, _ => rfl
  | f + 1, b, i => by
    simp only [sub, List.length_cons, szN]
    rw [subs_length (sub_length ns tn f), kidsT_sum]
    omega

theorem inr_at {n : Int} : ∀ {ns : List Nd} {i : Int} (j : Nat), InR n i ns → j < ns.length → ∀ k ∈ (ns.getD j nd0).kids, i + j < k ∧ k < n
  | x :: r, i, 0, h, _ => fun k hk => by have := h.1 k (by simpa using hk); omega
  | x :: r, i, j + 1, h, hj => fun k hk => by
    have := inr_at (ns := r) (i := i + 1) j h.2 (by simpa using hj) k (by simpa using hk)
    omega

theorem szN_fuel {ns : List Nd} (hr : InR ns.length 0 ns) : ∀ (f g i : Nat), i < ns.length → ns.length - i ≤ f → ns.length - i ≤ g → szN ns f i = szN ns g i
  | 0, _, i, hi, hf, _ => by omega
  | _ + 1, 0, i, hi, _, hg => by omega
  | f + 1, g + 1, i, hi, hf, hg => by
    simp only [szN]
    congr 2
    refine List.map_congr_left fun k hk => ?_
    have := inr_at i hr hi k hk
    exact szN_fuel hr f g k.toNat (by omega) (by omega) (by omega)

theorem sum_flat {α : Type} (h : α → Nat) : ∀ (l : List (List α)), ((l.flatten).map h).sum = (l.map fun r => (r.map h).sum).sum
  | [] => rfl
  | r :: l => by simp only [List.flatten_cons, List.map_append, List.sum_append, List.map_cons, List.sum_cons, sum_flat h l]

theorem tree_perm {ns : List Nd} (h : IsTree ns) : (allKids ns).Perm ((List.range' 1 (ns.length - 1)).map fun j : Nat => (j : Int)) := by
  rw [List.perm_iff_count]
  intro k
  by_cases hk : 1 ≤ k ∧ k < ns.length
  · have h1 := h.once k.toNat (by omega) (by omega)
    have hkk : ((k.toNat : Nat) : Int) = k := by omega
    rw [hkk] at h1
    rw [h1]
    have hnd : ((List.range' 1 (ns.length - 1)).map fun j : Nat => (j : Int)).Nodup :=
      List.pairwise_map.2 (List.Pairwise.imp (fun {a b} hne e => hne (by omega)) (show (List.range' 1 (ns.length - 1)).Nodup from List.nodup_range' 1))
    have hm : k ∈ (List.range' 1 (ns.length - 1)).map fun j : Nat => (j : Int) := by
      rw [List.mem_map]
      exact ⟨k.toNat, by simp only [List.mem_range'_1]; omega, hkk⟩
    have h2 := List.nodup_iff_count.1 hnd k
    have h3 := List.count_pos_iff.2 hm
    omega
  · rw [List.count_eq_zero_of_not_mem (fun hm => hk (by have := inr_mem h.inr hm; omega)), List.count_eq_zero_of_not_mem]
    intro hm
    obtain ⟨j, hj, rfl⟩ := List.mem_map.1 hm
    simp only [List.mem_range'_1] at hj
    omega
theorem kids_le {ns : List Nd} (h : IsTree ns) {x : Nd} (hx : x ∈ ns) : x.kids.length ≤ ns.length := by
  have h1 := (tree_perm h).length_eq
  rw [List.length_map, List.length_range'] at h1
  have h2 : ∀ l : List Nd, x ∈ l → x.kids.length ≤ (l.flatMap (·.kids)).length := by
    intro l
    induction l with
    | nil => intro h; simp at h
    | cons y r ih =>
      intro hm
      rw [List.flatMap_cons, List.length_append]
      rcases List.mem_cons.1 hm with rfl | hm
      · omega
      · have := ih hm; omega
  have h3 := h2 ns hx
  have h4 : (ns.flatMap (·.kids)).length = ns.length - 1 := h1
  omega

theorem tree_size {ns : List Nd} (h : IsTree ns) : szN ns ns.length 0 = ns.length := by
  have hpos := h.pos
  let z : Nat → Nat := szN ns ns.length
  have hz : ∀ i, i < ns.length → z i = 1 + ((ns.getD i nd0).kids.map fun k => z k.toNat).sum := by
    intro i hi
    show szN ns ns.length i = _
    rw [szN_fuel h.inr ns.length (ns.length + 1) i hi (by omega) (by omega)]
    rfl
  have hperm := tree_perm h
  have hsum : ((List.range ns.length).map z).sum = ns.length + ((allKids ns).map fun k => z k.toNat).sum := by
    have e1 : (List.range ns.length).map z = (List.range ns.length).map fun i => 1 + ((ns.getD i nd0).kids.map fun k => z k.toNat).sum :=
      List.map_congr_left fun i hi => hz i (List.mem_range.1 hi)
    have e2 : ∀ (F : Nat → Nat) (n : Nat), ((List.range n).map fun i => 1 + F i).sum = n + ((List.range n).map F).sum := by
      intro F n
      induction n with
      | zero => rfl
      | succ n ih => rw [List.range_succ, List.map_append, List.sum_append, List.map_append, List.sum_append, ih]; simp; omega
    rw [e1, e2]
    congr 1
    have e3 : (List.range ns.length).map (fun i => ((ns.getD i nd0).kids.map fun k => z k.toNat).sum) = ns.map fun x => (x.kids.map fun k => z k.toNat).sum := by
      refine List.ext_getElem (by simp) fun i h1 h2 => ?_
      simp only [List.getElem_map, List.getElem_range, List.getD_eq_getElem?_getD]
      rw [List.getElem?_eq_getElem (by simpa using h2)]
      rfl
    rw [e3]
    show _ = (((ns.flatMap (·.kids)).map fun k => z k.toNat)).sum
    rw [List.flatMap_def, sum_flat, List.map_map]
    rfl
  have hk : ((allKids ns).map fun k => z k.toNat).sum = ((List.range' 1 (ns.length - 1)).map z).sum := by
    rw [(hperm.map fun k => z k.toNat).sum_nat, List.map_map]
    rfl
  have hrange : List.range ns.length = 0 :: List.range' 1 (ns.length - 1) := by
    rw [List.range_eq_range']
    obtain ⟨m, hm⟩ : ∃ m, ns.length = m + 1 := ⟨ns.length - 1, by omega⟩
    rw [hm, List.range'_succ]
    simp
  rw [hk, hrange, List.map_cons, List.sum_cons] at hsum
  show z 0 = _
  omega

/-- Two patterns, compared node by node. -/
def likeB (ps qs : List Nd) : Nat → Nat → Nat → Bool
  | 0, _, _ => true
  | f + 1, i, k =>
    let x := ps.getD i nd0
    let y := qs.getD k nd0
    decide (x.kind = y.kind) && decide (x.rune = y.rune) && decide (x.plus = y.plus) && decide (x.minus = y.minus) && decide (x.kids.length = y.kids.length) &&
      (x.kids.zip y.kids).all fun ab => likeB ps qs f ab.1.toNat ab.2.toNat

theorem subs_eq {g h : Nat → Nat → List Nd} {L : Nat → Nat → Bool} (e : ∀ b i k, g b i = h b k ↔ L i k = true) :
    ∀ (l m : List Int) (b : Nat), ((subs g b l).2 = (subs h b m).2 ∧ (subs g b l).1 = (subs h b m).1) ↔ (l.length = m.length ∧ (l.zip m).all (fun ab => L ab.1.toNat ab.2.toNat) = true)
  | [], [], b => by simp [subs]
  | [], k :: r, b => by simp [subs]
  | k :: r, [], b => by simp [subs]
  | k :: l, k' :: m, b => by
    have ih := subs_eq e l m
    simp only [subs, List.cons.injEq, true_and, List.length_cons, List.zip_cons_cons, List.all_cons, Bool.and_eq_true]
    constructor
    · rintro ⟨h1, h2⟩
      have hlen : (g b k.toNat).length = (h b k'.toNat).length := by
        have hn := congrArg List.length h1
        rw [subs_num, subs_num] at hn
        match l, m, hn with
        | [], [], _ =>
          simp only [subs, List.append_nil] at h2
          rw [h2]
        | x :: l2, y :: m2, _ =>
          simp only [subs, List.cons.injEq] at h1
          have := h1.1
          omega
      obtain ⟨h3, h4⟩ := List.append_inj h2 hlen
      rw [hlen] at h1 h4
      have := (ih _).1 ⟨h1, h4⟩
      exact ⟨by omega, (e b _ _).1 h3, this.2⟩
    · rintro ⟨h1, h2, h3⟩
      have h4 := (e b k.toNat k'.toNat).2 h2
      have := (ih (b + (h b k'.toNat).length)).2 ⟨by omega, h3⟩
      rw [h4]
      exact ⟨this.1, by rw [this.2]⟩

theorem sub_like (ps qs : List Nd) : ∀ (f b i k : Nat), sub ps false f b i = sub qs false f b k ↔ likeB ps qs f i k = true
  | 0, _, _, _ => by simp [sub, likeB]
  | f + 1, b, i, k => by
    have hk : ∀ x : Nd, kidsT false x = x.kids := fun x => by simp [kidsT]
    have := subs_eq (fun b i k => sub_like ps qs f b i k) (ps.getD i nd0).kids (qs.getD k nd0).kids (b + 1)
    simp only [sub, likeB, hk, List.cons.injEq, Nd.mk.injEq, Bool.and_eq_true, decide_eq_true_eq, and_assoc]
    rw [this]
end Go.Proofs.YtimhlnndobfehaaGreatDoor
namespace Go.Proofs.YtimhlnndobfehaaGreatDoor
open Go.ChangeShapes Go.WideShapes Go.RowKit
set_option linter.unusedVariables false

def vNd : Rep Nd := fun w lo hi cs x => ∃ c0 c1 c2 c3 c4, cs = [c0, c1, c2, c3, c4] ∧ vInt .u8 w lo hi [c0] x.kind ∧ vInt .i32 w lo hi [c1] x.rune ∧ vInt .u32 w lo hi [c2] x.plus ∧ vInt .u32 w lo hi [c3] x.minus ∧ vSl 1 (vInt .i64) w lo hi [c4] x.kids
theorem vNd_good : vNd.Good :=
  ⟨fun k ⟨c0, c1, c2, c3, c4, e, h0, h1, h2, h3, h4⟩ => ⟨c0, c1, c2, c3, c4, e, (vInt_good .u8).keep k h0, (vInt_good .i32).keep k h1, (vInt_good .u32).keep k h2, (vInt_good .u32).keep k h3, (vSl_good (vInt_good .i64)).keep k h4⟩, fun a b ⟨c0, c1, c2, c3, c4, e, h0, h1, h2, h3, h4⟩ => ⟨c0, c1, c2, c3, c4, e, (vInt_good .u8).wide a b h0, (vInt_good .i32).wide a b h1, (vInt_good .u32).wide a b h2, (vInt_good .u32).wide a b h3, (vSl_good (vInt_good .i64)).wide a b h4⟩⟩
def tNd : Ty Nd := ⟨5, vNd, fun x => (tInt .u8).m x.kind + (tInt .i32).m x.rune + (tInt .u32).m x.plus + (tInt .u32).m x.minus + (tSl 8 (tInt .i64)).m x.kids + 1, fun x => (tInt .u8).Q x.kind ∧ (tInt .i32).Q x.rune ∧ (tInt .u32).Q x.plus ∧ (tInt .u32).Q x.minus ∧ (tSl 8 (tInt .i64)).Q x.kids⟩
set_option maxRecDepth 100000 in
theorem opens_Nd {H : Type} {enc : TypeId × Value → H} {w : World} : Opens enc Tryz.prog w 66 tNd := by
  refine ⟨by kernel_rfl, vNd_good, fun {fuel cs x ps} h hf => ?_⟩
  obtain ⟨ys, n, _, hx, hlen, hyl, hfs⟩ := DataW.trod_struct Tryz.underlying66 h
  have hlen' : cs.length = 5 := hlen.trans (by kernel_rfl)
  match cs, hlen', ys, hyl with
  | [c0, c1, c2, c3, c4], _, [y0, y1, y2, y3, y4], _ =>
    simp only [Prod.mk.injEq] at hx
    obtain ⟨rfl, rfl⟩ := hx
    have g0 := hfs 0 _ rfl
    have g1 := hfs 1 _ rfl
    have g2 := hfs 2 _ rfl
    have g3 := hfs 3 _ rfl
    have g4 := hfs 4 _ rfl
    have o0 : Opens enc Tryz.prog w _ (tInt .u8) := opens_int Tryz.underlying5 (by kernel_rfl)
    have e0 : Tryz.prog.cellsOf _ = 1 := o0.size
    obtain ⟨a0, p0, _, m0, q0⟩ := o0.cells (cs := [c0]) (x := y0.1) (ps := y0.2) (by simpa [e0] using g0) (fun b o hm => hf b o (List.mem_flatMap.2 ⟨y0, by simp, hm⟩))
    have o1 : Opens enc Tryz.prog w _ (tInt .i32) := opens_int Tryz.underlying21 (by kernel_rfl)
    have e1 : Tryz.prog.cellsOf _ = 1 := o1.size
    obtain ⟨a1, p1, _, m1, q1⟩ := o1.cells (cs := [c1]) (x := y1.1) (ps := y1.2) (by simpa [e1] using g1) (fun b o hm => hf b o (List.mem_flatMap.2 ⟨y1, by simp, hm⟩))
    have o2 : Opens enc Tryz.prog w _ (tInt .u32) := opens_int Tryz.underlying64 (by kernel_rfl)
    have e2 : Tryz.prog.cellsOf _ = 1 := o2.size
    obtain ⟨a2, p2, _, m2, q2⟩ := o2.cells (cs := [c2]) (x := y2.1) (ps := y2.2) (by simpa [e2] using g2) (fun b o hm => hf b o (List.mem_flatMap.2 ⟨y2, by simp, hm⟩))
    have o3 : Opens enc Tryz.prog w _ (tInt .u32) := opens_int Tryz.underlying64 (by kernel_rfl)
    have e3 : Tryz.prog.cellsOf _ = 1 := o3.size
    obtain ⟨a3, p3, _, m3, q3⟩ := o3.cells (cs := [c3]) (x := y3.1) (ps := y3.2) (by simpa [e3] using g3) (fun b o hm => hf b o (List.mem_flatMap.2 ⟨y3, by simp, hm⟩))
    have o4 : Opens enc Tryz.prog w _ (tSl 8 (tInt .i64)) := opens_slice Tryz.underlying45 (by kernel_rfl) (by kernel_rfl) (by decide) (opens_int Tryz.underlying3 (by kernel_rfl))
    have e4 : Tryz.prog.cellsOf _ = 1 := o4.size
    obtain ⟨a4, p4, _, m4, q4⟩ := o4.cells (cs := [c4]) (x := y4.1) (ps := y4.2) (by simpa [e4] using g4) (fun b o hm => hf b o (List.mem_flatMap.2 ⟨y4, by simp, hm⟩))
    refine ⟨⟨a0, a1, a2, a3, a4⟩, ⟨c0, c1, c2, c3, c4, rfl, p0, p1, p2, p3, p4⟩, rfl, ?_, fun hq => ⟨q0 fun n hn => hq n (by simp only [DataW.weights, Tryz.underlying66]; exact weights_each 0 rfl rfl hn), q1 fun n hn => hq n (by simp only [DataW.weights, Tryz.underlying66]; exact weights_each 1 rfl rfl hn), q2 fun n hn => hq n (by simp only [DataW.weights, Tryz.underlying66]; exact weights_each 2 rfl rfl hn), q3 fun n hn => hq n (by simp only [DataW.weights, Tryz.underlying66]; exact weights_each 3 rfl rfl hn), q4 fun n hn => hq n (by simp only [DataW.weights, Tryz.underlying66]; exact weights_each 4 rfl rfl hn)⟩⟩
    simp only [tNd, List.map_cons, List.map_nil, Rows.uptoBulk, Rows.uptoBulkAll]
    omega


theorem nd_at {w : World} {lo hi k : Nat} {A : Option Addr} {ns : List Nd} (h : Sl 5 vNd w lo hi A ns) (hk : k < ns.length) :
    ∃ b off B c, A = some ⟨b, off, none⟩ ∧ lo ≤ b ∧ b < hi ∧ Cel w b (off + k * 5) (.int .u8 ns[k].kind) ∧ Cel w b (off + k * 5 + 1) (.int .i32 ns[k].rune) ∧ Cel w b (off + k * 5 + 2) (.int .u32 ns[k].plus) ∧ Cel w b (off + k * 5 + 3) (.int .u32 ns[k].minus) ∧
      Cel w b (off + k * 5 + 4) (.slice B ns[k].kids.length c) ∧ ns[k].kids.length ≤ c ∧ c ≤ maxLen ∧ Sl 1 (vInt .i64) w lo hi B ns[k].kids ∧ kin .u8 ns[k].kind ∧ kin .i32 ns[k].rune ∧ kin .u32 ns[k].plus ∧ kin .u32 ns[k].minus := by
  obtain ⟨b, off, cs, e, h1, h2, _, h4, c0, c1, c2, c3, c4, rfl, ⟨e0, k0⟩, ⟨e1, k1⟩, ⟨e2, k2⟩, ⟨e3, k3⟩, B, c, e4, hl, hm, hs⟩ := h.at_ hk
  simp only [List.cons.injEq, and_true] at e0 e1 e2 e3 e4
  subst e0 e1 e2 e3 e4
  exact ⟨b, off, B, c, e, h1, h2, h4 0 _ rfl, h4 1 _ rfl, h4 2 _ rfl, h4 3 _ rfl, h4 4 _ rfl, hl, hm, hs, k0, k1, k2, k3⟩

theorem bits_or_u32 {a b : Int} (ha : kin .u32 a) (hb : kin .u32 b) : bits .or .u32 a b = 0 ↔ a = 0 ∧ b = 0 := by
  have h1 := kin_u32 ha
  have h2 := kin_u32 hb
  obtain ⟨x, rfl⟩ := Int.eq_ofNat_of_zero_le h1.1
  obtain ⟨y, rfl⟩ := Int.eq_ofNat_of_zero_le h2.1
  have hx : x < 2 ^ 32 := by omega
  have hy : y < 2 ^ 32 := by omega
  have hor : x ||| y < 2 ^ 32 := Nat.or_lt_two_pow hx hy
  have e : bits .or .u32 (x : Int) (y : Int) = ((x ||| y : Nat) : Int) := by
    show IntKind.u32.wrap ((BitVec.ofInt 32 (x : Int) ||| BitVec.ofInt 32 (y : Int)).toNat : Int) = _
    rw [BitVec.toNat_or, BitVec.ofInt_natCast, BitVec.ofInt_natCast, BitVec.toNat_ofNat, BitVec.toNat_ofNat, Nat.mod_eq_of_lt hx, Nat.mod_eq_of_lt hy]
    exact IntWalk.u32_in _ (by omega)
  rw [e]
  constructor
  · intro h
    have h0 : x ||| y = 0 := by omega
    rw [Nat.or_eq_zero_iff] at h0
    omega
  · rintro ⟨h3, h4⟩
    have : x = 0 := by omega
    have : y = 0 := by omega
    subst x y
    rfl

/-- A pattern: its nodes. -/
def vPat : Rep (List Nd) := vSl 5 vNd
theorem vPat_good : vPat.Good := vSl_good vNd_good
def tPat : Ty (List Nd) := ⟨1, vPat, fun l => (tSl 40 tNd).m l + 1, (tSl 40 tNd).Q⟩
set_option maxRecDepth 100000 in
theorem opens_Pat {H : Type} {enc : TypeId × Value → H} {w : World} : Opens enc Tryz.prog w 28 tPat := by
  refine ⟨by kernel_rfl, vPat_good, fun {fuel cs x ps} h hf => ?_⟩
  obtain ⟨ys, n, _, hx, hlen, hyl, hfs⟩ := DataW.trod_struct Tryz.underlying28 h
  have hlen' : cs.length = 1 := hlen.trans (by kernel_rfl)
  match cs, hlen', ys, hyl with
  | [c0], _, [y0], _ =>
    simp only [Prod.mk.injEq] at hx
    obtain ⟨rfl, rfl⟩ := hx
    have g0 := hfs 0 _ rfl
    have o0 : Opens enc Tryz.prog w 26 (tSl 40 tNd) := opens_slice Tryz.underlying26 (by kernel_rfl) (by kernel_rfl) (by decide) opens_Nd
    have e0 : Tryz.prog.cellsOf _ = 1 := o0.size
    obtain ⟨a0, p0, _, m0, q0⟩ := o0.cells (cs := [c0]) (x := y0.1) (ps := y0.2) (by simpa [e0] using g0) (fun b o hm => hf b o (List.mem_flatMap.2 ⟨y0, by simp, hm⟩))
    refine ⟨a0, p0, rfl, ?_, fun hq => q0 fun n hn => hq n (by simp only [DataW.weights, Tryz.underlying28]; exact weights_each 0 rfl rfl hn)⟩
    simp only [tPat, List.map_cons, List.map_nil, Rows.uptoBulk, Rows.uptoBulkAll]
    omega
end Go.Proofs.YtimhlnndobfehaaGreatDoor
namespace Go.Proofs.YtimhlnndobfehaaGreatDoor
open Go.RowKit Go.Maps
set_option linter.unusedVariables false

def toI (l : List Nat) : List Int := l.map fun (n : Nat) => (n : Int)
theorem toI_len (l : List Nat) : (toI l).length = l.length := by unfold toI; simp
theorem toI_lt {l : List Nat} (h : l.Pairwise (· < ·)) : (toI l).Pairwise (· < ·) := by unfold toI; rw [List.pairwise_map]; exact h.imp fun h => by omega
theorem toI_mem {l : List Nat} {x : Int} : x ∈ toI l ↔ ∃ n : Nat, x = (n : Int) ∧ n ∈ l := by
  unfold toI
  rw [List.mem_map]
  exact ⟨fun ⟨n, h, e⟩ => ⟨n, e.symm, h⟩, fun ⟨n, e, h⟩ => ⟨n, h, e.symm⟩⟩
/-- The places of a node from a place, as integers. -/
def endsI (ns : List Nd) (L : List Lt) (k i : Nat) : List Int := toI (endsL ns L k i)
/-- What has just these members, sorted and each once. -/
theorem cut_ends {ns : List Nd} {L : List Lt} {k i : Nat} (hi : i ≤ L.length) {l : List Int} (h : ∀ x, x ∈ l ↔ ∃ j : Nat, x = (j : Int) ∧ Lies ns L k i j) : cutL l = endsI ns L k i :=
  rising_eqI (cut_lt l) (toI_lt (ends_sorted ns L k i)) fun x => by
    rw [cut_mem, h x]
    unfold endsI
    rw [toI_mem]
    exact exists_congr fun j => and_congr_right fun _ => (mem_ends hi).symm

section
variable {α : Type} {sz : Nat} {V : Rep α} {w w' : World} {lo hi : Nat} {A : Option Addr} {xs : List α}
/-- Data in a slice's own block stand while the block stands. -/
theorem Sl.same (hV : ∀ cs x, V w lo hi cs x → V w' lo hi cs x) (h : Sl sz V w lo hi A xs) (hb : 0 < xs.length → ∀ ad, A = some ad → w'.heap[ad.block]? = w.heap[ad.block]?) : Sl sz V w' lo hi A xs := fun hn => by
  obtain ⟨b, off, rfl, h1, h2, hc⟩ := h hn
  have hbb := hb hn _ rfl
  refine ⟨b, off, rfl, h1, h2, fun i x hx => ?_⟩
  obtain ⟨cs, h3, h4, h5⟩ := hc i x hx
  exact ⟨cs, h3, fun j v hj => ⟨(World.cell?_of_block (a := ⟨b, off + i * sz + j, none⟩) hbb).trans (h4 j v hj).1, (World.frozen?_of_block (a := ⟨b, off + i * sz + j, none⟩) hbb).trans (h4 j v hj).2⟩, hV _ _ h5⟩
end
/-- Integers that are read, later than block b, in no block of Z. -/
def SlZ (Z : Nat → Prop) (b : Nat) (w : World) (A : Option Addr) (l : List Int) : Prop :=
  Sl 1 (vInt .i64) w (b + 1) w.heap.size A l ∧ (0 < l.length → ∀ ad, A = some ad → ¬ Z ad.block)
theorem SlZ.fr {Z T : Nat → Prop} {b : Nat} {w w' : World} {A : Option Addr} {l : List Int} (h : SlZ Z b w A l) (hf : Fr T w w') (hT : ∀ g, g < w.heap.size → b < g → T g → Z g) : SlZ Z b w' A l :=
  ⟨(Sl.same (w := w) (w' := w') (fun _ _ h => h) h.1 (fun hn ad e => by
    obtain ⟨b', off, e', h1, h2, _⟩ := h.1 hn
    rw [e] at e'
    injection e' with e'
    subst e'
    exact hf.block _ h2 fun ht => h.2 hn _ e (hT _ h2 h1 ht))).wide (vInt_good _) (Nat.le_refl _) hf.size, h.2⟩
theorem SlZ.weak {Z T : Nat → Prop} {b : Nat} {w : World} {A : Option Addr} {l : List Int} (h : SlZ Z b w A l) (hT : ∀ g, g < w.heap.size → b < g → T g → Z g) : SlZ T b w A l :=
  ⟨h.1, fun hn ad e ht => by
    obtain ⟨b', off, e', h1, h2, _⟩ := h.1 hn
    have e2 := e
    rw [e] at e'
    injection e' with e'
    subst e'
    exact h.2 hn _ e2 (hT _ h2 h1 ht)⟩
/-- What is known: at some nodes and places the places where they end. -/
def Known (ns : List Nd) (L : List Lt) (Z : Nat → Prop) (b : Nat) (w : World) : Prop :=
  ∃ F, MapV Tryz.prog 141 w b F ∧ ∀ kl v, F kl = some v → ∃ k i A c, kl = K2 k i ∧ k < ns.length ∧ i ≤ L.length ∧ v = .slice A (endsI ns L k i).length c ∧ SlZ Z b w A (endsI ns L k i)
/-- A search: its struct in block sp, what is known in block b; blocks of Z are none of its. -/
structure Srch (ns : List Nd) (L : List Lt) (An Al : Option Addr) (cn cl sp b : Nat) (Z : Nat → Prop) (w : World) : Prop where
  row : Row w sp 103 [.slice An ns.length cn, .slice Al L.length cl, .map (some b)]
  nodes : Sl 5 vNd w 0 b An ns
  lets : Sl 3 vLt w (b + 1) w.heap.size Al L
  letz : 0 < L.length → ∀ ad, Al = some ad → ¬ Z ad.block
  known : Known ns L Z b w
  sp_ : b < sp
  spz : ¬ Z sp
  zb : ∀ g, Z g → b < g
  n1 : ns.length ≤ 256
  n2 : L.length ≤ 64
  kids : Kids ns

section
variable {ns : List Nd} {L : List Lt} {An Al : Option Addr} {cn cl sp b : Nat} {w w' : World} {Z T : Nat → Prop}
theorem Known.lt (h : Known ns L Z b w) : b < w.heap.size := let ⟨_, h1, _⟩ := h; h1.lt
theorem Known.fr (h : Known ns L Z b w) (hf : Fr T w w') (hT : ∀ g, g < w.heap.size → b < g → T g → Z g) (hb : ¬ T b) : Known ns L Z b w' := by
  obtain ⟨F, h1, h2⟩ := h
  refine ⟨F, h1.same (hf.block b h1.lt hb), fun kl v hv => ?_⟩
  obtain ⟨k, i, A, c, e1, e2, e3, e4, e5⟩ := h2 kl v hv
  exact ⟨k, i, A, c, e1, e2, e3, e4, e5.fr hf hT⟩
theorem Known.weak (h : Known ns L Z b w) (hT : ∀ g, g < w.heap.size → b < g → T g → Z g) : Known ns L T b w := by
  obtain ⟨F, h1, h2⟩ := h
  refine ⟨F, h1, fun kl v hv => ?_⟩
  obtain ⟨k, i, A, c, e1, e2, e3, e4, e5⟩ := h2 kl v hv
  exact ⟨k, i, A, c, e1, e2, e3, e4, e5.weak hT⟩
theorem Srch.lt (h : Srch ns L An Al cn cl sp b Z w) : b < w.heap.size := h.known.lt
/-- Only blocks of Z, and what is known, have turned. -/
theorem Srch.fr (h : Srch ns L An Al cn cl sp b Z w) (hf : Fr T w w') (hT : ∀ g, g < w.heap.size → T g → Z g ∨ g = b) (hk : Known ns L Z b w') : Srch ns L An Al cn cl sp b Z w' :=
  ⟨(hf.block sp h.row.lt (fun ht => by
      rcases hT _ h.row.lt ht with hz | e
      · exact h.spz hz
      · have := h.sp_; omega)).trans h.row,
    h.nodes.keep vNd_good (fun k _ h2 => hf.block k (by have := h.lt; omega) (fun ht => by
      rcases hT _ (by have := h.lt; omega) ht with hz | e
      · have := h.zb _ hz; omega
      · omega)),
    (Sl.same (w := w) (w' := w') (fun _ _ h => h) h.lets (fun hn ad e => by
      obtain ⟨b', off, e', h1, h2, _⟩ := h.lets hn
      have e2 := e
      rw [e] at e'
      injection e' with e'
      subst e'
      exact hf.block _ h2 fun ht => by
        rcases hT _ h2 ht with hz | e3
        · exact h.letz hn _ e2 hz
        · omega)).wide vLt_good (Nat.le_refl _) hf.size,
    h.letz, hk, h.sp_, h.spz, h.zb, h.n1, h.n2, h.kids⟩
theorem Srch.touch (h : Srch ns L An Al cn cl sp b Z w) (hf : Fr T w w') (hT : ∀ g, g < w.heap.size → T g → Z g) : Srch ns L An Al cn cl sp b Z w' :=
  h.fr hf (fun g h1 h2 => .inl (hT g h1 h2)) (h.known.fr hf (fun g h1 _ h2 => hT g h1 h2) fun ht => by have := h.zb _ (hT _ h.lt ht); omega)
theorem Srch.below (h : Srch ns L An Al cn cl sp b Z w) (hb : Below w.heap.size w w') : Srch ns L An Al cn cl sp b Z w' := h.touch (T := fun _ => False) (Fr.of_below hb) fun _ _ h => h.elim
theorem Srch.drewN (h : Srch ns L An Al cn cl sp b Z w) (n : Nat) : Srch ns L An Al cn cl sp b Z (w.drewN n) := h.below (below_drewN (Below.refl _ _) n)
/-- Other blocks that are none of its: fewer, or such as are not there yet. -/
theorem Srch.weak (h : Srch ns L An Al cn cl sp b Z w) (hT : ∀ g, g < w.heap.size → T g → Z g) (hb : ∀ g, T g → b < g) : Srch ns L An Al cn cl sp b T w :=
  ⟨h.row, h.nodes, h.lets, fun hn ad e ht => by
    obtain ⟨b', off, e', h1, h2, _⟩ := h.lets hn
    have e2 := e
    rw [e] at e'
    injection e' with e'
    subst e'
    exact h.letz hn _ e2 (hT _ h2 ht), h.known.weak fun g h1 _ h2 => hT g h1 h2, h.sp_, fun ht => h.spz (hT _ h.row.lt ht), hb, h.n1, h.n2, h.kids⟩
end

/-- A list of places as an answer that is read. -/
def PlOut (ns : List Nd) (L : List Lt) (An Al : Option Addr) (cn cl sp b : Nat) (Z : Nat → Prop) (w : World) (l : List Int) (e : Ending) (w' : World) : Prop :=
  ∃ A c, e = .returned (.slice A l.length c) ∧ SlZ Z b w' A l ∧ Srch ns L An Al cn cl sp b Z w' ∧ Fr (fun k => k = b) w w'
/-- Blocks of Z, and the slice's own. -/
def Zv (Z : Nat → Prop) (v : Value) (k : Nat) : Prop := Z k ∨ v.ownBlock = some k
/-- A list of places as an answer that the call owns: its members are the places. -/
def OwnOut (ns : List Nd) (L : List Lt) (An Al : Option Addr) (cn cl sp b : Nat) (Z : Nat → Prop) (w : World) (S : Nat → Prop) (e : Ending) (w' : World) : Prop :=
  ∃ (A : Option Addr) (c : Nat) (l : List Int), e = .returned (.slice A l.length c) ∧ w'.ownsRow w.heap.size 3 1 (.slice A l.length c) l.length (l.map (Value.int .i64)) ∧ (∀ x, x ∈ l ↔ ∃ j : Nat, x = (j : Int) ∧ S j) ∧ l.length ≤ 70000 ∧ Srch ns L An Al cn cl sp b (Zv Z (.slice A l.length c)) w' ∧ Fr (fun k => k = b) w w'
end Go.Proofs.YtimhlnndobfehaaGreatDoor
