/- Forests: trees of nodes by the first kid and the next one; their nodes, numbered kids first, or as one meets them. Plain Lean. The reading of a class's text and of a pattern's text, as functions. Plain Lean. A pattern's text. Plain Lean. What the examples of chapter 4 read and write. Plain Lean, by evaluation. The alphabet of the examples of chapter 4, laid. A reader of a pattern's text, in memory; next, add. What a step of the reader leaves; what its calls end in. The reader's node: one, and the stars behind it. The reader's one: a sign, a class, a sequence, one of several, a letter. -/
import Derived.Test.YtimhlnndobfehaaDoorMc08
import Derived.Test.YtimhlnndobfehaaDoorMc23
import Derived.Test.YtimhlnndobfehaaDoorMc24
import Derived.Test.YtimhlnndobfehaaDoorMc05
import Derived.Test.YtimhlnndobfehaaDoorMc27
import Derived.Lib.RuneBytes
import Derived.KernelRfl
import Derived.Test.YtimhlnndobfehaaDoorMc35
import Derived.Deep.AppendLies
import Derived.Deep.DeepCutAuto
import Derived.Test.YtimhlnndobfehaaDoorMc29
import Derived.Test.YtimhlnndobfehaaDoorMc28
import Derived.Test.YtimhlnndobfehaaDoorMc03
import Derived.Test.YtimhlnndobfehaaDoorMc09
import Derived.Deep.RegionHeld3
namespace Go.Proofs.YtimhlnndobfehaaDoor
set_option linter.unusedVariables false

inductive Fo where
  | nil : Fo
  | nd : Int → Int → Int → Int → Fo → Fo → Fo
namespace Fo
def size : Fo → Nat
  | nil => 0
  | nd _ _ _ _ ks n => 1 + ks.size + n.size
def app : Fo → Fo → Fo
  | nil, g => g
  | nd k r p m ks n, g => nd k r p m ks (app n g)
/-- Kids first: the nodes, and the numbers of the trees' own nodes. -/
def post : Fo → Nat → List Nd × List Int
  | nil, _ => ([], [])
  | nd k r p m ks n, b => ((post ks b).1 ++ ⟨k, r, p, m, (post ks b).2⟩ :: (post n (b + ks.size + 1)).1, ((b + ks.size : Nat) : Int) :: (post n (b + ks.size + 1)).2)
/-- As one meets them. -/
def pre : Fo → Nat → List Nd × List Int
  | nil, _ => ([], [])
  | nd k r p m ks n, b => (⟨k, r, p, m, (pre ks (b + 1)).2⟩ :: (pre ks (b + 1)).1 ++ (pre n (b + (1 + ks.size))).1, (b : Int) :: (pre n (b + (1 + ks.size))).2)
/-- How many trees. -/
def count : Fo → Nat
  | nil => 0
  | nd _ _ _ _ _ n => 1 + n.count
end Fo
open Fo
theorem fo_app_nil : ∀ f : Fo, f.app .nil = f
  | .nil => rfl
  | .nd k r p m ks n => by unfold Fo.app; rw [fo_app_nil n]
theorem fo_app_assoc : ∀ f g h : Fo, (f.app g).app h = f.app (g.app h)
  | .nil, _, _ => rfl
  | .nd k r p m ks n, g, h => by simp only [Fo.app]; rw [fo_app_assoc n g h]
theorem size_app : ∀ f g : Fo, (f.app g).size = f.size + g.size
  | .nil, g => by simp [Fo.app, Fo.size]
  | .nd k r p m ks n, g => by simp only [Fo.app, Fo.size]; rw [size_app n g]; omega
theorem count_app : ∀ f g : Fo, (f.app g).count = f.count + g.count
  | .nil, g => by simp [Fo.app, Fo.count]
  | .nd k r p m ks n, g => by simp only [Fo.app, Fo.count]; rw [count_app n g]; omega
theorem count_le : ∀ f : Fo, f.count ≤ f.size
  | .nil => Nat.le_refl _
  | .nd k r p m ks n => by simp only [Fo.count, Fo.size]; have := count_le n; omega
theorem post_len : ∀ (f : Fo) (b : Nat), (f.post b).1.length = f.size ∧ (f.post b).2.length = f.count
  | .nil, _ => ⟨rfl, rfl⟩
  | .nd k r p m ks n, b => by
    have h1 := post_len ks b
    have h2 := post_len n (b + ks.size + 1)
    simp only [Fo.post, Fo.size, Fo.count, List.length_append, List.length_cons, h1.1, h2.1, h2.2]
    omega
theorem pre_len : ∀ (f : Fo) (b : Nat), (f.pre b).1.length = f.size ∧ (f.pre b).2.length = f.count
  | .nil, _ => ⟨rfl, rfl⟩
  | .nd k r p m ks n, b => by
    have h1 := pre_len ks (b + 1)
    have h2 := pre_len n (b + (1 + ks.size))
    simp only [Fo.pre, Fo.size, Fo.count, List.length_append, List.length_cons, h1.1, h2.1, h2.2]
    omega
theorem post_app : ∀ (f g : Fo) (b : Nat), (f.app g).post b = ((f.post b).1 ++ (g.post (b + f.size)).1, (f.post b).2 ++ (g.post (b + f.size)).2)
  | .nil, g, b => by simp [Fo.app, Fo.post, Fo.size]
  | .nd k r p m ks n, g, b => by
    have h := post_app n g (b + ks.size + 1)
    have e : b + ks.size + 1 + n.size = b + (1 + ks.size + n.size) := by omega
    rw [e] at h
    simp only [Fo.app, Fo.post, Fo.size, h, List.append_assoc, List.cons_append]
/-- The kids of a node stand ahead of it. -/
theorem post_kids : ∀ (f : Fo) (b : Nat), (∀ (j : Nat) (x : Nd), (f.post b).1[j]? = some x → ∀ c ∈ x.kids, (b : Int) ≤ c ∧ c < ((b + j : Nat) : Int)) ∧ ∀ c ∈ (f.post b).2, (b : Int) ≤ c ∧ c < ((b + f.size : Nat) : Int)
  | .nil, b => ⟨by simp [Fo.post], by simp [Fo.post]⟩
  | .nd k r p m ks n, b => by
    obtain ⟨h1, h2⟩ := post_kids ks b
    obtain ⟨h3, h4⟩ := post_kids n (b + ks.size + 1)
    have hl := (post_len ks b).1
    refine ⟨fun j x hx c hc => ?_, fun c hc => ?_⟩
    · simp only [Fo.post] at hx
      rcases Nat.lt_trichotomy j ks.size with hj | hj | hj
      · rw [List.getElem?_append_left (by omega)] at hx
        exact h1 j x hx c hc
      · rw [List.getElem?_append_right (by omega), hl, hj, Nat.sub_self, List.getElem?_cons_zero, Option.some.injEq] at hx
        subst hx
        have := h2 c hc
        rw [hj]
        exact this
      · obtain ⟨q, rfl⟩ : ∃ q, j = ks.size + 1 + q := ⟨j - (ks.size + 1), by omega⟩
        rw [List.getElem?_append_right (by omega), hl, show ks.size + 1 + q - ks.size = q + 1 by omega, List.getElem?_cons_succ] at hx
        have := h3 q x hx c hc
        omega
    · simp only [Fo.post, List.mem_cons] at hc
      simp only [Fo.size]
      rcases hc with rfl | hc
      · omega
      · have := h4 c hc
        omega
/-- The nodes l stand in Q from b on. -/
def StandsF (Q : List Nd) (b : Nat) (l : List Nd) : Prop := ∀ (j : Nat) (x : Nd), l[j]? = some x → Q[b + j]? = some x
theorem StandsF.left {Q : List Nd} {b : Nat} {l m : List Nd} (h : StandsF Q b (l ++ m)) : StandsF Q b l := fun j x hx => h j x (by rw [List.getElem?_append_left (List.getElem?_eq_some_iff.1 hx).1]; exact hx)
theorem StandsF.right {Q : List Nd} {b : Nat} {l m : List Nd} (h : StandsF Q b (l ++ m)) : StandsF Q (b + l.length) m := fun j x hx => by
  rw [Nat.add_assoc]
  exact h (l.length + j) x (by rw [List.getElem?_append_right (by omega), Nat.add_sub_cancel_left]; exact hx)
/-- What is numbered kids first, walked through, is numbered as one meets it. -/
theorem sub_post : ∀ (f : Fo) (b : Nat) (Q : List Nd) (F base : Nat), StandsF Q b (f.post b).1 → f.size ≤ F → subs (sub Q false F) base (f.post b).2 = f.pre base
  | .nil, _, _, _, _, _, _ => rfl
  | .nd k r p m ks n, b, Q, F, base, hs, hF => by
    have hl := (post_len ks b).1
    simp only [Fo.post] at hs ⊢
    simp only [Fo.size] at hF
    obtain ⟨G, rfl⟩ : ∃ G, F = G + 1 := ⟨F - 1, by omega⟩
    have hL := hs.left
    have hR := hs.right
    rw [hl] at hR
    have h0 := hR 0 _ rfl
    rw [Nat.add_zero] at h0
    have hN : StandsF Q (b + ks.size + 1) (n.post (b + ks.size + 1)).1 := fun j x hx => by
      rw [show b + ks.size + 1 + j = b + ks.size + (j + 1) by omega]
      exact hR (j + 1) x (by rw [List.getElem?_cons_succ]; exact hx)
    have i1 := sub_post ks b Q G (base + 1) hL (by omega)
    have e : sub Q false (G + 1) base (((b + ks.size : Nat) : Int)).toNat = ⟨k, r, p, m, (ks.pre (base + 1)).2⟩ :: (ks.pre (base + 1)).1 := by
      rw [show (((b + ks.size : Nat) : Int)).toNat = b + ks.size by omega]
      unfold sub
      rw [List.getD_eq_getElem?_getD, h0]
      simp only [Option.getD_some, kidsT, Bool.false_eq_true, false_and, if_false]
      rw [i1]
    have i2 := sub_post n (b + ks.size + 1) Q (G + 1) (base + (1 + ks.size)) hN (by omega)
    have el : (⟨k, r, p, m, (ks.pre (base + 1)).2⟩ :: (ks.pre (base + 1)).1 : List Nd).length = 1 + ks.size := by
      rw [List.length_cons, (pre_len ks (base + 1)).1]; omega
    simp only [subs]
    rw [e, el, i2]
    rfl
end Go.Proofs.YtimhlnndobfehaaDoor
namespace Go.Proofs.YtimhlnndobfehaaDoor
set_option linter.unusedVariables false

/-- A class's text, read on from some bytes. -/
def featL (a : Al) : Nat → List UInt8 → Nat → Nat → Option (Nat × Nat)
  | 0, _, _, _ => none
  | _ + 1, [], p, m => some (p, m)
  | f + 1, c :: t, p, m => match a.feats.findIdx? (fun x => x.data.toList == t.takeWhile lower) with
    | none => none
    | some i => if c ≠ 43 ∧ c ≠ 45 then none else if (p ||| m) / 2 ^ i % 2 = 1 then none else
      if c = 43 then featL a f (t.dropWhile lower) (p ||| 2 ^ i) m else featL a f (t.dropWhile lower) p (m ||| 2 ^ i)
def featS (a : Al) (s : ByteArray) : Option (Nat × Nat) := if alE a ≠ 0 then none else if 65536 < s.size then none else featL a (s.size + 1) s.data.toList 0 0
/-- The class whose one text this is. -/
def classP (a : Al) (s : ByteArray) : Option (Nat × Nat) := match featS a s with
  | none => none
  | some x => if (classT a x.1 x.2).2 = 0 ∧ (classT a x.1 x.2).1.data.toList = s.data.toList then some x else none
def isB (s : ByteArray) (k b : Nat) : Bool := decide (k < s.size) && decide (bt s k = b)
/-- The first place of a byte from a place on. -/
def findB (s : ByteArray) (b : Nat) : Nat → Nat → Option Nat
  | 0, _ => none
  | f + 1, k => if k < s.size then (if bt s k = b then some k else findB s b f (k + 1)) else none
inductive PR where
  | ok (f : Fo) (i : Nat)
  | bad (q : Nat)
def PR.map (h : Fo → Fo) : PR → PR
  | .ok f i => .ok (h f) i
  | .bad q => .bad q
inductive Md where
  | one | node | seq
  | or (first : Bool)
  | stars (t : Fo)
def leafF (k r p m : Int) : Fo := .nd k r p m .nil .nil
/-- Behind a bracket. -/
def clsP (a : Al) (s : ByteArray) (k : Nat) : PR := match findB s 93 (s.size + 1) k with
  | none => .bad (k - 1)
  | some e => match classP a (s.extract k e) with
    | none => .bad k
    | some x => .ok (leafF 3 0 (x.1 : Int) (x.2 : Int)) (e + 1)
def runeP (a : Al) (s : ByteArray) (k : Nat) : PR :=
  if (ofS a ((Lib.decodeGo (s.extract k s.size)).1 : Int)).2 ≠ 0 then .bad k else .ok (leafF 2 ((Lib.decodeGo (s.extract k s.size)).1 : Int) 0 0) (k + (Lib.decodeGo (s.extract k s.size)).2)
def pars (a : Al) (s : ByteArray) : Nat → Md → Nat → PR
  | 0, _, k => .bad k
  | f + 1, .one, k =>
    if isB s k 126 then .ok (leafF 1 0 0 0) (k + 1)
    else if isB s k 46 then .ok (leafF 4 0 0 0) (k + 1)
    else if isB s k 35 then .ok (leafF 5 0 0 0) (k + 1)
    else if isB s k 91 then clsP a s (k + 1)
    else if isB s k 40 then (pars a s f .seq (k + 1)).map fun l => .nd 6 0 0 0 l .nil
    else if isB s k 123 then (pars a s f (.or true) (k + 1)).map fun l => .nd 7 0 0 0 l .nil
    else runeP a s k
  | f + 1, .node, k => match pars a s f .one k with
    | .ok t i => pars a s f (.stars t) i
    | .bad q => .bad q
  | f + 1, .stars t, k => if isB s k 42 then pars a s f (.stars (.nd 8 0 0 0 t .nil)) (k + 1) else if isB s k 63 then pars a s f (.stars (.nd 9 0 0 0 t .nil)) (k + 1) else .ok t k
  | f + 1, .seq, k => if isB s k 41 then .ok .nil (k + 1) else match pars a s f .node k with
    | .ok t i => (pars a s f .seq i).map t.app
    | .bad q => .bad q
  | f + 1, .or first, k => if isB s k 125 then .ok .nil (k + 1) else if !first && !isB s k 124 then .bad k else match pars a s f .node (if first then k else k + 1) with
    | .ok t i => (pars a s f (.or false) i).map t.app
    | .bad q => .bad q
/-- What read reads. -/
def readF (a : Al) (s : ByteArray) : PR := match pars a s (3 * s.size + 3) .node 0 with
  | .ok t i => if i < s.size then .bad i else .ok t i
  | .bad q => .bad q
/-- What Parse answers: the nodes, a place, an error. -/
def parseS (a : Al) (s : ByteArray) : List Nd × Nat × Int := if alE a ≠ 0 then ([], 0, alE a) else if 65536 < s.size then ([], 0, 3) else match readF a s with
  | .bad q => ([], q, 40)
  | .ok t _ => if 256 < t.size then ([], 0, 4) else ((t.pre 0).1, 0, 0)

theorem isB_lt {s : ByteArray} {k b : Nat} (h : isB s k b = true) : k < s.size := by
  unfold isB at h
  rw [Bool.and_eq_true, decide_eq_true_eq] at h
  exact h.1
theorem findB_at {s : ByteArray} {b : Nat} : ∀ {f k e : Nat}, findB s b f k = some e → k ≤ e ∧ e < s.size
  | 0, k, e, h => by cases h
  | f + 1, k, e, h => by
    unfold findB at h
    split at h
    · rename_i hk
      split at h
      · injection h with h; omega
      · have := findB_at h; omega
    · cases h
/-- One tree. -/
def OneT (t : Fo) : Prop := ∃ k r p m ks, t = .nd k r p m ks .nil
theorem OneT.pos {t : Fo} (h : OneT t) : 1 ≤ t.size := by obtain ⟨k, r, p, m, ks, rfl⟩ := h; simp only [Fo.size]; omega
theorem OneT.num {t : Fo} (h : OneT t) (b : Nat) : (t.post b).2 = [((b + t.size - 1 : Nat) : Int)] := by
  obtain ⟨k, r, p, m, ks, rfl⟩ := h
  simp only [Fo.post, Fo.size]
  congr 2
  omega
theorem one_leaf (k r p m : Int) : OneT (leafF k r p m) := ⟨k, r, p, m, .nil, rfl⟩
theorem leaf_size (k r p m : Int) : (leafF k r p m).size = 1 := rfl
/-- What a reading that went well has: it went on, within the text; a tree, of at most as many nodes as bytes. -/
def Went (s : ByteArray) (m : Md) (k : Nat) (t : Fo) (i : Nat) : Prop := match m with
  | .stars t0 => (OneT t0 → OneT t) ∧ k ≤ i ∧ (k ≤ s.size → i ≤ s.size) ∧ t.size ≤ t0.size + (i - k)
  | .seq => k < i ∧ i ≤ s.size ∧ t.size + 1 ≤ i - k
  | .or _ => k < i ∧ i ≤ s.size ∧ t.size + 1 ≤ i - k
  | _ => OneT t ∧ k < i ∧ i ≤ s.size ∧ t.size ≤ i - k
theorem PR.map_ok {h : Fo → Fo} {r : PR} {t : Fo} {i : Nat} (e : r.map h = .ok t i) : ∃ t0, r = .ok t0 i ∧ t = h t0 := by
  cases r with
  | ok f j => simp only [PR.map, PR.ok.injEq] at e; exact ⟨f, by rw [e.2], e.1.symm⟩
  | bad q => cases e
section
variable {a : Al} {s : ByteArray}
theorem cls_went {k : Nat} {t : Fo} {i : Nat} (h : clsP a s k = .ok t i) : OneT t ∧ k < i ∧ i ≤ s.size ∧ t.size = 1 := by
  unfold clsP at h
  split at h
  · cases h
  · rename_i e he
    have := findB_at he
    split at h
    · cases h
    · simp only [PR.ok.injEq] at h
      obtain ⟨rfl, rfl⟩ := h
      exact ⟨one_leaf _ _ _ _, by omega, by omega, leaf_size _ _ _ _⟩
theorem pars_went (hdec : ∀ k, (ofS a ((Lib.decodeGo (s.extract k s.size)).1 : Int)).2 = 0 → k < s.size ∧ 1 ≤ (Lib.decodeGo (s.extract k s.size)).2 ∧ k + (Lib.decodeGo (s.extract k s.size)).2 ≤ s.size) : ∀ (f : Nat) (m : Md) (k : Nat) (t : Fo) (i : Nat), pars a s f m k = .ok t i → Went s m k t i
  | 0, m, k, t, i, h => by cases m <;> cases h
  | f + 1, .one, k, t, i, h => by
    have leafy : ∀ {b : Nat} {x : Fo}, isB s k b = true → OneT x → x.size = 1 → (PR.ok x (k + 1) = .ok t i) → Went s .one k t i := fun hb hx hs e => by
      simp only [PR.ok.injEq] at e
      obtain ⟨rfl, rfl⟩ := e
      have := isB_lt hb
      exact ⟨hx, by omega, by omega, by omega⟩
    unfold pars at h
    split at h
    · rename_i hb; exact leafy hb (one_leaf _ _ _ _) rfl h
    split at h
    · rename_i hb; exact leafy hb (one_leaf _ _ _ _) rfl h
    split at h
    · rename_i hb; exact leafy hb (one_leaf _ _ _ _) rfl h
    split at h
    · obtain ⟨h1, h2, h3, h4⟩ := cls_went h
      exact ⟨h1, by omega, h3, by omega⟩
    split at h
    · obtain ⟨t0, h0, rfl⟩ := PR.map_ok h
      obtain ⟨h1, h2, h3⟩ := pars_went hdec f .seq (k + 1) t0 i h0
      exact ⟨⟨_, _, _, _, _, rfl⟩, by omega, h2, by simp only [Fo.size]; omega⟩
    split at h
    · obtain ⟨t0, h0, rfl⟩ := PR.map_ok h
      obtain ⟨h1, h2, h3⟩ := pars_went hdec f (.or true) (k + 1) t0 i h0
      exact ⟨⟨_, _, _, _, _, rfl⟩, by omega, h2, by simp only [Fo.size]; omega⟩
    unfold runeP at h
    split at h
    · cases h
    · rename_i he
      have := hdec k (by simpa using he)
      simp only [PR.ok.injEq] at h
      obtain ⟨rfl, rfl⟩ := h
      exact ⟨one_leaf _ _ _ _, by omega, by omega, by rw [leaf_size]; omega⟩
  | f + 1, .node, k, t, i, h => by
    unfold pars at h
    split at h
    · rename_i t0 j h0
      obtain ⟨h1, h2, h3, h4⟩ := pars_went hdec f .one k t0 j h0
      obtain ⟨h5, h6, h7, h8⟩ := pars_went hdec f (.stars t0) j t i h
      exact ⟨h5 h1, by omega, h7 h3, by omega⟩
    · cases h
  | f + 1, .stars t0, k, t, i, h => by
    unfold pars at h
    split at h
    · rename_i hb
      have := isB_lt hb
      obtain ⟨h5, h6, h7, h8⟩ := pars_went hdec f (.stars (.nd 8 0 0 0 t0 .nil)) (k + 1) t i h
      simp only [Fo.size] at h8
      exact ⟨fun _ => h5 ⟨_, _, _, _, _, rfl⟩, by omega, fun _ => h7 (by omega), by omega⟩
    split at h
    · rename_i hb
      have := isB_lt hb
      obtain ⟨h5, h6, h7, h8⟩ := pars_went hdec f (.stars (.nd 9 0 0 0 t0 .nil)) (k + 1) t i h
      simp only [Fo.size] at h8
      exact ⟨fun _ => h5 ⟨_, _, _, _, _, rfl⟩, by omega, fun _ => h7 (by omega), by omega⟩
    · simp only [PR.ok.injEq] at h
      obtain ⟨rfl, rfl⟩ := h
      exact ⟨id, Nat.le_refl _, id, by omega⟩
  | f + 1, .seq, k, t, i, h => by
    unfold pars at h
    split at h
    · rename_i hb
      have := isB_lt hb
      simp only [PR.ok.injEq] at h
      obtain ⟨rfl, rfl⟩ := h
      exact ⟨by omega, by omega, by simp only [Fo.size]; omega⟩
    split at h
    · rename_i t0 j h0
      obtain ⟨h1, h2, h3, h4⟩ := pars_went hdec f .node k t0 j h0
      obtain ⟨t1, h5, rfl⟩ := PR.map_ok h
      obtain ⟨h6, h7, h8⟩ := pars_went hdec f .seq j t1 i h5
      exact ⟨by omega, h7, by rw [size_app]; omega⟩
    · cases h
  | f + 1, .or first, k, t, i, h => by
    unfold pars at h
    split at h
    · rename_i hb
      have := isB_lt hb
      simp only [PR.ok.injEq] at h
      obtain ⟨rfl, rfl⟩ := h
      exact ⟨by omega, by omega, by simp only [Fo.size]; omega⟩
    split at h
    · cases h
    split at h
    · rename_i t0 j h0
      obtain ⟨h1, h2, h3, h4⟩ := pars_went hdec f .node _ t0 j h0
      obtain ⟨t1, h5, rfl⟩ := PR.map_ok h
      obtain ⟨h6, h7, h8⟩ := pars_went hdec f (.or false) j t1 i h5
      have : k ≤ (if first = true then k else k + 1) := by split <;> omega
      exact ⟨by omega, h7, by rw [size_app]; omega⟩
    · cases h
end
end Go.Proofs.YtimhlnndobfehaaDoor
namespace Go.Proofs.YtimhlnndobfehaaDoor
open Go.RowKit
set_option linter.unusedVariables false

def orT (g : Int → List UInt8) : Nat → List Int → List UInt8
  | _, [] => []
  | i, k :: r => (if 0 < i then [124] else []) ++ (g k ++ orT g (i + 1) r)
def catT (g : Int → List UInt8) : List Int → List UInt8
  | [] => []
  | k :: r => g k ++ catT g r
def oneT (g : Int → List UInt8) : List Int → List UInt8
  | [] => []
  | k :: _ => g k
def clsT (a : Al) (x : Nd) : List UInt8 := 91 :: ((classT a x.plus.toNat x.minus.toNat).1.data.toList ++ [93])
def txtX (a : Al) (g : Int → List UInt8) (x : Nd) : List UInt8 :=
  if x.kind = 1 then [126] else if x.kind = 2 then Lib.encodeRune x.rune else if x.kind = 3 then clsT a x else if x.kind = 4 then [46] else if x.kind = 5 then [35]
  else if x.kind = 6 then 40 :: (catT g x.kids ++ [41]) else if x.kind = 7 then 123 :: (orT g 0 x.kids ++ [125]) else if x.kind = 8 then oneT g x.kids ++ [42] else if x.kind = 9 then oneT g x.kids ++ [63] else []
def txtN (a : Al) (ns : List Nd) : Nat → Nat → List UInt8
  | 0, _ => []
  | f + 1, i => txtX a (fun k => txtN a ns f k.toNat) (ns.getD i nd0)
/-- A pattern's text, and the error. -/
def ptextS (a : Al) (ns : List Nd) : ByteArray × Int :=
  if patE a ns ≠ 0 then (⟨#[]⟩, patE a ns) else if 65536 < (txtN a ns ns.length 0).length then (⟨#[]⟩, 3) else (⟨(txtN a ns ns.length 0).toArray⟩, 0)

theorem catT_snoc (g : Int → List UInt8) : ∀ (l : List Int) (k : Int), catT g (l ++ [k]) = catT g l ++ g k
  | [], k => by simp [catT]
  | x :: r, k => by simp [catT, catT_snoc g r k]
theorem orT_snoc (g : Int → List UInt8) : ∀ (l : List Int) (i : Nat) (k : Int), orT g i (l ++ [k]) = orT g i l ++ ((if 0 < i + l.length then [124] else []) ++ g k)
  | [], i, k => by simp [orT]
  | x :: r, i, k => by
    simp only [List.cons_append, orT, orT_snoc g r (i + 1) k, List.length_cons, List.append_assoc]
    rw [show i + 1 + r.length = i + (r.length + 1) by omega]
theorem textL_le : ∀ (l : List ByteArray) (i p m : Nat), (∀ f ∈ l, f.size ≤ 32) → (textL i l p m).length ≤ 33 * l.length
  | [], _, _, _, _ => by simp [textL]
  | f :: r, i, p, m, h => by
    have h1 := textL_le r (i + 1) p m (fun g hg => h g (by simp [hg]))
    have h2 := h f (by simp)
    have h3 : f.data.toList.length = f.size := Array.length_toList
    simp only [textL, List.length_append, List.length_cons]
    split
    · rw [List.length_cons]; omega
    · split
      · rw [List.length_cons]; omega
      · simp; omega
theorem cls_le (a : Al) (x : Nd) : (clsT a x).length ≤ 800 := by
  unfold clsT classT
  by_cases hE : alE a = 0
  · obtain ⟨h24, _, _, hnm, _⟩ := alE_parts hE
    rw [if_neg (by simp [hE])]
    by_cases hc : classOk a.feats.length x.plus.toNat x.minus.toNat = true
    · rw [if_pos hc]
      have := textL_le a.feats 0 x.plus.toNat x.minus.toNat (names_short a.feats [] hnm)
      simp
      omega
    · rw [if_neg hc]; simp
  · rw [if_pos hE]; simp
theorem orT_len (g : Int → List UInt8) : ∀ (l : List Int) (i : Nat), (orT g i l).length ≤ (catT g l).length + l.length
  | [], _ => by simp [orT]
  | k :: r, i => by
    have := orT_len g r (i + 1)
    simp only [orT, catT, List.length_append, List.length_cons]
    split <;> simp <;> omega
theorem catT_len {g : Int → List UInt8} {h : Int → Nat} : ∀ (l : List Int), (∀ k ∈ l, (g k).length + 1 ≤ 900 * h k) → (catT g l).length + l.length ≤ 900 * (l.map h).sum
  | [], _ => by simp [catT]
  | k :: r, e => by
    have h1 := catT_len r (fun y hy => e y (by simp [hy]))
    have h2 := e k (by simp)
    simp only [catT, List.length_append, List.length_cons, List.map_cons, List.sum_cons]
    omega
theorem oneT_len (g : Int → List UInt8) : ∀ (l : List Int), (oneT g l).length ≤ (catT g l).length
  | [] => by simp [oneT]
  | k :: r => by simp [oneT, catT]
theorem txtX_len (a : Al) {g : Int → List UInt8} {h : Int → Nat} (x : Nd) (e : ∀ k ∈ x.kids, (g k).length + 1 ≤ 900 * h k) : (txtX a g x).length + 1 ≤ 900 * (1 + (x.kids.map h).sum) := by
  have h1 := catT_len x.kids e
  have h2 := orT_len g x.kids 0
  have h3 := oneT_len g x.kids
  have h4 := cls_le a x
  have h5 : (Lib.encodeRune x.rune).length ≤ 4 := by
    have := Lib.runeCells_le x.rune
    have := Lib.runeCells_length x.rune
    omega
  unfold txtX
  repeat' split
  all_goals
    (try simp only [List.length_cons, List.length_append, List.length_nil])
    omega
theorem txt_len (a : Al) {ns : List Nd} (hr : InR ns.length 0 ns) : ∀ (f i : Nat), i < ns.length → ns.length - i ≤ f → (txtN a ns f i).length + 1 ≤ 900 * szN ns f i
  | 0, i, h1, h2 => by omega
  | f + 1, i, h1, h2 => by
    show (txtX a (fun k => txtN a ns f k.toNat) (ns.getD i nd0)).length + 1 ≤ 900 * (1 + ((ns.getD i nd0).kids.map fun k => szN ns f k.toNat).sum)
    refine txtX_len a _ fun k hk => ?_
    have := inr_at i hr h1 k hk
    exact txt_len a hr f k.toNat (by omega) (by omega)
end Go.Proofs.YtimhlnndobfehaaDoor
namespace Go.Proofs.YtimhlnndobfehaaDoor

def lettA : Al := ⟨[⟨#[118, 111, 105, 99, 101, 100]⟩, ⟨#[110, 97, 115, 97, 108]⟩, ⟨#[118, 111, 119, 101, 108]⟩], [⟨112, 0, 7⟩, ⟨98, 1, 6⟩, ⟨109, 3, 4⟩, ⟨97, 5, 2⟩, ⟨104, 0, 0⟩]⟩
def chapN : List Nd := [⟨6, 0, 0, 0, [1, 2, 4]⟩, ⟨3, 0, 1, 0, []⟩, ⟨8, 0, 0, 0, [3]⟩, ⟨2, 97, 0, 0, []⟩, ⟨5, 0, 0, 0, []⟩]
def chapS : ByteArray := ⟨#[40, 91, 43, 118, 111, 105, 99, 101, 100, 93, 97, 42, 35, 41]⟩
theorem pn_1 : parseS lettA chapS = (chapN, 0, 0) := by kernel_rfl
theorem pn_2 : ptextS lettA chapN = (chapS, 0) := by kernel_rfl
theorem pn_3 : parseS lettA ⟨#[123, 97, 124, 40, 112, 98, 41, 124, 126, 125, 63]⟩ = ([⟨9, 0, 0, 0, [1]⟩, ⟨7, 0, 0, 0, [2, 3, 6]⟩, ⟨2, 97, 0, 0, []⟩, ⟨6, 0, 0, 0, [4, 5]⟩, ⟨2, 112, 0, 0, []⟩, ⟨2, 98, 0, 0, []⟩, ⟨1, 0, 0, 0, []⟩], 0, 0) := by kernel_rfl
theorem pn_4 : parseS lettA ⟨#[40, 41]⟩ = ([⟨6, 0, 0, 0, []⟩], 0, 0) := by kernel_rfl
theorem pn_5 : parseS lettA ⟨#[123, 125]⟩ = ([⟨7, 0, 0, 0, []⟩], 0, 0) := by kernel_rfl
theorem pn_6 : parseS lettA ⟨#[97, 42, 63]⟩ = ([⟨9, 0, 0, 0, [1]⟩, ⟨8, 0, 0, 0, [2]⟩, ⟨2, 97, 0, 0, []⟩], 0, 0) := by kernel_rfl
theorem pn_7 : parseS lettA ⟨#[91, 93]⟩ = ([⟨3, 0, 0, 0, []⟩], 0, 0) := by kernel_rfl
theorem pn_w1 : parseS lettA ⟨#[]⟩ = ([], 0, 40) := by kernel_rfl
theorem pn_w2 : parseS lettA ⟨#[120]⟩ = ([], 0, 40) := by kernel_rfl
theorem pn_w3 : parseS lettA ⟨#[40, 97]⟩ = ([], 2, 40) := by kernel_rfl
theorem pn_w4 : parseS lettA ⟨#[97, 98]⟩ = ([], 1, 40) := by kernel_rfl
theorem pn_w5 : parseS lettA ⟨#[123, 97]⟩ = ([], 2, 40) := by kernel_rfl
theorem pn_w6 : parseS lettA ⟨#[91, 118, 111, 105, 99, 101, 100, 93]⟩ = ([], 1, 40) := by kernel_rfl
theorem pn_w7 : parseS lettA ⟨#[91, 43, 110, 97, 115, 97, 108]⟩ = ([], 0, 40) := by kernel_rfl
theorem pn_c : patE ⟨[], []⟩ [⟨6, 0, 0, 0, [2, 1]⟩, ⟨2, 98, 0, 0, []⟩, ⟨2, 97, 0, 0, []⟩] = 7 := by kernel_rfl
end Go.Proofs.YtimhlnndobfehaaDoor
namespace Go.Proofs.YtimhlnndobfehaaDoor
open Go.RowKit
set_option linter.unusedVariables false

def LetOut (w : World) (e : Ending) (w' : World) : Prop := ∃ b, e = .returned (.agg #[.slice (some ⟨b, 0, none⟩) 3 3, .slice (some ⟨b + 1, 0, none⟩) 5 5]) ∧ AlIn w' 0 w'.heap.size (some ⟨b, 0, none⟩) (some ⟨b + 1, 0, none⟩) lettA ∧ Below w.heap.size w w'
set_option maxHeartbeats 2000000 in
theorem plett_any (w : World) : Calls Tryd.prog 16 #[] w (LetOut w) := by
  go_enter Tryd.func16, Tryd.ntmps16
  go_wp2_with fail
  obtain ⟨r1, r2, r3, hb, hz⟩ := boxes_3 w 25 9 89 [.slice (some ⟨w.heap.size + 1, 0, none⟩) 3 3, .slice (some ⟨w.heap.size + 1 + 1, 0, none⟩) 5 5]
    [.string ⟨#[118, 111, 105, 99, 101, 100]⟩, .string ⟨#[110, 97, 115, 97, 108]⟩, .string ⟨#[118, 111, 119, 101, 108]⟩]
    [.int .i32 112, .int .u32 0, .int .u32 7, .int .i32 98, .int .u32 1, .int .u32 6, .int .i32 109, .int .u32 3, .int .u32 4, .int .i32 97, .int .u32 5, .int .u32 2, .int .i32 104, .int .u32 0, .int .u32 0]
  refine bodyPost_ret (res_alphabet' rfl _ _ w.heap.size _ _ rfl r1) rfl ?_
  refine ⟨w.heap.size + 1, rfl, ⟨?_, row_fits r3 (ltVs_fits lettA.lets (fun x hx => ?_)) (Nat.zero_le _) (by rw [hz]; omega), by decide, by decide⟩, hb⟩
  · refine Row.sl (V := vStr) (xs := ([⟨#[118, 111, 105, 99, 101, 100]⟩, ⟨#[110, 97, 115, 97, 108]⟩, ⟨#[118, 111, 119, 101, 108]⟩] : List ByteArray)) r2 rfl (Nat.zero_le _) (by rw [hz]; omega) (fun i x v hx hv => ?_)
    match i, hx, hv with
    | 0, hx, hv =>
      obtain rfl := Option.some.inj hx
      obtain rfl := Option.some.inj hv
      exact ⟨rfl, by decide⟩
    | 1, hx, hv =>
      obtain rfl := Option.some.inj hx
      obtain rfl := Option.some.inj hv
      exact ⟨rfl, by decide⟩
    | 2, hx, hv =>
      obtain rfl := Option.some.inj hx
      obtain rfl := Option.some.inj hv
      exact ⟨rfl, by decide⟩
  · simp only [lettA, List.mem_cons, List.not_mem_nil, or_false] at hx
    rcases hx with rfl | rfl | rfl | rfl | rfl <;> exact ⟨⟨by decide, by decide⟩, by decide, by decide⟩
end Go.Proofs.YtimhlnndobfehaaDoor
namespace Go.Proofs.YtimhlnndobfehaaDoor
open Go.RowKit
open Go.Lib (Utf8Tabs)
set_option linter.unusedVariables false

/-- A block of some nodes' own. -/
def Blk (v : Value) (es : List (Nd × Value)) (g : Nat) : Prop := v.ownBlock = some g ∨ ∃ (i : Nat) (x : Nd) (u : Value), es[i]? = some (x, u) ∧ u.ownBlock = some g
theorem Blk.push {v v' u : Value} {es : List (Nd × Value)} {x : Nd} {g : Nat} (h : Blk v' (es ++ [(x, u)]) g) : v'.ownBlock = some g ∨ u.ownBlock = some g ∨ Blk v es g := by
  rcases h with h | ⟨i, y, t, hi, ht⟩
  · exact .inl h
  · by_cases hlt : i < es.length
    · rw [List.getElem?_append_left hlt] at hi
      exact .inr (.inr (.inr ⟨i, y, t, hi, ht⟩))
    · rw [List.getElem?_append_right (by omega)] at hi
      match hm : i - es.length, hi with
      | 0, hi =>
        simp only [List.getElem?_cons_zero, Option.some.injEq, Prod.mk.injEq] at hi
        obtain ⟨_, rfl⟩ := hi
        exact .inr (.inl ht)
      | n + 1, hi => simp at hi
/-- A reader: what it reads, where it stands, the nodes so far. -/
structure Rd (W0 : World) (A1 A2 : Option Addr) (c1 c2 : Nat) (a : Al) (s : ByteArray) (k : Nat) (v : Value) (es : List (Nd × Value)) (w : World) : Prop where
  row : Row w W0.heap.size 120 [.slice A1 a.feats.length c1, .slice A2 a.lets.length c2, .string s, .int .i64 (k : Int), v]
  nodes : Nodes w (W0.heap.size + 1) v es
  below : Below W0.heap.size W0 w
section
variable {W0 : World} {A1 A2 : Option Addr} {c1 c2 : Nat} {a : Al} {s : ByteArray} {k : Nat} {v : Value} {es : List (Nd × Value)} {w w' : World}
theorem Rd.lt (h : Rd W0 A1 A2 c1 c2 a s k v es w) : W0.heap.size < w.heap.size := h.row.lt
theorem Rd.blk (h : Rd W0 A1 A2 c1 c2 a s k v es w) {g : Nat} (hg : Blk v es g) : W0.heap.size + 1 ≤ g ∧ g < w.heap.size := h.nodes.lt hg
theorem Rd.on (h : Rd W0 A1 A2 c1 c2 a s k v es w) (hb : Below w.heap.size w w') : Rd W0 A1 A2 c1 c2 a s k v es w' :=
  ⟨h.row.below hb h.lt, h.nodes.below hb, h.below.trans (hb.mono h.below.size)⟩
theorem Rd.to (h : Rd W0 A1 A2 c1 c2 a s k v es w) (j : Nat) : Rd W0 A1 A2 c1 c2 a s j v es (w.setCell ⟨W0.heap.size, 3, none⟩ (.int .i64 (j : Int))) :=
  ⟨h.row.set_ 3 _, h.nodes.same fun g hg => Below.heap_setCell _ _ _ g (fun e => by have := (h.blk hg).1; simp only at e; omega), h.below.setCell (Nat.le_refl _) _⟩
set_option maxHeartbeats 4000000 in
set_option maxRecDepth 100000 in
theorem next_any (h : Rd W0 A1 A2 c1 c2 a s k v es w) (hs : s.size ≤ 65536) (b : Nat) (hb : b < 256) :
    Calls Tryd.prog 85 #[.pointer (some ⟨W0.heap.size, 0, none⟩), .int .u8 (b : Int)] w fun e w' => e = .returned (.bool (isB s k b)) ∧ Rd W0 A1 A2 c1 c2 a s (if isB s k b then k + 1 else k) v es w' ∧ Fr (fun g => g = W0.heap.size) w w' := by
  obtain ⟨y2, f2⟩ := h.row.cel (i := 2) rfl
  obtain ⟨y3, f3⟩ := h.row.cel (i := 3) rfl
  have hl := h.lt
  have HD := Lib.hid (fun (n : Nat) => h.on (below_drewN (Below.refl _ _) n))
  have HF := Lib.hid (fun (n : Nat) => And.intro ((h.on (below_drewN (Below.refl _ _) n)).to (k + 1)) (((Fr.refl (fun g => g = W0.heap.size) w).drewN n).setc ⟨W0.heap.size, 3, none⟩ (.int .i64 ((k + 1 : Nat) : Int)) (fun _ => rfl)))
  have HG := Lib.hid (fun (n : Nat) => (Fr.refl (fun g => g = W0.heap.size) w).drewN n)
  have e1 : (((k + 1 : Nat) : Int)) = (k : Int) + 1 := by omega
  rw [e1] at HF
  clear h e1
  by_cases hk : k < s.size
  · have hbt : (s[k]'hk).toNat = bt s k := bt_get s k hk
    have j1 : decide ((k : Int) < (s.size : Int)) = true := by rw [decide_eq_true_eq]; omega
    have j2 : decide (k < s.size) = true := decide_eq_true hk
    have j3 : (k : Int) < (s.size : Int) := by omega
    have j4 : 0 ≤ (k : Int) := by omega
    by_cases hq : bt s k = b
    · have hB : isB s k b = true := by unfold isB; rw [j2, decide_eq_true hq]; rfl
      have hd : (((s[k]'hk).toNat : Int) == (b : Int)) = true := by rw [beq_iff_eq]; omega
      have hd2 : ((s[k]'hk).toNat == b) = true := by rw [beq_iff_eq]; omega
      rw [hB, if_pos rfl]
      clear hbt hq hB
      go_enter Tryd.func85, Tryd.ntmps85
      go_wp2_with fail
      go_quiet (fail)
      go_wp2_with fail
      go_ret
      exact ⟨rfl, (HF.out _).1, (HF.out _).2⟩
    · have hB : isB s k b = false := by unfold isB; rw [j2, decide_eq_false hq]; rfl
      have hd : (((s[k]'hk).toNat : Int) == (b : Int)) = false := by rw [beq_eq_false_iff_ne]; omega
      have hd2 : ((s[k]'hk).toNat == b) = false := by rw [beq_eq_false_iff_ne]; omega
      rw [hB, if_neg (by simp)]
      clear hbt hq hB
      go_enter Tryd.func85, Tryd.ntmps85
      go_wp2_with fail
      go_quiet (fail)
      go_wp2_with fail
      go_ret
      exact ⟨rfl, HD.out _, HG.out _⟩
  · have j1 : decide ((k : Int) < (s.size : Int)) = false := by rw [decide_eq_false_iff_not]; omega
    have j2 : decide (k < s.size) = false := decide_eq_false hk
    have hB : isB s k b = false := by unfold isB; rw [j2]; rfl
    rw [hB, if_neg (by simp)]
    clear hB
    go_enter Tryd.func85, Tryd.ntmps85
    go_wp2_with fail
    go_quiet (fail)
    go_wp2_with fail
    go_ret
    exact ⟨rfl, HD.out _, HG.out _⟩
theorem node_one (x : Nd) (u : Value) (hu : u.oneCell' = true) : ∀ t ∈ ndCells x u, t.oneCell' = true := by
  intro t ht
  simp only [ndCells, List.mem_cons, List.not_mem_nil, or_false] at ht
  rcases ht with rfl | rfl | rfl | rfl | rfl <;> first | rfl | exact hu
set_option maxHeartbeats 8000000 in
set_option maxRecDepth 100000 in
theorem add_any (h : Rd W0 A1 A2 c1 c2 a s k v es w) (hn : es.length ≤ 70000) {x : Nd} {B : Option Addr} {cc : Nat} (hu : w.ownsRow (W0.heap.size + 1) 3 1 (.slice B x.kids.length cc) x.kids.length (x.kids.map (Value.int .i64))) (hx : kinNd x)
    (hfar : ∀ g, (Value.slice B x.kids.length cc).ownBlock = some g → ¬ Blk v es g) :
    Calls Tryd.prog 86 #[.pointer (some ⟨W0.heap.size, 0, none⟩), .agg #[.int .u8 x.kind, .int .i32 x.rune, .int .u32 x.plus, .int .u32 x.minus, .slice B x.kids.length cc]] w fun e w' =>
      e = .returned (.int .i64 (es.length : Int)) ∧ ∃ v', Rd W0 A1 A2 c1 c2 a s k v' (es ++ [(x, .slice B x.kids.length cc)]) w' ∧ Fr (fun g => g = W0.heap.size ∨ v.ownBlock = some g) w w' ∧ (v'.ownBlock = v.ownBlock ∨ ∀ g, v'.ownBlock = some g → w.heap.size ≤ g) := by
  obtain ⟨i1, hi1, hy0, hy1, hy2⟩ := info_parts (show (Tryd.prog.info? 44).map (fun i => (i.zero, i.size, i.bytes)) = some (some (.agg #[.int .u8 0, .int .i32 0, .int .u32 0, .int .u32 0, .slice none 0 0]), 5, 40) by kernel_rfl)
  obtain ⟨Av, cv, rfl, _, _⟩ := own_form h.nodes.row
  have hlt := h.lt
  obtain ⟨wA, hwA⟩ : ∃ wA, wA = ((w.alloc (.cells #[.int .u8 x.kind, .int .i32 x.rune, .int .u32 x.plus, .int .u32 x.minus, .slice B x.kids.length cc] 44)).alloc (.cells #[.int .u8 x.kind, .int .i32 x.rune, .int .u32 x.plus, .int .u32 x.minus, .slice B x.kids.length cc] 44)).drew := ⟨_, rfl⟩
  have hbA : Below w.heap.size w wA := by rw [hwA]; exact below_drewN (((Below.refl _ _).alloc (Nat.le_refl _) _).alloc (by simp) _) 1
  have hsA : wA.heap.size = w.heap.size + 2 := by
    rw [hwA]
    show ((w.alloc _).alloc _).heap.size = _
    simp
  have hrN : Row wA (w.heap.size + 1) 44 (ndCells x (.slice B x.kids.length cc)) := by
    have h := Row.new (w.alloc (.cells #[.int .u8 x.kind, .int .i32 x.rune, .int .u32 x.plus, .int .u32 x.minus, .slice B x.kids.length cc] 44)) 44 (ndCells x (.slice B x.kids.length cc))
    simp only [World.size_alloc] at h
    rw [hwA]
    exact h
  have hRA := h.on hbA
  have hownA := hRA.nodes.row
  have hnewsA := hrN.news
  have hloA : W0.heap.size + 1 ≤ wA.heap.size := by omega
  have honeA := node_one x (.slice B x.kids.length cc) rfl
  have h63 : es.length + 1 ≤ maxLen := by unfold maxLen; omega
  have hbyA : (es.length + 1) * 40 ≤ 140737488355328 := by omega
  have huA := own_below hu hbA
  have hne : (Value.slice Av es.length cv).ownBlock ≠ some W0.heap.size := fun e => by have := (h.nodes.row.lt _ e).1; omega
  obtain ⟨y4, f4⟩ := h.row.cel (i := 4) rfl
  have hdone : ∀ g5 cap5 w5, w5.ownsRow (W0.heap.size + 1) 44 5 (.slice (some ⟨g5, 0, none⟩) (es.length + 1) cap5) (es.length + 1) (flat es ++ ndCells x (.slice B x.kids.length cc)) → wA.grownBy w5 (Value.slice Av es.length cv).ownBlock →
      ((Value.slice Av es.length cv).ownBlock = some g5 ∨ g5 = wA.heap.size) →
      Row w5 W0.heap.size 120 [.slice A1 a.feats.length c1, .slice A2 a.lets.length c2, .string s, .int .i64 (k : Int), .slice Av es.length cv] ∧
      Rd W0 A1 A2 c1 c2 a s k (.slice (some ⟨g5, 0, none⟩) (es.length + 1) cap5) (es ++ [(x, .slice B x.kids.length cc)]) (w5.setCell ⟨W0.heap.size, 4, none⟩ (.slice (some ⟨g5, 0, none⟩) (es.length + 1) cap5)) ∧
      Fr (fun g => g = W0.heap.size ∨ (Value.slice Av es.length cv).ownBlock = some g) w (w5.setCell ⟨W0.heap.size, 4, none⟩ (.slice (some ⟨g5, 0, none⟩) (es.length + 1) cap5)) ∧
      ((Value.slice (some ⟨g5, 0, none⟩) (es.length + 1) cap5).ownBlock = (Value.slice Av es.length cv).ownBlock ∨ ∀ g, (Value.slice (some ⟨g5, 0, none⟩) (es.length + 1) cap5).ownBlock = some g → w.heap.size ≤ g) := fun g5 cap5 w5 h1 h2 h3 => by
    have hr5 : Row w5 W0.heap.size 120 [.slice A1 a.feats.length c1, .slice A2 a.lets.length c2, .string s, .int .i64 (k : Int), .slice Av es.length cv] := hRA.row.grown h2 (fun e => hne e.symm)
    have hnd : Nodes w5 (W0.heap.size + 1) (.slice (some ⟨g5, 0, none⟩) (es.length + 1) cap5) (es ++ [(x, .slice B x.kids.length cc)]) := by
      refine hRA.nodes.push huA hx (fun g hg => ?_) h1 h2 ?_
      · have := hfar g hg
        exact ⟨fun e => this (.inl e), fun i y t hi e => this (.inr ⟨i, y, t, hi, e⟩)⟩
      · rcases h3 with h3 | h3
        · exact .inl h3.symm
        · exact .inr (by show some g5 = _; rw [h3])
    refine ⟨hr5, ⟨hr5.set_ 4 _, hnd.same fun g hg => Below.heap_setCell _ _ _ g (fun e => by have := (hnd.lt hg).1; simp only at e; omega), ?_⟩, ?_, ?_⟩
    · exact ((h.below.trans (hbA.mono h.below.size)).grown h2 (by omega) (fun j hj => by have := (h.nodes.row.lt j hj).1; omega)).setCell (Nat.le_refl _) _
    · exact ((Fr.of_below (S := fun g => g = W0.heap.size ∨ (Value.slice Av es.length cv).ownBlock = some g) hbA).trans (T := fun g => (Value.slice Av es.length cv).ownBlock = some g) (Fr.of_grown h2 fun g e => e) fun g _ e => .inr e).setc _ _ fun _ => .inl rfl
    · rcases h3 with h3 | h3
      · exact .inl h3.symm
      · exact .inr fun g hg => by
          have : g5 = g := Option.some.inj hg
          omega
  have hrow5 := Lib.hid (fun (w5 : World) (h : Row w5 W0.heap.size 120 [.slice A1 a.feats.length c1, .slice A2 a.lets.length c2, .string s, .int .i64 (k : Int), .slice Av es.length cv]) => h.cel (i := 4) rfl)
  rw [hwA] at hdone hownA hnewsA hloA
  have HD := Lib.hid hdone
  clear hdone hwA hbA hsA hrN hRA huA hu h hfar
  go_enter Tryd.func86, Tryd.ntmps86
  go_upto_region 1 with (fail)
  go_region_law (refine step_append_lies _ rfl _ _ 26 rfl (W0.heap.size + 1) 44 i1 (.agg #[.int .u8 0, .int .i32 0, .int .u32 0, .int .u32 0, .slice none 0 0]) 5 40 Tryd.underlying26 hi1 hy0 hy1 hy2 rfl (by decide) (.slice Av es.length cv) es.length (flat es) rfl hownA ⟨w.heap.size + 1, 0, none⟩ 1 1 (ndCells x (.slice B x.kids.length cc)) rfl rfl hnewsA honeA (by decide) h63 hbyA hloA _ rfl ?_; intro g5 cap5 w5 hown5 hgr5 hat5 hlt5; obtain ⟨hr5, hR5, hF5, hA5⟩ := HD.out g5 cap5 w5 hown5 hgr5 hat5; obtain ⟨cq5, fq5⟩ := hrow5.out w5 hr5)
  all_goals
    have hl5 := hr5.lt
    have HFIN : Hid (∃ v', Rd W0 A1 A2 c1 c2 a s k v' (es ++ [(x, .slice B x.kids.length cc)]) (w5.setCell ⟨W0.heap.size, 4, none⟩ (.slice (some ⟨g5, 0, none⟩) (es.length + 1) cap5)) ∧ Fr (fun g => g = W0.heap.size ∨ (Value.slice Av es.length cv).ownBlock = some g) w (w5.setCell ⟨W0.heap.size, 4, none⟩ (.slice (some ⟨g5, 0, none⟩) (es.length + 1) cap5)) ∧ (v'.ownBlock = (Value.slice Av es.length cv).ownBlock ∨ ∀ g, v'.ownBlock = some g → w.heap.size ≤ g)) := ⟨_, hR5, hF5, hA5⟩
    clear hR5 hF5 hA5 hown5 hgr5 hat5 hlt5 hr5
    go_wp2_with fail
    go_ret
    exact ⟨rfl, HFIN.out⟩
end
end Go.Proofs.YtimhlnndobfehaaDoor
namespace Go.Proofs.YtimhlnndobfehaaDoor
open Go.RowKit
open Go.Lib (Utf8Tabs)
set_option linter.unusedVariables false

/-- From some nodes in one world to more in a later one: what is turned, and whose blocks are whose. -/
structure Stp (rp : Nat) (v : Value) (es : List (Nd × Value)) (w : World) (v' : Value) (es' : List (Nd × Value)) (w' : World) : Prop where
  fr : Fr (fun g => g = rp ∨ v.ownBlock = some g) w w'
  row : ∀ g, v'.ownBlock = some g → v.ownBlock = some g ∨ w.heap.size ≤ g
  blk : ∀ g, Blk v' es' g → Blk v es g ∨ w.heap.size ≤ g
section
variable {rp : Nat} {v v' v'' : Value} {es es' es'' : List (Nd × Value)} {w w' w'' : World}
theorem Stp.refl (rp : Nat) (v : Value) (es : List (Nd × Value)) (w : World) : Stp rp v es w v es w := ⟨Fr.refl _ _, fun g h => .inl h, fun g h => .inl h⟩
theorem Stp.trans (h : Stp rp v es w v' es' w') (k : Stp rp v' es' w' v'' es'' w'') : Stp rp v es w v'' es'' w'' := by
  have hs := h.fr.size
  refine ⟨h.fr.trans k.fr fun g hg e => ?_, fun g hg => ?_, fun g hg => ?_⟩
  · rcases e with e | e
    · exact .inl e
    · rcases h.row g e with e | e
      · exact .inr e
      · omega
  · rcases k.row g hg with e | e
    · exact h.row g e
    · exact .inr (by omega)
  · rcases k.blk g hg with e | e
    · exact h.blk g e
    · exact .inr (by omega)
/-- Nothing of the nodes was turned. -/
theorem Stp.same (h : Stp rp v es w v' es' w') (hf : Fr (fun g => g = rp) w' w'') : Stp rp v es w v' es' w'' :=
  ⟨h.fr.trans hf fun g _ e => .inl e, h.row, h.blk⟩
theorem Stp.own (h : Stp rp v es w v' es' w') {S : Nat → Prop} (hf : Fr S w' w'') (hS : ∀ g, S g → w.heap.size ≤ g) : Stp rp v es w v' es' w'' :=
  ⟨h.fr.trans hf fun g hg e => by have := hS g e; omega, h.row, h.blk⟩
theorem Stp.add (h : Stp rp v es w v' es' w') (hf : Fr (fun g => g = rp ∨ v'.ownBlock = some g) w' w'') (hv : v''.ownBlock = v'.ownBlock ∨ ∀ g, v''.ownBlock = some g → w'.heap.size ≤ g) {x : Nd} {u : Value} (hu : ∀ g, u.ownBlock = some g → w.heap.size ≤ g) :
    Stp rp v es w v'' (es' ++ [(x, u)]) w'' := by
  have hs := h.fr.size
  have hrow : ∀ g, v''.ownBlock = some g → v.ownBlock = some g ∨ w.heap.size ≤ g := fun g hg => by
    rcases hv with e | e
    · rw [e] at hg; exact h.row g hg
    · exact .inr (by have := e g hg; omega)
  refine ⟨h.fr.trans hf fun g hg e => ?_, hrow, fun g hg => ?_⟩
  · rcases e with e | e
    · exact .inl e
    · rcases h.row g e with e | e
      · exact .inr e
      · omega
  · rcases Blk.push (es := es') (v := v') hg with e | e | e
    · rcases hrow g e with e | e
      · exact .inl (.inl e)
      · exact .inr e
    · exact .inr (hu g e)
    · exact h.blk g e
end
section
variable {W0 : World} {A1 A2 : Option Addr} {c1 c2 : Nat} {a : Al} {s : ByteArray} {k : Nat} {v : Value} {es : List (Nd × Value)} {w w' : World}
theorem Rd.fr {S : Nat → Prop} (h : Rd W0 A1 A2 c1 c2 a s k v es w) (hf : Fr S w w') (hS : ∀ g, S g → W0.heap.size + 1 ≤ g ∧ ¬ Blk v es g) : Rd W0 A1 A2 c1 c2 a s k v es w' := by
  refine ⟨(hf.block _ h.lt fun e => by have := (hS _ e).1; omega).trans h.row, h.nodes.fr hf fun g hg e => (hS g e).2 hg, h.below.trans (hf.below (fun g e => by have := (hS g e).1; omega) (by have := h.lt; omega))⟩
theorem Rd.len (h : Rd W0 A1 A2 c1 c2 a s k v es w) : es.length ≤ 9223372036854775807 := by
  obtain ⟨A, c, e, h1, h2⟩ := own_form h.nodes.row
  unfold maxLen at h2
  omega
/-- What a call of the reader's ends in: a node's number, or the panic that names a place. -/
def ParsOut (W0 : World) (A1 A2 : Option Addr) (c1 c2 : Nat) (a : Al) (s : ByteArray) (v : Value) (es : List (Nd × Value)) (w : World) (r : PR) (e : Ending) (w' : World) : Prop := match r with
  | .bad q => e = .panicked [{ v := .iface 117 (.int .i64 (q : Int)), recovered := false }] ∧ Below W0.heap.size W0 w'
  | .ok t i => e = .returned (.int .i64 ((es.length + t.size - 1 : Nat) : Int)) ∧ ∃ v' es1, Rd W0 A1 A2 c1 c2 a s i v' (es ++ es1) w' ∧ es1.map Prod.fst = (t.post es.length).1 ∧ Stp W0.heap.size v es w v' (es ++ es1) w'
theorem mk_u8 {n : Int} (h : 0 ≤ n ∧ n < 256) : kin .u8 n := by simp [kin, Lit.wf, IntKind.min, IntKind.max, IntKind.signed, IntKind.bits]; omega
theorem mk_i32 {n : Int} (h : -2147483648 ≤ n ∧ n ≤ 2147483647) : kin .i32 n := by simp [kin, Lit.wf, IntKind.min, IntKind.max, IntKind.signed, IntKind.bits]; omega
theorem mk_u32 {n : Int} (h : 0 ≤ n ∧ n < 4294967296) : kin .u32 n := by simp [kin, Lit.wf, IntKind.min, IntKind.max, IntKind.signed, IntKind.bits]; omega
theorem kin_nd {k r p m : Int} {l : List Int} (h1 : 0 ≤ k ∧ k < 256) (h2 : -2147483648 ≤ r ∧ r ≤ 2147483647) (h3 : 0 ≤ p ∧ p < 4294967296) (h4 : 0 ≤ m ∧ m < 4294967296) (h5 : ∀ x ∈ l, 0 ≤ x ∧ x < 9223372036854775807) : kinNd ⟨k, r, p, m, l⟩ :=
  ⟨mk_u8 h1, mk_i32 h2, mk_u32 h3, mk_u32 h4, fun x hx => by
    obtain ⟨n, rfl⟩ := Int.eq_ofNat_of_zero_le (h5 x hx).1
    exact kin_mk64 (by have := (h5 _ hx).2; omega)⟩
/-- A leaf is added. -/
theorem add_leaf {v1 : Value} {w1 : World} (h : Rd W0 A1 A2 c1 c2 a s k v1 es w1) (hst : Stp W0.heap.size v es w v1 es w1) (hn : es.length ≤ 70000) {q r p m : Int} (h1 : 0 ≤ q ∧ q < 256) (h2 : -2147483648 ≤ r ∧ r ≤ 2147483647) (h3 : 0 ≤ p ∧ p < 4294967296) (h4 : 0 ≤ m ∧ m < 4294967296) :
    Calls Tryd.prog 86 #[.pointer (some ⟨W0.heap.size, 0, none⟩), .agg #[.int .u8 q, .int .i32 r, .int .u32 p, .int .u32 m, .slice none 0 0]] w1 (ParsOut W0 A1 A2 c1 c2 a s v es w (.ok (leafF q r p m) k)) := by
  refine (add_any h hn (x := ⟨q, r, p, m, []⟩) (B := none) (cc := 0) (World.ownsRow_nil _ _ _ _) (kin_nd h1 h2 h3 h4 (by simp)) (fun g hg => by cases hg)).mono ?_
  rintro e w' ⟨rfl, v', hR, hF, hv⟩
  exact ⟨by rw [leaf_size, Nat.add_sub_cancel], v', [(⟨q, r, p, m, []⟩, .slice none 0 0)], hR, rfl, hst.add hF hv fun g hg => by cases hg⟩
/-- A rune that is a letter was decoded of bytes that are there. -/
theorem dec_went (a : Al) (s : ByteArray) (k : Nat) (h : (ofS a ((Lib.decodeGo (s.extract k s.size)).1 : Int)).2 = 0) : k < s.size ∧ 1 ≤ (Lib.decodeGo (s.extract k s.size)).2 ∧ k + (Lib.decodeGo (s.extract k s.size)).2 ≤ s.size := by
  have hsz : (s.extract k s.size).size = s.size - k := by rw [ByteArray.size_extract]; omega
  by_cases hk : k < s.size
  · have hw := decode_width (s.extract k s.size) 0 (by omega)
    unfold Lib.decodeGo
    rw [if_neg (by omega)]
    omega
  · exfalso
    have e : Lib.decodeGo (s.extract k s.size) = (65533, 0) := by unfold Lib.decodeGo; rw [if_pos (by omega)]
    rw [e] at h
    obtain ⟨hok, j, hj, hn, _⟩ := ofS_zero h
    have := isLet_ok hok (x := 65533) (by unfold isLet; rw [show ((65533 : Nat) : Int) = 65533 from rfl] at hn; rw [hn]; rfl)
    revert this
    decide
end
end Go.Proofs.YtimhlnndobfehaaDoor
namespace Go.Proofs.YtimhlnndobfehaaDoor
open Go.RowKit
open Go.Lib (Utf8Tabs)
set_option linter.unusedVariables false

theorem own_lone (w : World) (t : TypeId) (u : Value) {base : Nat} (hb : base ≤ w.heap.size) : (w.alloc (.cells #[u] t)).ownsRow base t 1 (.slice (some ⟨w.heap.size, 0, none⟩) 1 1) 1 [u] :=
  ⟨rfl, .inr ⟨w.heap.size, 1, #[u], rfl, hb, heap_alloc_new w _, Nat.le_refl _, by unfold maxLen; omega, rfl, rfl⟩⟩
theorem post_up (q r p m : Int) {t : Fo} (h : OneT t) (b : Nat) : ((Fo.nd q r p m t .nil).post b).1 = (t.post b).1 ++ [⟨q, r, p, m, [((b + t.size - 1 : Nat) : Int)]⟩] := by
  simp only [Fo.post, h.num b]
section
variable (W0 : World) (A1 A2 : Option Addr) (c1 c2 : Nat) (a : Al) (s : ByteArray)
def OneOk (f : Nat) : Prop := ∀ (k : Nat) (v : Value) (es : List (Nd × Value)) (w : World), Rd W0 A1 A2 c1 c2 a s k v es w → k ≤ s.size → 3 * (s.size - k) + 1 ≤ f → es.length ≤ k →
  Calls Tryd.prog 84 #[.pointer (some ⟨W0.heap.size, 0, none⟩)] w (ParsOut W0 A1 A2 c1 c2 a s v es w (pars a s f .one k))
def NodeOk (f : Nat) : Prop := ∀ (k : Nat) (v : Value) (es : List (Nd × Value)) (w : World), Rd W0 A1 A2 c1 c2 a s k v es w → k ≤ s.size → 3 * (s.size - k) + 2 ≤ f → es.length ≤ k →
  Calls Tryd.prog 69 #[.pointer (some ⟨W0.heap.size, 0, none⟩)] w (ParsOut W0 A1 A2 c1 c2 a s v es w (pars a s f .node k))
def StarSt (R : PR) (k : Nat) (v : Value) (es : List (Nd × Value)) (w : World) (x : Value) (wr : World) : Prop :=
  ∃ (t : Fo) (k1 g : Nat) (v1 : Value) (es1 : List (Nd × Value)), x = .int .i64 ((es.length + t.size - 1 : Nat) : Int) ∧ OneT t ∧ Hid (Rd W0 A1 A2 c1 c2 a s k1 v1 (es ++ es1) wr) ∧ Hid (es1.map Prod.fst = (t.post es.length).1) ∧ Hid (Stp W0.heap.size v es w v1 (es ++ es1) wr) ∧
    k ≤ k1 ∧ k1 ≤ s.size ∧ t.size ≤ k1 - k ∧ s.size - k1 + 1 ≤ g ∧ Hid (R = pars a s g (.stars t) k1)
end
section
variable {W0 : World} {A1 A2 : Option Addr} {c1 c2 : Nat} {a : Al} {s : ByteArray}
/-- A star, or what may be left out, is added. -/
theorem add_star {k1 : Nat} {v v1 : Value} {es es1 : List (Nd × Value)} {w w1 : World} {t : Fo} (q : Int) (hq : 0 ≤ q ∧ q < 256) (h1 : OneT t) (h : Rd W0 A1 A2 c1 c2 a s k1 v1 (es ++ es1) w1) (he : es1.map Prod.fst = (t.post es.length).1) (hst : Stp W0.heap.size v es w v1 (es ++ es1) w1) (hn : es.length + t.size ≤ 70000) :
    Calls Tryd.prog 86 #[.pointer (some ⟨W0.heap.size, 0, none⟩), .agg #[.int .u8 q, .int .i32 0, .int .u32 0, .int .u32 0, .slice (some ⟨w1.heap.size, 0, none⟩) 1 1]] (w1.alloc (.cells #[.int .i64 ((es.length + t.size - 1 : Nat) : Int)] 3)) fun e w' =>
      e = .returned (.int .i64 ((es.length + t.size : Nat) : Int)) ∧ ∃ v' es', Rd W0 A1 A2 c1 c2 a s k1 v' (es ++ es') w' ∧ es'.map Prod.fst = ((Fo.nd q 0 0 0 t .nil).post es.length).1 ∧ Stp W0.heap.size v es w v' (es ++ es') w' := by
  have hl : es1.length = t.size := by rw [← List.length_map (f := Prod.fst), he, (post_len t es.length).1]
  have hb : Below w1.heap.size w1 (w1.alloc (.cells #[.int .i64 ((es.length + t.size - 1 : Nat) : Int)] 3)) := (Below.refl _ _).alloc (Nat.le_refl _) _
  have hlt := h.lt
  have hfr := hst.fr.size
  have hp := h1.pos
  refine (add_any (h.on hb) (by rw [List.length_append, hl]; omega) (x := ⟨q, 0, 0, 0, [((es.length + t.size - 1 : Nat) : Int)]⟩) (own_lone w1 3 _ (by omega)) (kin_nd hq (by omega) (by omega) (by omega) (fun x hx => by rw [List.mem_singleton] at hx; omega)) (fun g hg hB => ?_)).mono ?_
  · have e : w1.heap.size = g := by simpa [Value.ownBlock] using hg
    have := (h.blk hB).2
    omega
  · rintro e w' ⟨rfl, v', hR, hF, hv⟩
    refine ⟨by rw [List.length_append, hl], v', es1 ++ [(⟨q, 0, 0, 0, [((es.length + t.size - 1 : Nat) : Int)]⟩, .slice (some ⟨w1.heap.size, 0, none⟩) 1 1)], by rw [← List.append_assoc]; exact hR, ?_, ?_⟩
    · rw [List.map_append, he, post_up q 0 0 0 h1]
      rfl
    · rw [← List.append_assoc]
      refine Stp.add (w' := w1.alloc (.cells #[.int .i64 ((es.length + t.size - 1 : Nat) : Int)] 3)) ⟨hst.fr.trans (T := fun _ => False) (Fr.of_below hb) (fun _ _ h => h.elim), hst.row, hst.blk⟩ hF hv fun g hg => ?_
      have e : w1.heap.size = g := by simpa [Value.ownBlock] using hg
      omega
set_option maxHeartbeats 8000000 in
set_option maxRecDepth 100000 in
theorem node_ok (hs : s.size ≤ 65536) {f : Nat} (hone : OneOk W0 A1 A2 c1 c2 a s f) : NodeOk W0 A1 A2 c1 c2 a s (f + 1) := by
  intro k v es w hR hk hf hn
  have hcall := Lib.hid (hone k v es w hR hk (by omega) hn)
  have hE : pars a s (f + 1) .node k = match pars a s f .one k with
    | .ok t i => pars a s f (.stars t) i
    | .bad q => .bad q := rfl
  have hW := pars_went (dec_went a s) f .one k
  generalize pars a s (f + 1) .node k = R at *
  cases hr : pars a s f .one k with
  | bad q =>
    rw [hr] at hcall hE
    simp only at hE
    subst hE
    clear hW hr hone
    go_enter Tryd.func69, Tryd.ntmps69
    go_wp2_with fail
    refine hcall.out.mono ?_
    rintro e w1 ⟨rfl, hb⟩
    go_wp2_with fail
    exact ⟨rfl, rfl, hb⟩
  | ok t i =>
    rw [hr] at hcall hE
    obtain ⟨h1, h2, h3, h4⟩ := hW t i hr
    simp only at hE
    have HE := Lib.hid hE
    clear hr hW hE hone
    have hp := h1.pos
    go_enter Tryd.func69, Tryd.ntmps69
    go_wp2_with fail
    refine hcall.out.mono ?_
    rintro e w1 ⟨rfl, v1, es1, hR1, he1, hst1⟩
    have HST : Hid (StarSt W0 A1 A2 c1 c2 a s R k v es w (.int .i64 ((es.length + t.size - 1 : Nat) : Int)) w1) := ⟨t, i, f, v1, es1, rfl, h1, hR1, he1, hst1, by omega, h3, h4, by omega, HE.out⟩
    clear hcall hR1 he1 hst1 HE hR
    generalize ((es.length + t.size - 1 : Nat) : Int) = x0 at *
    clear h1 h4 hp
    go_wp2_with fail
    go_loopw [3] (fun x wr => StarSt W0 A1 A2 c1 c2 a s R k v es w x wr) (fun x _ => es.length + s.size + 1 - (intOf x).toNat)
    case atStart => exact HST.out
    case round =>
      clear HST
      obtain ⟨t, k1, g, v1, es1, rfl, h1, hR1, he1, hst1, g1, g2, g3, g4, hE⟩ := hrel
      have hp := h1.pos
      obtain ⟨g, rfl⟩ : ∃ q, g = q + 1 := ⟨g - 1, by omega⟩
      have hx1 : pars a s (g + 1) (.stars t) k1 = if isB s k1 42 then pars a s g (.stars (.nd 8 0 0 0 t .nil)) (k1 + 1) else if isB s k1 63 then pars a s g (.stars (.nd 9 0 0 0 t .nil)) (k1 + 1) else .ok t k1 := rfl
      have hc1 := Lib.hid (next_any hR1.out hs 42 (by omega))
      cases hb1 : isB s k1 42 with
      | true =>
        have hlt := isB_lt hb1
        rw [hb1] at hc1 hx1
        have HE : Hid (R = pars a s g (.stars (.nd 8 0 0 0 t .nil)) (k1 + 1)) := by show _ = _; rw [hE.out, hx1, if_pos rfl]
        clear hb1 hE hx1
        go_wp2_with fail
        refine hc1.out.mono ?_
        rintro e w2 ⟨rfl, hR2, hf2⟩
        rw [if_pos trivial] at hR2
        have hst2 := hst1.out.same hf2
        have ha := Lib.hid (add_star 8 (by omega) h1 hR2 he1.out hst2 (by omega))
        have hl2 := hR2.lt
        clear hc1 hR2 hf2 hst2 hR1 he1 hst1
        have e0 : ((es.length + t.size : Nat) : Int) = (((es.length + (Fo.nd 8 0 0 0 t .nil).size - 1 : Nat)) : Int) := by simp only [Fo.size]; omega
        rw [e0] at ha
        have hsz : (Fo.nd 8 0 0 0 t .nil).size = 1 + t.size := rfl
        have h1' : OneT (Fo.nd 8 0 0 0 t .nil) := ⟨_, _, _, _, _, rfl⟩
        generalize Fo.nd 8 0 0 0 t .nil = t2 at *
        clear e0
        have HSZ := Lib.hid hsz
        clear hsz
        generalize hy1 : ((es.length + t.size - 1 : Nat) : Int) = y1 at *
        generalize hy2 : ((es.length + t2.size - 1 : Nat) : Int) = y2 at *
        have HY1 := Lib.hid hy1
        have HY2 := Lib.hid hy2
        clear hy1 hy2
        go_wp2_with fail
        refine ha.out.mono ?_
        rintro e w3 ⟨rfl, v3, es3, hR3, he3, hst3⟩
        have HFIN : Hid (StarSt W0 A1 A2 c1 c2 a s R k v es w (.int .i64 y2) w3) := ⟨t2, k1 + 1, g, v3, es3, by rw [HY2.out], h1', hR3, he3, hst3, by omega, by omega, by have := HSZ.out; omega, by omega, HE.out⟩
        clear hR3 he3 hst3 ha
        go_wp2_with fail
        exact ⟨HFIN.out, by have := HY1.out; have := HY2.out; have := HSZ.out; simp [intOf]; omega⟩
      | false =>
        rw [hb1] at hc1 hx1
        rw [if_neg (by simp)] at hx1
        clear hb1
        go_wp2_with fail
        refine hc1.out.mono ?_
        rintro e w2 ⟨rfl, hR2, hf2⟩
        rw [if_neg (by simp)] at hR2
        have hst2 := hst1.out.same hf2
        have HR2 := Lib.hid hR2
        have HS2 := Lib.hid hst2
        have hc2 := Lib.hid (next_any hR2 hs 63 (by omega))
        clear hc1 hR2 hf2 hst2 hR1 hst1
        cases hb2 : isB s k1 63 with
        | true =>
          have hlt := isB_lt hb2
          rw [hb2] at hc2 hx1
          have HE : Hid (R = pars a s g (.stars (.nd 9 0 0 0 t .nil)) (k1 + 1)) := by show _ = _; rw [hE.out, hx1, if_pos rfl]
          clear hb2 hE hx1
          go_wp2_with fail
          refine hc2.out.mono ?_
          rintro e w3 ⟨rfl, hR3, hf3⟩
          rw [if_pos trivial] at hR3
          have hst3 := HS2.out.same hf3
          have ha := Lib.hid (add_star 9 (by omega) h1 hR3 he1.out hst3 (by omega))
          have hl2 := hR3.lt
          clear hc2 hR3 hf3 hst3 he1 HR2 HS2
          have e0 : ((es.length + t.size : Nat) : Int) = (((es.length + (Fo.nd 9 0 0 0 t .nil).size - 1 : Nat)) : Int) := by simp only [Fo.size]; omega
          rw [e0] at ha
          have hsz : (Fo.nd 9 0 0 0 t .nil).size = 1 + t.size := rfl
          have h1' : OneT (Fo.nd 9 0 0 0 t .nil) := ⟨_, _, _, _, _, rfl⟩
          generalize Fo.nd 9 0 0 0 t .nil = t2 at *
          clear e0
          have HSZ := Lib.hid hsz
          clear hsz
          generalize hy1 : ((es.length + t.size - 1 : Nat) : Int) = y1 at *
          generalize hy2 : ((es.length + t2.size - 1 : Nat) : Int) = y2 at *
          have HY1 := Lib.hid hy1
          have HY2 := Lib.hid hy2
          clear hy1 hy2
          go_wp2_with fail
          refine ha.out.mono ?_
          rintro e w4 ⟨rfl, v3, es3, hR3, he3, hst3⟩
          have HFIN : Hid (StarSt W0 A1 A2 c1 c2 a s R k v es w (.int .i64 y2) w4) := ⟨t2, k1 + 1, g, v3, es3, by rw [HY2.out], h1', hR3, he3, hst3, by omega, by omega, by have := HSZ.out; omega, by omega, HE.out⟩
          clear hR3 he3 hst3 ha
          go_wp2_with fail
          exact ⟨HFIN.out, by have := HY1.out; have := HY2.out; have := HSZ.out; simp [intOf]; omega⟩
        | false =>
          rw [hb2] at hc2 hx1
          rw [if_neg (by simp)] at hx1
          have HE : Hid (R = .ok t k1) := by show _ = _; rw [hE.out, hx1]
          clear hb2 hE hx1
          go_wp2_with fail
          refine hc2.out.mono ?_
          rintro e w3 ⟨rfl, hR3, hf3⟩
          rw [if_neg (by simp)] at hR3
          have HFIN : Hid (ParsOut W0 A1 A2 c1 c2 a s v es w R (.returned (.int .i64 ((es.length + t.size - 1 : Nat) : Int))) w3) := by
            rw [HE.out]
            exact ⟨rfl, v1, es1, hR3, he1.out, HS2.out.same hf3⟩
          generalize ((es.length + t.size - 1 : Nat) : Int) = y1 at *
          clear hc2 hR3 hf3 HS2 HR2 he1
          go_wp2_with fail
          go_ret
          exact HFIN.out
end
end Go.Proofs.YtimhlnndobfehaaDoor
namespace Go.Proofs.YtimhlnndobfehaaDoor
open Go.RowKit
open Go.Lib (Utf8Tabs)
set_option linter.unusedVariables false

def sliceLen : Value → Nat
  | .slice _ n _ => n
  | _ => 0
theorem map_app (r : PR) (t acc : Fo) : (r.map t.app).map acc.app = r.map (acc.app t).app := by
  cases r with
  | bad q => rfl
  | ok f i => simp only [PR.map]; rw [fo_app_assoc]
section
variable (W0 : World) (A1 A2 : Option Addr) (c1 c2 : Nat) (a : Al) (s : ByteArray)
def ClsOk : Prop := ∀ (k : Nat) (v : Value) (es : List (Nd × Value)) (w : World), Rd W0 A1 A2 c1 c2 a s k v es w → 1 ≤ k → k ≤ s.size → es.length ≤ k →
  Calls Tryd.prog 101 #[.pointer (some ⟨W0.heap.size, 0, none⟩)] w (ParsOut W0 A1 A2 c1 c2 a s v es w (clsP a s k))
/-- Kids that are gathered. -/
structure Kin (v1 : Value) (es1 : List (Nd × Value)) (w : World) (A : Option Addr) (c : Nat) (xs : List Int) (wr : World) : Prop where
  own : wr.ownsRow (W0.heap.size + 1) 3 1 (.slice A xs.length c) xs.length (xs.map (Value.int .i64))
  far : ∀ b, (Value.slice A xs.length c).ownBlock = some b → w.heap.size ≤ b ∧ ¬ Blk v1 es1 b
def GatSt (m : Fo → Md) (up : Fo → Fo) (R : PR) (f k0 : Nat) (v : Value) (es : List (Nd × Value)) (w : World) (x : Value) (wr : World) : Prop :=
  ∃ (acc : Fo) (k1 g : Nat) (v1 : Value) (es1 : List (Nd × Value)) (A : Option Addr) (c : Nat) (xs : List Int), x = .slice A xs.length c ∧ Hid (xs = (acc.post es.length).2) ∧ Hid (Kin W0 v1 (es ++ es1) w A c xs wr) ∧
    Hid (Rd W0 A1 A2 c1 c2 a s k1 v1 (es ++ es1) wr) ∧ Hid (es1.map Prod.fst = (acc.post es.length).1) ∧ Hid (Stp W0.heap.size v es w v1 (es ++ es1) wr) ∧ k0 ≤ k1 ∧ k1 ≤ s.size ∧ acc.size ≤ k1 - k0 ∧ 3 * (s.size - k1) + 3 ≤ g ∧ g ≤ f ∧ Hid (R = ((pars a s g (m acc) k1).map acc.app).map up)
end
section
variable {W0 : World} {A1 A2 : Option Addr} {c1 c2 : Nat} {a : Al} {s : ByteArray}
theorem ParsOut.from_ {v v1 : Value} {es : List (Nd × Value)} {w w1 : World} {r : PR} {e : Ending} {w' : World} (hst : Stp W0.heap.size v es w v1 es w1) (h : ParsOut W0 A1 A2 c1 c2 a s v1 es w1 r e w') : ParsOut W0 A1 A2 c1 c2 a s v es w r e w' := by
  cases r with
  | bad q => exact h
  | ok t i =>
    obtain ⟨h1, v', es1, h2, h3, h4⟩ := h
    exact ⟨h1, v', es1, h2, h3, hst.trans h4⟩
theorem Kin.on {v1 v2 : Value} {es1 es2 : List (Nd × Value)} {w wr w2 : World} {A : Option Addr} {c : Nat} {xs : List Int} (h : Kin W0 v1 es1 w A c xs wr) (hst : Stp W0.heap.size v1 es1 wr v2 es2 w2) : Kin W0 v2 es2 w A c xs w2 := by
  have hlt := fun b (hb : (Value.slice A xs.length c).ownBlock = some b) => h.own.lt b hb
  refine ⟨own_fr h.own hst.fr fun g hg e => ?_, fun b hb => ⟨(h.far b hb).1, fun hB => ?_⟩⟩
  · rcases e with e | e
    · have := (hlt g hg).1; omega
    · exact (h.far g hg).2 (.inl e)
  · rcases hst.blk b hB with e | e
    · exact (h.far b hb).2 e
    · have := (hlt b hb).2; omega
theorem Kin.same {v1 : Value} {es1 : List (Nd × Value)} {w wr w2 : World} {A : Option Addr} {c : Nat} {xs : List Int} (h : Kin W0 v1 es1 w A c xs wr) (hf : Fr (fun g => g = W0.heap.size) wr w2) : Kin W0 v1 es1 w A c xs w2 :=
  h.on ((Stp.refl _ _ _ _).same hf)
/-- What the append of one number asks. -/
theorem idx_more {w : World} {base : Nat} {A : Option Addr} {c : Nat} {l : List Int} {k : Nat} (hk : k ≤ 200000) (h : w.ownsRow base 3 1 (.slice A l.length c) l.length (l.map (Value.int .i64))) :
    Sl 1 (vInt .i64) (w.alloc (.cells #[.int .i64 (k : Int)] 3)) w.heap.size (w.heap.size + 1) (some ⟨w.heap.size, 0, none⟩) [(k : Int)] ∧ (w.alloc (.cells #[.int .i64 (k : Int)] 3)).ownsRow base 3 1 (.slice A l.length c) l.length (l.map (Value.int .i64)) := by
  refine ⟨(Row.new w 3 [.int .i64 (k : Int)]).sl rfl (Nat.le_refl _) (by omega) (fun i x v hx hv => ?_), own_below h ((Below.refl _ _).alloc (Nat.le_refl _) _)⟩
  match i, hx, hv with
  | 0, hx, hv =>
    simp at hx hv
    subst hx hv
    exact ⟨rfl, kin_mk64 (by omega)⟩
/-- One kid more: the state goes on. -/
theorem seq_push {m : Fo → Md} {up : Fo → Fo} {R : PR} {f k0 g i : Nat} {v v1 v5 : Value} {es es1 es5 : List (Nd × Value)} {w w2 w5 w6 : World} {acc t : Fo} {A A6 : Option Addr} {c c6 : Nat} {xs : List Int} (hxs : xs = (acc.post es.length).2)
    (hwW : W0.heap.size < w.heap.size) (ht : OneT t) (hk : Kin W0 v1 (es ++ es1) w A c xs w2) (he : es1.map Prod.fst = (acc.post es.length).1) (hst : Stp W0.heap.size v es w v1 (es ++ es1) w2)
    (hR5 : Rd W0 A1 A2 c1 c2 a s i v5 ((es ++ es1) ++ es5) w5) (he5 : es5.map Prod.fst = (t.post (es ++ es1).length).1) (hst5 : Stp W0.heap.size v1 (es ++ es1) w2 v5 ((es ++ es1) ++ es5) w5)
    (hown : w6.ownsRow (W0.heap.size + 1) 3 1 (.slice A6 (xs ++ [((es.length + acc.size + t.size - 1 : Nat) : Int)]).length c6) (xs ++ [((es.length + acc.size + t.size - 1 : Nat) : Int)]).length ((xs ++ [((es.length + acc.size + t.size - 1 : Nat) : Int)]).map (Value.int .i64)))
    (hfr : Fr (fun g => (Value.slice A xs.length c).ownBlock = some g) (w5.alloc (.cells #[.int .i64 ((es.length + acc.size + t.size - 1 : Nat) : Int)] 3)) w6)
    (hat : ∀ g, (Value.slice A6 (xs ++ [((es.length + acc.size + t.size - 1 : Nat) : Int)]).length c6).ownBlock = some g → (Value.slice A xs.length c).ownBlock = some g ∨ (w5.alloc (.cells #[.int .i64 ((es.length + acc.size + t.size - 1 : Nat) : Int)] 3)).heap.size ≤ g)
    (hk0 : k0 ≤ i) (hi : i ≤ s.size) (hsz : (acc.app t).size ≤ i - k0) (hg : 3 * (s.size - i) + 3 ≤ g) (hgf : g ≤ f) (hRR : R = ((pars a s g (m (acc.app t)) i).map (acc.app t).app).map up) :
    GatSt W0 A1 A2 c1 c2 a s m up R f k0 v es w (.slice A6 (xs.length + 1) c6) w6 := by
  subst hxs
  have hl1 : es1.length = acc.size := by rw [← List.length_map (f := Prod.fst), he, (post_len acc es.length).1]
  have hpost := post_app acc t es.length
  have hnum := ht.num (es.length + acc.size)
  rw [hnum] at hpost
  have e2 : ((acc.app t).post es.length).2 = (acc.post es.length).2 ++ [((es.length + acc.size + t.size - 1 : Nat) : Int)] := by rw [hpost]
  have e1 : ((acc.app t).post es.length).1 = (acc.post es.length).1 ++ (t.post (es.length + acc.size)).1 := by rw [hpost]
  have hkin := hk.on hst5
  have hba : Below w5.heap.size w5 (w5.alloc (.cells #[.int .i64 ((es.length + acc.size + t.size - 1 : Nat) : Int)] 3)) := (Below.refl _ _).alloc (Nat.le_refl _) _
  have hs5 := hst.fr.size
  have hs6 := hst5.fr.size
  have hsa := hba.size
  have hw5 := hR5.lt
  have hR6 : Rd W0 A1 A2 c1 c2 a s i v5 ((es ++ es1) ++ es5) w6 := (hR5.on hba).fr hfr fun g hg => by
    have := hkin.far g hg
    exact ⟨by omega, this.2⟩
  refine ⟨acc.app t, i, g, v5, es1 ++ es5, A6, c6, (acc.post es.length).2 ++ [((es.length + acc.size + t.size - 1 : Nat) : Int)], by rw [List.length_append]; rfl, e2.symm, ⟨hown, fun b hb => ?_⟩, by rw [← List.append_assoc]; exact hR6, ?_, ?_, hk0, hi, hsz, hg, hgf, hRR⟩
  · rw [← List.append_assoc]
    rcases hat b hb with e | e
    · exact hkin.far b e
    · refine ⟨by omega, fun hB => ?_⟩
      have := (hR5.blk hB).2
      omega
  · show _ = _
    rw [List.map_append, he, he5, e1, List.length_append, hl1]
  · rw [← List.append_assoc]
    exact Stp.own (w' := w5.alloc (.cells #[.int .i64 ((es.length + acc.size + t.size - 1 : Nat) : Int)] 3)) ⟨(hst.trans hst5).fr.trans (T := fun _ => False) (Fr.of_below hba) (fun _ _ h => h.elim), (hst.trans hst5).row, (hst.trans hst5).blk⟩ hfr fun g hg => (hkin.far g hg).1
/-- A node of kids is added. -/
theorem add_kids {k1 : Nat} {v v1 : Value} {es es1 : List (Nd × Value)} {w w2 : World} {acc : Fo} {A : Option Addr} {c : Nat} {xs : List Int} (hxs : xs = (acc.post es.length).2) (q : Int) (hq : 0 ≤ q ∧ q < 256) (hR : Rd W0 A1 A2 c1 c2 a s k1 v1 (es ++ es1) w2) (hk : Kin W0 v1 (es ++ es1) w A c xs w2) (he : es1.map Prod.fst = (acc.post es.length).1) (hst : Stp W0.heap.size v es w v1 (es ++ es1) w2) (hn : es.length + acc.size ≤ 70000) :
    Calls Tryd.prog 86 #[.pointer (some ⟨W0.heap.size, 0, none⟩), .agg #[.int .u8 q, .int .i32 0, .int .u32 0, .int .u32 0, .slice A xs.length c]] w2 (ParsOut W0 A1 A2 c1 c2 a s v es w (.ok (.nd q 0 0 0 acc .nil) k1)) := by
  subst hxs
  have hl1 : es1.length = acc.size := by rw [← List.length_map (f := Prod.fst), he, (post_len acc es.length).1]
  refine (add_any hR (by rw [List.length_append, hl1]; omega) (x := ⟨q, 0, 0, 0, (acc.post es.length).2⟩) hk.own (kin_nd hq (by omega) (by omega) (by omega) (fun x hx => by have := (post_kids acc es.length).2 x hx; omega)) (fun g hg => (hk.far g hg).2)).mono ?_
  rintro e w' ⟨rfl, v', hR', hF, hv⟩
  refine ⟨by rw [List.length_append, hl1]; simp only [Fo.size]; congr 2; omega, v', es1 ++ [(⟨q, 0, 0, 0, (acc.post es.length).2⟩, .slice A (acc.post es.length).2.length c)], by rw [← List.append_assoc]; exact hR', ?_, ?_⟩
  · rw [List.map_append, he]
    rfl
  · rw [← List.append_assoc]
    exact hst.add hF hv fun g hg => (hk.far g hg).1
end
end Go.Proofs.YtimhlnndobfehaaDoor
