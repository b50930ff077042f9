/- The pieces of a text as the model decodes it; a part of it by itself; its broken bytes mended. Plain Lean. Alphabets, as the document defines them; letters, classes, words. Plain Lean. A block that is known whole, as a list of cells. -/
import Derived.Lib.DecodeN
import Derived.Lib.RuneCount
import Derived.Test.YtimhlnndobfehaaDoorMc01
namespace Go.Proofs.YtimhlnndobfehaaDoor
open Go.Lib
set_option linter.unusedVariables false

structure Pc where
  rune : Int
  at_ : Nat
  len : Nat
  broken : Bool
  deriving DecidableEq

def pcAt (s : ByteArray) (i : Nat) : Pc := ⟨((Utf8.decode s i).1 : Int), i, (Utf8.decode s i).2, decide ((Utf8.decode s i).1 = 65533 ∧ (Utf8.decode s i).2 = 1)⟩
def pcsF (s : ByteArray) : Nat → Nat → List Pc
  | 0, _ => []
  | f + 1, i => if i < s.size then pcAt s i :: pcsF s f (i + (Utf8.decode s i).2) else []
/-- The pieces from a place on. -/
def pcsFrom (s : ByteArray) (i : Nat) : List Pc := pcsF s (s.size - i) i
def pcs (s : ByteArray) : List Pc := pcsFrom s 0

theorem decodeN_width (n b0 b1 b2 b3 : Nat) (hn : 1 ≤ n) : 1 ≤ (decodeN n b0 b1 b2 b3).2 ∧ (decodeN n b0 b1 b2 b3).2 ≤ n ∧ (decodeN n b0 b1 b2 b3).2 ≤ 4 := by
  unfold decodeN
  repeat' split
  all_goals simp only
  all_goals omega
theorem decode_width (s : ByteArray) (i : Nat) (h : i < s.size) : 1 ≤ (Utf8.decode s i).2 ∧ i + (Utf8.decode s i).2 ≤ s.size ∧ (Utf8.decode s i).2 ≤ 4 := by
  rw [decode_at]
  have := decodeN_width (s.size - i) (s.get! i).toNat (s.get! (i + 1)).toNat (s.get! (i + 2)).toNat (s.get! (i + 3)).toNat (by omega)
  omega
theorem pcsF_fuel (s : ByteArray) : ∀ (f g i : Nat), s.size - i ≤ f → s.size - i ≤ g → pcsF s f i = pcsF s g i
  | 0, 0, i, _, _ => rfl
  | 0, g + 1, i, h, _ => by unfold pcsF; rw [if_neg (by omega)]
  | f + 1, 0, i, _, h => by unfold pcsF; rw [if_neg (by omega)]
  | f + 1, g + 1, i, h, k => by
    unfold pcsF
    by_cases hi : i < s.size
    · have := decode_width s i hi
      rw [if_pos hi, if_pos hi, pcsF_fuel s f g _ (by omega) (by omega)]
    · rw [if_neg hi, if_neg hi]
theorem pcsFrom_end (s : ByteArray) (i : Nat) (h : s.size ≤ i) : pcsFrom s i = [] := by
  unfold pcsFrom
  rw [show s.size - i = 0 by omega]
  rfl
theorem pcsFrom_step (s : ByteArray) (i : Nat) (h : i < s.size) : pcsFrom s i = pcAt s i :: pcsFrom s (i + (Utf8.decode s i).2) := by
  unfold pcsFrom
  obtain ⟨m, hm⟩ : ∃ m, s.size - i = m + 1 := ⟨s.size - i - 1, by omega⟩
  have := decode_width s i h
  rw [hm]
  conv => lhs; unfold pcsF
  rw [if_pos h, pcsF_fuel s m (s.size - (i + (Utf8.decode s i).2)) _ (by omega) (by omega)]
theorem pcsFrom_count (s : ByteArray) : ∀ (f i : Nat), s.size - i ≤ f → runeCountFrom s f i = (pcsFrom s i).length
  | 0, i, h => by rw [pcsFrom_end s i (by omega)]; rfl
  | f + 1, i, h => by
    unfold runeCountFrom
    by_cases hi : i < s.size
    · have := decode_width s i hi
      rw [if_pos hi, pcsFrom_step s i hi, pcsFrom_count s f _ (by omega), List.length_cons]
      omega
    · rw [if_neg hi, pcsFrom_end s i (by omega)]
      rfl
theorem runeCount_eq (s : ByteArray) : runeCount s = (pcs s).length := pcsFrom_count s s.size 0 (by omega)
theorem pcs_le (s : ByteArray) : (pcs s).length ≤ s.size := by rw [← runeCount_eq]; exact runeCount_le s
theorem pcsFrom_le (s : ByteArray) (i : Nat) : (pcsFrom s i).length ≤ s.size - i := by
  rw [← pcsFrom_count s (s.size - i) i (Nat.le_refl _)]
  exact runeCountFrom_le s _ _

/-- Less of the text behind: the same piece, while it is whole. -/
theorem decodeN_cut (n m b0 b1 b2 b3 c1 c2 c3 : Nat) (hmn : m ≤ n) (hm : 1 ≤ m) (h1 : 1 < m → c1 = b1) (h2 : 2 < m → c2 = b2) (h3 : 3 < m → c3 = b3) (hw : (decodeN n b0 b1 b2 b3).2 ≤ m) : decodeN m b0 c1 c2 c3 = decodeN n b0 b1 b2 b3 := by
  by_cases m1 : 1 < m
  · have e1 := h1 m1
    subst e1
    by_cases m2 : 2 < m
    · have e2 := h2 m2
      subst e2
      by_cases m3 : 3 < m
      · have e3 := h3 m3
        subst e3
        have n1 : 1 < n := by omega
        have n2 : 2 < n := by omega
        have n3 : 3 < n := by omega
        unfold decodeN
        simp only [m1, m2, m3, n1, n2, n3, true_and]
      · have hm3 : m = 3 := by omega
        subst hm3
        revert hw
        unfold decodeN
        repeat' split
        all_goals (intro hw; simp only at hw; first | (exfalso; omega) | (refine Prod.ext ?_ ?_ <;> simp only <;> omega))
    · have hm2 : m = 2 := by omega
      subst hm2
      revert hw
      unfold decodeN
      repeat' split
      all_goals (intro hw; simp only at hw; first | (exfalso; omega) | (refine Prod.ext ?_ ?_ <;> simp only <;> omega))
  · have hm1 : m = 1 := by omega
    subst hm1
    revert hw
    unfold decodeN
    repeat' split
    all_goals (intro hw; simp only at hw; first | (exfalso; omega) | (refine Prod.ext ?_ ?_ <;> simp only <;> omega))
theorem get_extract (s : ByteArray) (a b i : Nat) (hb : b ≤ s.size) (h : a + i < b) : (s.extract a b).get! i = s.get! (a + i) := by
  have h1 : i < (s.extract a b).size := by rw [ByteArray.size_extract]; omega
  have h2 : a + i < s.size := by omega
  have e1 : (s.extract a b).get! i = (s.extract a b)[i]'h1 := by
    show (s.extract a b).data[i]! = _
    rw [getElem!_pos (s.extract a b).data i h1]
    rfl
  have e2 : s.get! (a + i) = s[a + i]'h2 := by
    show s.data[a + i]! = _
    rw [getElem!_pos s.data (a + i) h2]
    rfl
  rw [e1, e2, ByteArray.getElem_extract]
theorem decode_extract (s : ByteArray) (a b i : Nat) (hb : b ≤ s.size) (hi : a + i < b) (hw : a + i + (Utf8.decode s (a + i)).2 ≤ b) : Utf8.decode (s.extract a b) i = Utf8.decode s (a + i) := by
  rw [decode_at] at hw ⊢
  rw [decode_at, ByteArray.size_extract, Nat.min_eq_left hb, get_extract s a b i hb hi]
  refine decodeN_cut _ _ _ _ _ _ _ _ _ (by omega) (by omega) (fun h => ?_) (fun h => ?_) (fun h => ?_) (by omega)
  · rw [get_extract s a b (i + 1) hb (by omega)]; rfl
  · rw [get_extract s a b (i + 2) hb (by omega)]; rfl
  · rw [get_extract s a b (i + 3) hb (by omega)]; rfl

def endOf (i : Nat) : List Pc → Nat
  | [] => i
  | p :: r => endOf (i + p.len) r
/-- The place behind k pieces. -/
def placeOf (s : ByteArray) (i k : Nat) : Nat := endOf i ((pcsFrom s i).take k)
theorem placeOf_zero (s : ByteArray) (i : Nat) : placeOf s i 0 = i := rfl
theorem placeOf_succ (s : ByteArray) (i k : Nat) (h : i < s.size) : placeOf s i (k + 1) = placeOf s (i + (Utf8.decode s i).2) k := by
  unfold placeOf
  rw [pcsFrom_step s i h]
  rfl
theorem placeOf_end (s : ByteArray) (i k : Nat) (h : s.size ≤ i) : placeOf s i k = i := by
  unfold placeOf
  rw [pcsFrom_end s i h]
  simp [endOf]
theorem placeOf_le (s : ByteArray) : ∀ (k i : Nat), i ≤ s.size → i ≤ placeOf s i k ∧ placeOf s i k ≤ s.size
  | 0, i, h => by rw [placeOf_zero]; omega
  | k + 1, i, h => by
    by_cases hi : i < s.size
    · have h1 := decode_width s i hi
      have h2 := placeOf_le s k (i + (Utf8.decode s i).2) (by omega)
      rw [placeOf_succ s i k hi]
      omega
    · rw [placeOf_end s i _ (by omega)]; omega
theorem pcsFrom_drop (s : ByteArray) : ∀ (k i : Nat), (pcsFrom s i).drop k = pcsFrom s (placeOf s i k)
  | 0, i => by rw [placeOf_zero]; rfl
  | k + 1, i => by
    by_cases hi : i < s.size
    · rw [placeOf_succ s i k hi, pcsFrom_step s i hi, List.drop_succ_cons, pcsFrom_drop s k]
    · rw [placeOf_end s i _ (by omega), pcsFrom_end s i (by omega), List.drop_nil]
/-- The piece with a number stands where its place says. -/
theorem pcs_at (s : ByteArray) (i k : Nat) (h : k < (pcsFrom s i).length) : (pcsFrom s i)[k] = pcAt s (placeOf s i k) ∧ placeOf s i k < s.size := by
  have h1 := pcsFrom_drop s k i
  rw [List.drop_eq_getElem_cons h] at h1
  by_cases hp : placeOf s i k < s.size
  · rw [pcsFrom_step s _ hp] at h1
    injection h1 with h1 _
    exact ⟨h1, hp⟩
  · have h2 := h1.trans (pcsFrom_end s _ (by omega))
    cases h2
theorem placeOf_all (s : ByteArray) : ∀ (i : Nat), i ≤ s.size → placeOf s i (pcsFrom s i).length = s.size := by
  intro i hi
  have h1 := pcsFrom_drop s (pcsFrom s i).length i
  have h2 := placeOf_le s (pcsFrom s i).length i hi
  rw [List.drop_length] at h1
  by_cases hp : placeOf s i (pcsFrom s i).length < s.size
  · rw [pcsFrom_step s _ hp] at h1
    cases h1
  · omega
theorem placeOf_add (s : ByteArray) : ∀ (k i j : Nat), placeOf s (placeOf s i k) j = placeOf s i (k + j)
  | 0, i, j => by rw [placeOf_zero, Nat.zero_add]
  | k + 1, i, j => by
    by_cases hi : i < s.size
    · rw [placeOf_succ s i k hi, placeOf_add s k, show k + 1 + j = (k + j) + 1 by omega, placeOf_succ s i _ hi]
    · rw [placeOf_end s i (k + 1) (by omega), placeOf_end s i j (by omega), placeOf_end s i _ (by omega)]

/-- Runes as bytes. -/
def enc (l : List Pc) : ByteArray := l.foldl (fun t p => t ++ Utf8.encode p.rune) ByteArray.empty
theorem foldl_enc (l : List Pc) : ∀ t : ByteArray, l.foldl (fun t p => t ++ Utf8.encode p.rune) t = t ++ enc l := by
  induction l with
  | nil => intro t; simp [enc]
  | cons p l ih =>
    intro t
    unfold enc
    rw [List.foldl_cons, List.foldl_cons, ih, ih (ByteArray.empty ++ Utf8.encode p.rune), ← ByteArray.append_assoc, ByteArray.empty_append]
theorem enc_cons (p : Pc) (l : List Pc) : enc (p :: l) = Utf8.encode p.rune ++ enc l := by
  have := foldl_enc l (ByteArray.empty ++ Utf8.encode p.rune)
  rw [ByteArray.empty_append] at this
  unfold enc
  rw [List.foldl_cons, ByteArray.empty_append]
  exact this
theorem enc_append (l m : List Pc) : enc (l ++ m) = enc l ++ enc m := by
  unfold enc
  rw [List.foldl_append, foldl_enc]
  rfl
theorem enc_congr {l m : List Pc} (h : l.map (·.rune) = m.map (·.rune)) : enc l = enc m := by
  have key : ∀ l : List Pc, enc l = (l.map (·.rune)).foldl (fun t r => t ++ Utf8.encode r) ByteArray.empty := fun l => by
    unfold enc
    rw [List.foldl_map]
  rw [key, key, h]

/-- The pieces of a part from one place of a piece to another one. -/
theorem pcs_part (s : ByteArray) : ∀ (k a i : Nat), a + i ≤ s.size → (pcsFrom (s.extract a (placeOf s (a + i) k)) i).map (fun p => (p.rune, p.len)) = ((pcsFrom s (a + i)).take k).map (fun p => (p.rune, p.len))
  | 0, a, i, h => by
    rw [placeOf_zero, pcsFrom_end _ i (by rw [ByteArray.size_extract]; omega), List.take_zero]
  | k + 1, a, i, h => by
    by_cases hi : a + i < s.size
    · have h1 := decode_width s (a + i) hi
      have h2 := placeOf_le s k (a + i + (Utf8.decode s (a + i)).2) (by omega)
      rw [placeOf_succ s _ k hi] 
      have hd := decode_extract s a (placeOf s (a + i + (Utf8.decode s (a + i)).2) k) i h2.2 (by omega) (by omega)
      rw [pcsFrom_step (s.extract _ _) i (by rw [ByteArray.size_extract]; omega), pcsFrom_step s (a + i) hi, List.take_succ_cons, List.map_cons, List.map_cons, hd]
      have ih := pcs_part s k a (i + (Utf8.decode s (a + i)).2) (by omega)
      rw [← Nat.add_assoc] at ih
      rw [ih]
      simp only [pcAt, hd]
    · rw [placeOf_end s _ _ (by omega), pcsFrom_end s (a + i) (by omega), pcsFrom_end _ i (by rw [ByteArray.size_extract]; omega), List.take_nil]
/-- A part's text, mended: its pieces'. -/
theorem enc_part (s : ByteArray) (k m : Nat) : enc (pcs (s.extract (placeOf s 0 k) (placeOf s 0 (k + m)))) = enc (((pcs s).drop k).take m) := by
  refine enc_congr ?_
  have h1 := pcs_part s m (placeOf s 0 k) 0 (by have := placeOf_le s k 0 (by omega); omega)
  rw [Nat.add_zero, placeOf_add, ← pcsFrom_drop] at h1
  have h2 := congrArg (List.map Prod.fst) h1
  rw [List.map_map, List.map_map] at h2
  exact h2
end Go.Proofs.YtimhlnndobfehaaDoor
namespace Go.Proofs.YtimhlnndobfehaaDoor
open Go.Lib
set_option linter.unusedVariables false

structure Lt where
  rune : Int
  plus : Nat
  minus : Nat
  deriving DecidableEq
structure Al where
  feats : List ByteArray
  lets : List Lt

def lower (b : UInt8) : Bool := 97 ≤ b && b ≤ 122
def nameOk (s : ByteArray) : Bool := decide (1 ≤ s.size) && decide (s.size ≤ 32) && s.data.toList.all lower
def letterOk (r : Int) : Bool := decide ((97 ≤ r ∧ r ≤ 122) ∨ (65 ≤ r ∧ r ≤ 90) ∨ (161 ≤ r ∧ r ≤ 1114111 ∧ r ≠ 65533 ∧ (r < 55296 ∨ 57343 < r)))
/-- May a class of n features be? -/
def classOk (n p m : Nat) : Bool := decide ((p ||| m) < 2 ^ n) && decide (p &&& m = 0)
def namesOk : List (List UInt8) → List ByteArray → Bool
  | _, [] => true
  | seen, f :: r => nameOk f && !decide (f.data.toList ∈ seen) && namesOk (f.data.toList :: seen) r
def letsOk (n : Nat) : List Int → List Lt → Bool
  | _, [] => true
  | seen, l :: r => letterOk l.rune && !decide (l.rune ∈ seen) && classOk n l.plus l.minus && letsOk n (l.rune :: seen) r
/-- May an alphabet be? -/
def alOk (a : Al) : Bool := decide (a.feats.length ≤ 24) && decide (1 ≤ a.lets.length) && decide (a.lets.length ≤ 128) && namesOk [] a.feats && letsOk a.feats.length [] a.lets
def alE (a : Al) : Int := if alOk a then 0 else 7

/-- A rune's number; none: it is no letter. -/
def numF : List Lt → Nat → Int → Option Nat
  | [], _, _ => none
  | l :: r, i, x => if l.rune = x then some i else numF r (i + 1) x
def num (a : Al) (x : Int) : Option Nat := numF a.lets 0 x
def isLet (a : Al) (x : Int) : Bool := (num a x).isSome

/-- A text's letters, of at most so many, and the error. -/
def readP (isL : Int → Bool) (most : Nat) : List Pc → List Int → List Int × Int
  | [], acc => (acc, 0)
  | p :: r, acc => if p.broken then ([], 6) else if !isL p.rune then ([], 5) else if acc.length = most then ([], 4) else readP isL most r (acc ++ [p.rune])
def readS (a : Al) (w : ByteArray) : List Int × Int := readP (isLet a) 64 (pcs w) []
def lettersS (a : Al) (w : ByteArray) : List Int × Int := if alOk a then readS a w else ([], 7)
end Go.Proofs.YtimhlnndobfehaaDoor
namespace Go.Proofs.YtimhlnndobfehaaDoor
open Go.RowKit
set_option linter.unusedVariables false

def Row (w : World) (g : Nat) (t : TypeId) (l : List Value) : Prop := w.heap[g]? = some (.cells l.toArray t (0, 0))

section
variable {w w' : World} {g : Nat} {t : TypeId} {l : List Value}
theorem Row.lt (h : Row w g t l) : g < w.heap.size := (Array.getElem?_eq_some_iff.1 h).1
theorem Row.cel (h : Row w g t l) {i : Nat} {v : Value} (hi : l[i]? = some v) : Cel w g i v := by
  unfold Row at h
  constructor
  · simp [World.cell?, h, hi]
  · simp [World.frozen?, h]
theorem Row.new (w : World) (t : TypeId) (l : List Value) : Row (w.alloc (.cells l.toArray t)) w.heap.size t l := heap_alloc_new w _
theorem Row.set_ (h : Row w g t l) (i : Nat) (u : Value) : Row (w.setCell ⟨g, i, none⟩ u) g t (l.set i u) := by
  unfold Row at h ⊢
  simp [World.setCell, Array.getElem?_modify, h]
theorem Row.far (h : Row w g t l) {p : Addr} (hp : g ≠ p.block) (u : Value) : Row (w.setCell p u) g t l := (Below.heap_setCell w p u g hp).trans h
theorem Row.alloc (h : Row w g t l) (o : Obj) : Row (w.alloc o) g t l := (Below.heap_alloc w o g h.lt).trans h
theorem Row.drewN (h : Row w g t l) (n : Nat) : Row (w.drewN n) g t l := h
theorem Row.drew (h : Row w g t l) : Row w.drew g t l := h
theorem Row.below {B : Nat} (h : Row w g t l) (hb : Below B w w') (hg : g < B) : Row w' g t l := (hb.block g hg).trans h
theorem Row.grown {row : Option Nat} (h : Row w g t l) (hb : w.grownBy w' row) (hg : some g ≠ row) : Row w' g t l := (hb.block g h.lt hg).trans h
theorem Row.of_own {base n c : Nat} {xs : List Value} (h : w.ownsRow base t 1 (.slice (some ⟨g, 0, none⟩) n n) n xs) : Row w g t xs := by
  rcases h.2 with ⟨hv, _⟩ | ⟨g', cap, cur, hv, _, hh, _, _, hs, ht⟩
  · cases hv
  · injection hv with h1 h2 h3
    injection h1 with h1
    injection h1 with h1
    subst h1 h3
    have : cur = xs.toArray := by
      rw [← ht, List.take_of_length_le (by rw [Array.length_toList]; omega)]
    unfold Row
    rw [hh, this]
theorem Row.slo {α : Type} {V : Rep α} {xs : List α} {lo hi : Nat} (h : Row w g t l) (o : Nat) (hl : l.length = o + xs.length) (h1 : lo ≤ g) (h2 : g < hi) (hv : ∀ (i : Nat) (x : α) (v : Value), xs[i]? = some x → l[o + i]? = some v → V w lo hi [v] x) :
    Sl 1 V w lo hi (some ⟨g, o, none⟩) xs := fun _ => by
  refine ⟨g, o, rfl, h1, h2, fun i x hx => ?_⟩
  have hi' : o + i < l.length := by rw [hl]; have := (List.getElem?_eq_some_iff.1 hx).1; omega
  refine ⟨[l[o + i]], rfl, fun j v hj => ?_, hv i x _ hx (List.getElem?_eq_getElem hi')⟩
  match j, hj with
  | 0, hj =>
    simp only [List.getElem?_cons_zero, Option.some.injEq] at hj
    subst hj
    have := h.cel (List.getElem?_eq_getElem hi')
    simpa using this
theorem Row.bools_tail {xs : List Bool} (h : Row w g t (xs.map Value.bool)) (hn : 1 ≤ xs.length) : Sl 1 vBool w g (g + 1) (some ⟨g, 1, none⟩) xs.tail := by
  refine h.slo 1 (by rw [List.length_map, List.length_tail]; omega) (Nat.le_refl _) (by omega) (fun i x v hx hv => ?_)
  rw [List.getElem?_tail, Nat.add_comm] at hx
  rw [List.getElem?_map, hx] at hv
  simp only [Option.map_some, Option.some.injEq] at hv
  subst hv
  rfl
/-- A row's cells as a slice's data. -/
theorem Row.sl {α : Type} {V : Rep α} {xs : List α} {lo hi : Nat} (h : Row w g t l) (hl : l.length = xs.length) (h1 : lo ≤ g) (h2 : g < hi) (hv : ∀ (i : Nat) (x : α) (v : Value), xs[i]? = some x → l[i]? = some v → V w lo hi [v] x) :
    Sl 1 V w lo hi (some ⟨g, 0, none⟩) xs := fun _ => by
  refine ⟨g, 0, rfl, h1, h2, fun i x hx => ?_⟩
  have hi' : i < l.length := by rw [hl]; exact (List.getElem?_eq_some_iff.1 hx).1
  refine ⟨[l[i]], rfl, fun j v hj => ?_, hv i x _ hx (List.getElem?_eq_getElem hi')⟩
  match j, hj with
  | 0, hj =>
    simp only [List.getElem?_cons_zero, Option.some.injEq] at hj
    subst hj
    have := h.cel (List.getElem?_eq_getElem hi')
    simpa using this
end

/-- The n-th integer of a slice of integers. -/
theorem ints_at {k : IntKind} {w : World} {lo hi i : Nat} {A : Option Addr} {l : List Int} (h : Sl 1 (vInt k) w lo hi A l) (hi' : i < l.length) :
    ∃ b off, A = some ⟨b, off, none⟩ ∧ lo ≤ b ∧ b < hi ∧ Cel w b (off + i) (.int k l[i]) ∧ kin k l[i] := by
  obtain ⟨b, off, cs, e, h1, h2, _, h4, h5, h6⟩ := h.at_ hi'
  subst h5
  have := h4 0 _ rfl
  simp only [Nat.mul_one, Nat.add_zero] at this
  exact ⟨b, off, e, h1, h2, this, h6⟩
theorem bools_at {w : World} {lo hi i : Nat} {A : Option Addr} {l : List Bool} (h : Sl 1 vBool w lo hi A l) (hi' : i < l.length) :
    ∃ b off, A = some ⟨b, off, none⟩ ∧ lo ≤ b ∧ b < hi ∧ Cel w b (off + i) (.bool l[i]) := by
  obtain ⟨b, off, cs, e, h1, h2, _, h4, h5⟩ := h.at_ hi'
  unfold vBool at h5
  subst h5
  have := h4 0 _ rfl
  simp only [Nat.mul_one, Nat.add_zero] at this
  exact ⟨b, off, e, h1, h2, this⟩
theorem strs_at {w : World} {lo hi i : Nat} {A : Option Addr} {l : List ByteArray} (h : Sl 1 vStr w lo hi A l) (hi' : i < l.length) :
    ∃ b off, A = some ⟨b, off, none⟩ ∧ lo ≤ b ∧ b < hi ∧ Cel w b (off + i) (.string l[i]) ∧ l[i].size ≤ maxLen := by
  obtain ⟨b, off, cs, e, h1, h2, _, h4, h5, h6⟩ := h.at_ hi'
  subst h5
  have := h4 0 _ rfl
  simp only [Nat.mul_one, Nat.add_zero] at this
  exact ⟨b, off, e, h1, h2, this, h6⟩
theorem kin_i64 {n : Int} (h : kin .i64 n) : -9223372036854775808 ≤ n ∧ n ≤ 9223372036854775807 := by simpa [kin, Lit.wf, IntKind.min, IntKind.max, IntKind.signed, IntKind.bits] using h
theorem kin_i32 {n : Int} (h : kin .i32 n) : -2147483648 ≤ n ∧ n ≤ 2147483647 := by simpa [kin, Lit.wf, IntKind.min, IntKind.max, IntKind.signed, IntKind.bits] using h
theorem kin_u32 {n : Int} (h : kin .u32 n) : 0 ≤ n ∧ n ≤ 4294967295 := by simpa [kin, Lit.wf, IntKind.min, IntKind.max, IntKind.signed, IntKind.bits] using h
theorem kin_u8 {n : Int} (h : kin .u8 n) : 0 ≤ n ∧ n ≤ 255 := by simpa [kin, Lit.wf, IntKind.min, IntKind.max, IntKind.signed, IntKind.bits] using h
theorem kin_mk64 {n : Int} (h : -9223372036854775808 ≤ n ∧ n ≤ 9223372036854775807) : kin .i64 n := by simpa [kin, Lit.wf, IntKind.min, IntKind.max, IntKind.signed, IntKind.bits] using h
end Go.Proofs.YtimhlnndobfehaaDoor
