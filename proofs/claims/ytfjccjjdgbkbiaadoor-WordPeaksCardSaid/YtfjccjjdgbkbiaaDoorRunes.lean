/- The pieces of a text as the model decodes it; a part of it by itself; its broken bytes mended. Plain Lean. -/
import Derived.Lib.DecodeN
import Derived.Lib.RuneCount
namespace Go.Proofs.YtfjccjjdgbkbiaaDoor
open Go.Lib
set_option linter.unusedVariables false

structure Pc where
  rune : Int
  at_ : Nat
  len : Nat
  broken : Bool
  deriving DecidableEq

def pcAt (s : ByteArray) (i : Nat) : Pc := ⟨((Utf8.decode s i).1 : Int), i, (Utf8.decode s i).2, decide ((Utf8.decode s i).1 = 65533 ∧ (Utf8.decode s i).2 = 1)⟩
def pcsF (s : ByteArray) : Nat → Nat → List Pc
  | 0, _ => []
  | f + 1, i => if i < s.size then pcAt s i :: pcsF s f (i + (Utf8.decode s i).2) else []
/-- The pieces from a place on. -/
def pcsFrom (s : ByteArray) (i : Nat) : List Pc := pcsF s (s.size - i) i
def pcs (s : ByteArray) : List Pc := pcsFrom s 0

theorem decodeN_width (n b0 b1 b2 b3 : Nat) (hn : 1 ≤ n) : 1 ≤ (decodeN n b0 b1 b2 b3).2 ∧ (decodeN n b0 b1 b2 b3).2 ≤ n ∧ (decodeN n b0 b1 b2 b3).2 ≤ 4 := by
  unfold decodeN
  repeat' split
  all_goals simp only
  all_goals omega
theorem decode_width (s : ByteArray) (i : Nat) (h : i < s.size) : 1 ≤ (Utf8.decode s i).2 ∧ i + (Utf8.decode s i).2 ≤ s.size ∧ (Utf8.decode s i).2 ≤ 4 := by
  rw [decode_at]
  have := decodeN_width (s.size - i) (s.get! i).toNat (s.get! (i + 1)).toNat (s.get! (i + 2)).toNat (s.get! (i + 3)).toNat (by omega)
  omega
theorem pcsF_fuel (s : ByteArray) : ∀ (f g i : Nat), s.size - i ≤ f → s.size - i ≤ g → pcsF s f i = pcsF s g i
  | 0, 0, i, _, _ => rfl
  | 0, g + 1, i, h, _ => by unfold pcsF; rw [if_neg (by omega)]
  | f + 1, 0, i, _, h => by unfold pcsF; rw [if_neg (by omega)]
  | f + 1, g + 1, i, h, k => by
    unfold pcsF
    by_cases hi : i < s.size
    · have := decode_width s i hi
      rw [if_pos hi, if_pos hi, pcsF_fuel s f g _ (by omega) (by omega)]
    · rw [if_neg hi, if_neg hi]
theorem pcsFrom_end (s : ByteArray) (i : Nat) (h : s.size ≤ i) : pcsFrom s i = [] := by
  unfold pcsFrom
  rw [show s.size - i = 0 by omega]
  rfl
theorem pcsFrom_step (s : ByteArray) (i : Nat) (h : i < s.size) : pcsFrom s i = pcAt s i :: pcsFrom s (i + (Utf8.decode s i).2) := by
  unfold pcsFrom
  obtain ⟨m, hm⟩ : ∃ m, s.size - i = m + 1 := ⟨s.size - i - 1, by omega⟩
  have := decode_width s i h
  rw [hm]
  conv => lhs; unfold pcsF
  rw [if_pos h, pcsF_fuel s m (s.size - (i + (Utf8.decode s i).2)) _ (by omega) (by omega)]
theorem pcsFrom_count (s : ByteArray) : ∀ (f i : Nat), s.size - i ≤ f → runeCountFrom s f i = (pcsFrom s i).length
  | 0, i, h => by rw [pcsFrom_end s i (by omega)]; rfl
  | f + 1, i, h => by
    unfold runeCountFrom
    by_cases hi : i < s.size
    · have := decode_width s i hi
      rw [if_pos hi, pcsFrom_step s i hi, pcsFrom_count s f _ (by omega), List.length_cons]
      omega
    · rw [if_neg hi, pcsFrom_end s i (by omega)]
      rfl
theorem runeCount_eq (s : ByteArray) : runeCount s = (pcs s).length := pcsFrom_count s s.size 0 (by omega)
theorem pcs_le (s : ByteArray) : (pcs s).length ≤ s.size := by rw [← runeCount_eq]; exact runeCount_le s
theorem pcsFrom_le (s : ByteArray) (i : Nat) : (pcsFrom s i).length ≤ s.size - i := by
  rw [← pcsFrom_count s (s.size - i) i (Nat.le_refl _)]
  exact runeCountFrom_le s _ _

/-- Less of the text behind: the same piece, while it is whole. -/
theorem decodeN_cut (n m b0 b1 b2 b3 c1 c2 c3 : Nat) (hmn : m ≤ n) (hm : 1 ≤ m) (h1 : 1 < m → c1 = b1) (h2 : 2 < m → c2 = b2) (h3 : 3 < m → c3 = b3) (hw : (decodeN n b0 b1 b2 b3).2 ≤ m) : decodeN m b0 c1 c2 c3 = decodeN n b0 b1 b2 b3 := by
  by_cases m1 : 1 < m
  · have e1 := h1 m1
    subst e1
    by_cases m2 : 2 < m
    · have e2 := h2 m2
      subst e2
      by_cases m3 : 3 < m
      · have e3 := h3 m3
        subst e3
        have n1 : 1 < n := by omega
        have n2 : 2 < n := by omega
        have n3 : 3 < n := by omega
        unfold decodeN
        simp only [m1, m2, m3, n1, n2, n3, true_and]
      · have hm3 : m = 3 := by omega
        subst hm3
        revert hw
        unfold decodeN
        repeat' split
        all_goals (intro hw; simp only at hw; first | (exfalso; omega) | (refine Prod.ext ?_ ?_ <;> simp only <;> omega))
    · have hm2 : m = 2 := by omega
      subst hm2
      revert hw
      unfold decodeN
      repeat' split
      all_goals (intro hw; simp only at hw; first | (exfalso; omega) | (refine Prod.ext ?_ ?_ <;> simp only <;> omega))
  · have hm1 : m = 1 := by omega
    subst hm1
    revert hw
    unfold decodeN
    repeat' split
    all_goals (intro hw; simp only at hw; first | (exfalso; omega) | (refine Prod.ext ?_ ?_ <;> simp only <;> omega))
theorem get_extract (s : ByteArray) (a b i : Nat) (hb : b ≤ s.size) (h : a + i < b) : (s.extract a b).get! i = s.get! (a + i) := by
  have h1 : i < (s.extract a b).size := by rw [ByteArray.size_extract]; omega
  have h2 : a + i < s.size := by omega
  have e1 : (s.extract a b).get! i = (s.extract a b)[i]'h1 := by
    show (s.extract a b).data[i]! = _
    rw [getElem!_pos (s.extract a b).data i h1]
    rfl
  have e2 : s.get! (a + i) = s[a + i]'h2 := by
    show s.data[a + i]! = _
    rw [getElem!_pos s.data (a + i) h2]
    rfl
  rw [e1, e2, ByteArray.getElem_extract]
theorem decode_extract (s : ByteArray) (a b i : Nat) (hb : b ≤ s.size) (hi : a + i < b) (hw : a + i + (Utf8.decode s (a + i)).2 ≤ b) : Utf8.decode (s.extract a b) i = Utf8.decode s (a + i) := by
  rw [decode_at] at hw ⊢
  rw [decode_at, ByteArray.size_extract, Nat.min_eq_left hb, get_extract s a b i hb hi]
  refine decodeN_cut _ _ _ _ _ _ _ _ _ (by omega) (by omega) (fun h => ?_) (fun h => ?_) (fun h => ?_) (by omega)
  · rw [get_extract s a b (i + 1) hb (by omega)]; rfl
  · rw [get_extract s a b (i + 2) hb (by omega)]; rfl
  · rw [get_extract s a b (i + 3) hb (by omega)]; rfl

def endOf (i : Nat) : List Pc → Nat
  | [] => i
  | p :: r => endOf (i + p.len) r
/-- The place behind k pieces. -/
def placeOf (s : ByteArray) (i k : Nat) : Nat := endOf i ((pcsFrom s i).take k)
theorem placeOf_zero (s : ByteArray) (i : Nat) : placeOf s i 0 = i := rfl
theorem placeOf_succ (s : ByteArray) (i k : Nat) (h : i < s.size) : placeOf s i (k + 1) = placeOf s (i + (Utf8.decode s i).2) k := by
  unfold placeOf
  rw [pcsFrom_step s i h]
  rfl
theorem placeOf_end (s : ByteArray) (i k : Nat) (h : s.size ≤ i) : placeOf s i k = i := by
  unfold placeOf
  rw [pcsFrom_end s i h]
  simp [endOf]
theorem placeOf_le (s : ByteArray) : ∀ (k i : Nat), i ≤ s.size → i ≤ placeOf s i k ∧ placeOf s i k ≤ s.size
  | 0, i, h => by rw [placeOf_zero]; omega
  | k + 1, i, h => by
    by_cases hi : i < s.size
    · have h1 := decode_width s i hi
      have h2 := placeOf_le s k (i + (Utf8.decode s i).2) (by omega)
      rw [placeOf_succ s i k hi]
      omega
    · rw [placeOf_end s i _ (by omega)]; omega
theorem pcsFrom_drop (s : ByteArray) : ∀ (k i : Nat), (pcsFrom s i).drop k = pcsFrom s (placeOf s i k)
  | 0, i => by rw [placeOf_zero]; rfl
  | k + 1, i => by
    by_cases hi : i < s.size
    · rw [placeOf_succ s i k hi, pcsFrom_step s i hi, List.drop_succ_cons, pcsFrom_drop s k]
    · rw [placeOf_end s i _ (by omega), pcsFrom_end s i (by omega), List.drop_nil]
/-- The piece with a number stands where its place says. -/
theorem pcs_at (s : ByteArray) (i k : Nat) (h : k < (pcsFrom s i).length) : (pcsFrom s i)[k] = pcAt s (placeOf s i k) ∧ placeOf s i k < s.size := by
  have h1 := pcsFrom_drop s k i
  rw [List.drop_eq_getElem_cons h] at h1
  by_cases hp : placeOf s i k < s.size
  · rw [pcsFrom_step s _ hp] at h1
    injection h1 with h1 _
    exact ⟨h1, hp⟩
  · have h2 := h1.trans (pcsFrom_end s _ (by omega))
    cases h2
theorem placeOf_all (s : ByteArray) : ∀ (i : Nat), i ≤ s.size → placeOf s i (pcsFrom s i).length = s.size := by
  intro i hi
  have h1 := pcsFrom_drop s (pcsFrom s i).length i
  have h2 := placeOf_le s (pcsFrom s i).length i hi
  rw [List.drop_length] at h1
  by_cases hp : placeOf s i (pcsFrom s i).length < s.size
  · rw [pcsFrom_step s _ hp] at h1
    cases h1
  · omega
theorem placeOf_add (s : ByteArray) : ∀ (k i j : Nat), placeOf s (placeOf s i k) j = placeOf s i (k + j)
  | 0, i, j => by rw [placeOf_zero, Nat.zero_add]
  | k + 1, i, j => by
    by_cases hi : i < s.size
    · rw [placeOf_succ s i k hi, placeOf_add s k, show k + 1 + j = (k + j) + 1 by omega, placeOf_succ s i _ hi]
    · rw [placeOf_end s i (k + 1) (by omega), placeOf_end s i j (by omega), placeOf_end s i _ (by omega)]

/-- Runes as bytes. -/
def enc (l : List Pc) : ByteArray := l.foldl (fun t p => t ++ Utf8.encode p.rune) ByteArray.empty
theorem foldl_enc (l : List Pc) : ∀ t : ByteArray, l.foldl (fun t p => t ++ Utf8.encode p.rune) t = t ++ enc l := by
  induction l with
  | nil => intro t; simp [enc]
  | cons p l ih =>
    intro t
    unfold enc
    rw [List.foldl_cons, List.foldl_cons, ih, ih (ByteArray.empty ++ Utf8.encode p.rune), ← ByteArray.append_assoc, ByteArray.empty_append]
theorem enc_cons (p : Pc) (l : List Pc) : enc (p :: l) = Utf8.encode p.rune ++ enc l := by
  have := foldl_enc l (ByteArray.empty ++ Utf8.encode p.rune)
  rw [ByteArray.empty_append] at this
  unfold enc
  rw [List.foldl_cons, ByteArray.empty_append]
  exact this
theorem enc_append (l m : List Pc) : enc (l ++ m) = enc l ++ enc m := by
  unfold enc
  rw [List.foldl_append, foldl_enc]
  rfl
theorem enc_congr {l m : List Pc} (h : l.map (·.rune) = m.map (·.rune)) : enc l = enc m := by
  have key : ∀ l : List Pc, enc l = (l.map (·.rune)).foldl (fun t r => t ++ Utf8.encode r) ByteArray.empty := fun l => by
    unfold enc
    rw [List.foldl_map]
  rw [key, key, h]

/-- The pieces of a part from one place of a piece to another one. -/
theorem pcs_part (s : ByteArray) : ∀ (k a i : Nat), a + i ≤ s.size → (pcsFrom (s.extract a (placeOf s (a + i) k)) i).map (fun p => (p.rune, p.len)) = ((pcsFrom s (a + i)).take k).map (fun p => (p.rune, p.len))
  | 0, a, i, h => by
    rw [placeOf_zero, pcsFrom_end _ i (by rw [ByteArray.size_extract]; omega), List.take_zero]
  | k + 1, a, i, h => by
    by_cases hi : a + i < s.size
    · have h1 := decode_width s (a + i) hi
      have h2 := placeOf_le s k (a + i + (Utf8.decode s (a + i)).2) (by omega)
      rw [placeOf_succ s _ k hi] 
      have hd := decode_extract s a (placeOf s (a + i + (Utf8.decode s (a + i)).2) k) i h2.2 (by omega) (by omega)
      rw [pcsFrom_step (s.extract _ _) i (by rw [ByteArray.size_extract]; omega), pcsFrom_step s (a + i) hi, List.take_succ_cons, List.map_cons, List.map_cons, hd]
      have ih := pcs_part s k a (i + (Utf8.decode s (a + i)).2) (by omega)
      rw [← Nat.add_assoc] at ih
      rw [ih]
      simp only [pcAt, hd]
    · rw [placeOf_end s _ _ (by omega), pcsFrom_end s (a + i) (by omega), pcsFrom_end _ i (by rw [ByteArray.size_extract]; omega), List.take_nil]
/-- A part's text, mended: its pieces'. -/
theorem enc_part (s : ByteArray) (k m : Nat) : enc (pcs (s.extract (placeOf s 0 k) (placeOf s 0 (k + m)))) = enc (((pcs s).drop k).take m) := by
  refine enc_congr ?_
  have h1 := pcs_part s m (placeOf s 0 k) 0 (by have := placeOf_le s k 0 (by omega); omega)
  rw [Nat.add_zero, placeOf_add, ← pcsFrom_drop] at h1
  have h2 := congrArg (List.map Prod.fst) h1
  rw [List.map_map, List.map_map] at h2
  exact h2
end Go.Proofs.YtfjccjjdgbkbiaaDoor
