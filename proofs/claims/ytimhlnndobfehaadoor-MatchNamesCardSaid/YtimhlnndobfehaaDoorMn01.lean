/- Stars within stars, at the foot any letter: they lie from every place to every later one. Plain Lean. The closed facts of MatchNames. Plain. -/
import Derived.Test.YtimhlnndobfehaaDoorMc07
import Derived.Test.YtimhlnndobfehaaDoorMc37
namespace Go.Proofs.YtimhlnndobfehaaDoor
set_option linter.unusedVariables false

def starNd (k : Nat) : Nd := ⟨8, 0, 0, 0, [(k : Int) + 1]⟩
def anyNd : Nd := ⟨4, 0, 0, 0, []⟩
def starsN (n : Nat) : List Nd := (List.range n).map starNd
/-- The law's deep(n + 1). -/
def deepN (n : Nat) : List Nd := starsN n ++ [anyNd]
theorem stars_len (n : Nat) : (starsN n).length = n := by unfold starsN; simp
theorem deep_len (n : Nat) : (deepN n).length = n + 1 := by unfold deepN; rw [List.length_append, stars_len]; rfl
theorem deep_star {n k : Nat} (h : k < n) : (deepN n)[k]? = some (starNd k) := by
  unfold deepN
  rw [List.getElem?_append_left (by rw [stars_len]; exact h)]
  unfold starsN
  rw [List.getElem?_map, List.getElem?_range h]
  rfl
theorem deep_any (n : Nat) : (deepN n)[n]? = some anyNd := by
  unfold deepN
  rw [List.getElem?_append_right (by rw [stars_len]; omega), stars_len, Nat.sub_self]
  rfl
theorem deep_kids (n : Nat) : Kids (deepN n) := fun k x hx c hc => by
  have hk := (List.getElem?_eq_some_iff.1 hx).1
  rw [deep_len] at hk ⊢
  by_cases h : k < n
  · rw [deep_star h] at hx
    injection hx with hx
    subst hx
    have : c = (k : Int) + 1 := by simpa [starNd] using hc
    omega
  · obtain rfl : k = n := by omega
    rw [deep_any] at hx
    injection hx with hx
    subst hx
    simp [anyNd] at hc
theorem deep_foot {n : Nat} {L : List Lt} {i : Nat} (h : i < L.length) : Lies (deepN n) L n i (i + 1) := by
  rw [lies_iff (deep_kids n) (deep_any n)]
  unfold Body
  rw [if_neg (by decide), if_neg (by decide), if_neg (by decide), if_neg (by decide), if_neg (by decide), if_neg (by decide)]
  exact ⟨rfl, L[i], List.getElem?_eq_getElem h, by unfold takesB; rw [if_neg (by decide), if_neg (by decide)]; exact decide_eq_true rfl⟩
theorem deep_step {n k : Nat} {L : List Lt} (hk : k < n) {i j : Nat} (h : Star (Lies (deepN n) L (k + 1)) i j) : Lies (deepN n) L k i j := by
  rw [lies_iff (deep_kids n) (deep_star hk)]
  unfold Body
  have hk8 : (starNd k).kind = 8 := rfl
  rw [hk8, if_neg (by decide), if_neg (by decide), if_neg (by decide), if_neg (by decide), if_neg (by decide), if_pos rfl]
  refine .inr ⟨(k : Int) + 1, rfl, ?_⟩
  have e : ((k : Int) + 1).toNat = k + 1 := by omega
  rw [e]
  exact h
theorem deep_all {n : Nat} {L : List Lt} : ∀ (d k : Nat), k + d + 1 = n → ∀ i j, i ≤ j → j ≤ L.length → Lies (deepN n) L k i j
  | 0, k, h, i, j, hij, hj => by
    refine deep_step (by omega) ?_
    obtain ⟨q, rfl⟩ : ∃ q, j = i + q := ⟨j - i, by omega⟩
    induction q with
    | zero => exact .refl _
    | succ q ih =>
      have h1 := ih (by omega) (by omega)
      have h2 : Lies (deepN n) L (k + 1) (i + q) (i + q + 1) := by
        obtain rfl : n = k + 1 := by omega
        exact deep_foot (by omega)
      exact h1.tail h2
  | d + 1, k, h, i, j, hij, hj => by
    refine deep_step (by omega) ?_
    exact (Star.refl i).tail (deep_all d (k + 1) (by omega) i j hij hj)
/-- All of a word. -/
theorem deep_whole {n : Nat} {L : List Lt} (hn : 0 < n) : L.length ∈ endsL (deepN n) L 0 0 := (mem_ends (Nat.zero_le _)).2 (deep_all (n - 1) 0 (by omega) 0 L.length (Nat.zero_le _) (Nat.le_refl _))
/-- Where it ends, begun at a place: at every place from there on. -/
theorem deep_ends {n : Nat} {L : List Lt} (hn : 0 < n) {i : Nat} (hi : i ≤ L.length) : endsL (deepN n) L 0 i = (List.range (L.length + 1)).filter fun j => decide (i ≤ j) := by
  refine rising_eq (ends_sorted _ _ _ _) (List.Pairwise.filter _ List.pairwise_lt_range) fun j => ?_
  rw [mem_ends hi, List.mem_filter, List.mem_range, decide_eq_true_eq]
  constructor
  · exact fun h => ⟨by have := rel_max _ _ _ _ _ _ hi h; omega, rel_mono _ _ _ _ _ _ h⟩
  · exact fun ⟨h1, h2⟩ => deep_all (n - 1) 0 (by omega) i j h2 (by omega)
end Go.Proofs.YtimhlnndobfehaaDoor
namespace Go.Proofs.YtimhlnndobfehaaDoor
open Go.RowKit
set_option linter.unusedVariables false

def rowA (n : Nat) : ByteArray := ⟨(List.replicate n (97 : UInt8)).toArray⟩
set_option maxRecDepth 100000
theorem nm_e1 : (endsS sampleA (deepN 1) (rowA 64) 0).2 = 0 ∧ (endsS sampleA (deepN 1) (rowA 64) 0).1.length = 65 := ⟨by kernel_rfl, by kernel_rfl⟩
theorem nm_e2 : (endsS sampleA (deepN 1) (rowA 65) 0).2 = 4 := by kernel_rfl
theorem nm_p255 : patE sampleA (deepN 255) = 0 := by kernel_rfl
theorem nm_l64 : (lettersS sampleA (rowA 64)).2 = 0 := by kernel_rfl
theorem nm_e3 : wholeS sampleA (deepN 255) (rowA 64) = (true, 0) := by
  have hb : begE sampleA (deepN 255) (rowA 64) = 0 := by unfold begE; rw [if_neg (by rw [nm_p255]; simp)]; exact nm_l64
  unfold wholeS
  rw [if_neg (by rw [hb]; simp)]
  refine congrArg (·, (0 : Int)) (decide_eq_true ?_)
  unfold endsI
  exact (toI_mem).2 ⟨_, rfl, deep_whole (n := 255) (by omega)⟩
theorem nm_e4 : wholeS sampleA (deepN 256) (rowA 64) = (false, 40) := by kernel_rfl
theorem deep_beg {n : Nat} {L : List Lt} (hn : 0 < n) {t : Nat} (ht : t ≤ L.length) : (begL (deepN n) L t).length = t + 1 := by
  unfold begL
  rw [List.filter_eq_self.2 fun i hi => ?_, List.length_range]
  have := List.mem_range.1 hi
  exact decide_eq_true ((mem_ends (by omega)).2 (deep_all (n - 1) 0 (by omega) i t (by omega) ht))
theorem nm_w64 : (matW sampleA (rowA 64)).length = 64 := by kernel_rfl
theorem nm_b1 : begE sampleA (deepN 1) (rowA 64) = 0 := by kernel_rfl
theorem nm_e5 : (beginsS sampleA (deepN 1) (rowA 64) 64).2 = 0 ∧ (beginsS sampleA (deepN 1) (rowA 64) 64).1.length = 65 := by
  have h := begins_ok nm_b1 (i := 64) (by rw [nm_w64]; omega)
  rw [show ((64 : Nat) : Int) = 64 from rfl] at h
  rw [h]
  exact ⟨rfl, by rw [toI_len]; exact deep_beg (by omega) (by rw [nm_w64]; omega)⟩
theorem nm_e6 : (beginsS sampleA (deepN 1) (rowA 64) 65).2 = 2 := by kernel_rfl
theorem nm_e7 : (endsS sampleA (deepN 1) ⟨#[]⟩ (-1)).2 = 2 := by kernel_rfl
theorem nm_e8 : (wholeS sampleA (deepN 1) ⟨#[97, 255]⟩).2 = 6 := by kernel_rfl
theorem nm_e9 : (wholeS sampleA (deepN 1) ⟨#[97, 120, 255]⟩).2 = 5 := by kernel_rfl
theorem nm_e10 : (wholeS ⟨[], []⟩ [] ⟨#[255]⟩).2 = 7 := by kernel_rfl
theorem nm_e11 : (betweenS sampleA (deepN 1) [] ⟨#[255]⟩ (-1) (-1)).2 = 40 := by kernel_rfl
theorem nm_e12 : (betweenS sampleA (deepN 1) (deepN 1) ⟨#[]⟩ 0 1).2 = 2 := by kernel_rfl
theorem nm_e13 : allM sampleA (deepN 1) (rowA 64) = ([(0, 64), (64, 64)], 0) := by kernel_rfl
end Go.Proofs.YtimhlnndobfehaaDoor
