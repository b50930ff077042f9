/- The bytes of runes: the model's encoding as the library's words have it. Plain Lean. The document's Check of an alphabet, walked. A class's letters: the program's Class. slices.Contains of letters, walked. word.Peaks. A class's letters: the document's Class. The document's Read, Letters, Check of a word. The document's Has and Peaks. Letters as bytes, and back. Plain Lean. -/
import Derived.Test.YtimhlnndobfehaaDoorMc03
import Derived.Lib.RuneBytes
import Derived.Test.YtimhlnndobfehaaDoorMc11
import Derived.Deep.DeepCutAuto
import Derived.Deep.CutBlock
import Derived.Test.YtimhlnndobfehaaDoorMc06
import Derived.Test.YtimhlnndobfehaaDoorMc22
import Derived.Test.YtimhlnndobfehaaDoorMc21
import Derived.Test.YtimhlnndobfehaaDoorMc12
import Derived.BigRegion
import Derived.Test.YtimhlnndobfehaaDoorMc05
namespace Go.Proofs.YtimhlnndobfehaaDoor
open Go.Lib
set_option linter.unusedVariables false

theorem u8_eq {a b : Nat} (h : a % 256 = b % 256) : UInt8.ofNat a = UInt8.ofNat b := by
  apply UInt8.toNat_inj.1
  simpa using h
theorem u8_of {a : Nat} {x : Int} (h : (a : Int) = x) : UInt8.ofNat a = x.toNat.toUInt8 := by
  subst h
  rfl
theorem ba1 {a c : UInt8} (h : a = c) : (⟨#[a]⟩ : ByteArray) = ⟨[c].toArray⟩ := by subst h; rfl
theorem ba2 {a b c d : UInt8} (h : a = c) (k : b = d) : (⟨#[a, b]⟩ : ByteArray) = ⟨[c, d].toArray⟩ := by subst h k; rfl
theorem ba3 {a b c d x y : UInt8} (h : a = c) (k : b = d) (m : x = y) : (⟨#[a, b, x]⟩ : ByteArray) = ⟨[c, d, y].toArray⟩ := by subst h k m; rfl
theorem ba4 {a b c d x y u v : UInt8} (h : a = c) (k : b = d) (m : x = y) (n : u = v) : (⟨#[a, b, x, u]⟩ : ByteArray) = ⟨[c, d, y, v].toArray⟩ := by subst h k m n; rfl
theorem encode_eq (r : Int) : Utf8.encode r = ⟨(encodeRune r).toArray⟩ := by
  unfold encodeRune
  by_cases hv : (0 ≤ r ∧ r < 55296) ∨ (57344 ≤ r ∧ r ≤ 1114111)
  · have e : Utf8.valid r = true := by unfold Utf8.valid; simp; omega
    unfold Utf8.encode
    simp only [e, if_true]
    obtain ⟨n, rfl⟩ : ∃ n : Nat, r = n := ⟨r.toNat, by omega⟩
    simp only [Int.toNat_natCast]
    by_cases h1 : n < 128
    · rw [if_pos h1, encodeRuneZ_one (by omega) (by omega)]
      exact ba1 (u8_of (by omega))
    · by_cases h2 : n < 2048
      · rw [if_neg h1, if_pos h2, encodeRuneZ_two (by omega) (by omega)]
        exact ba2 (u8_of (by omega)) (u8_of (by omega))
      · by_cases h3 : n < 65536
        · rw [if_neg h1, if_neg h2, if_pos h3, encodeRuneZ_three (by omega)]
          exact ba3 (u8_of (by omega)) (u8_of (by omega)) (u8_of (by omega))
        · rw [if_neg h1, if_neg h2, if_neg h3, encodeRuneZ_four (by omega) (by omega)]
          exact ba4 (u8_of (by omega)) (u8_of (by omega)) (u8_of (by omega)) (u8_of (by omega))
  · have e : Utf8.valid r = false := by unfold Utf8.valid; simp; omega
    unfold Utf8.encode
    simp only [e, Bool.false_eq_true, if_false]
    rw [encodeRuneZ_bad (by omega)]
    rfl
theorem encode_list (r : Int) : (Utf8.encode r).data.toList = encodeRune r := by rw [encode_eq]
/-- What runs of runes are as bytes. -/
def encB (l : List Int) : List UInt8 := l.flatMap encodeRune
theorem enc_list (l : List Pc) : (enc l).data.toList = encB (l.map (·.rune)) := by
  induction l with
  | nil => rfl
  | cons p l ih =>
    rw [enc_cons, ByteArray.data_append, Array.toList_append, ih, encode_list]
    rfl
theorem enc_size (l : List Pc) : (enc l).size ≤ 4 * l.length := by
  induction l with
  | nil => simp [enc]
  | cons p l ih =>
    have h := (encodeRuneZ_length p.rune).2
    rw [enc_cons, ByteArray.size_append, List.length_cons, encode_eq]
    have : (⟨(encodeRune p.rune).toArray⟩ : ByteArray).size = (encodeRuneZ p.rune).length := by
      show (encodeRune p.rune).toArray.size = _
      simp [encodeRune]
    omega
theorem ext_list (s : ByteArray) (a b : Nat) : (s.extract a b).data.toList = (s.data.toList.take b).drop a := by
  simp [ByteArray.data_extract, Array.toList_extract, List.extract_eq_take_drop, List.drop_take]
end Go.Proofs.YtimhlnndobfehaaDoor
namespace Go.Proofs.YtimhlnndobfehaaDoor
open Go.RowKit
set_option linter.unusedVariables false

def seenF (l : List ByteArray) (k : Nat) : List (List UInt8) := ((l.take k).map fun f => f.data.toList).reverse
def seenL (l : List Lt) (k : Nat) : List Int := ((l.take k).map fun f => f.rune).reverse
theorem seenF_succ (l : List ByteArray) (k : Nat) (h : k < l.length) : seenF l (k + 1) = l[k].data.toList :: seenF l k := by
  unfold seenF
  rw [List.take_succ_eq_append_getElem h, List.map_append, List.reverse_append]
  rfl
theorem seenL_succ (l : List Lt) (k : Nat) (h : k < l.length) : seenL l (k + 1) = l[k].rune :: seenL l k := by
  unfold seenL
  rw [List.take_succ_eq_append_getElem h, List.map_append, List.reverse_append]
  rfl
theorem mem_seenF_succ (l : List ByteArray) (k : Nat) (h : k < l.length) (x : List UInt8) : decide (x ∈ seenF l (k + 1)) = (decide (x = l[k].data.toList) || decide (x ∈ seenF l k)) := by
  rw [seenF_succ l k h, Bool.eq_iff_iff]
  simp
theorem mem_seenL_succ (l : List Lt) (k : Nat) (h : k < l.length) (x : Int) : decide (x ∈ seenL l (k + 1)) = (decide (x = l[k].rune) || decide (x ∈ seenL l k)) := by
  rw [seenL_succ l k h, Bool.eq_iff_iff]
  simp

def RLoop1 (a : Al) (w : World) (v1 v2 : Value) (i : Value) (wr : World) : Prop :=
  ∃ k : Nat, k ≤ a.feats.length ∧ i = .int .i64 (k : Int) ∧ namesOk [] a.feats = namesOk (seenF a.feats k) (a.feats.drop k) ∧ Row wr w.heap.size 25 [v1, v2] ∧ Below w.heap.size w wr
def RIn1 (a : Al) (w : World) (v1 v2 : Value) (f : ByteArray) (i : Nat) (ok kv : Value) (wr : World) : Prop :=
  ∃ k : Nat, k ≤ i ∧ kv = .int .i64 (k : Int) ∧ ok = .bool (nameOk f && !decide (f.data.toList ∈ seenF a.feats k)) ∧ Row wr w.heap.size 25 [v1, v2] ∧ Below w.heap.size w wr
def RLoop2 (a : Al) (w : World) (v1 v2 : Value) (i : Value) (wr : World) : Prop :=
  ∃ k : Nat, k ≤ a.lets.length ∧ i = .int .i64 (k : Int) ∧ letsOk a.feats.length [] a.lets = letsOk a.feats.length (seenL a.lets k) (a.lets.drop k) ∧ Row wr w.heap.size 25 [v1, v2] ∧ Below w.heap.size w wr
def RIn2 (a : Al) (w : World) (v1 v2 : Value) (l : Lt) (bl i : Nat) (ok kv : Value) (wr : World) : Prop :=
  ∃ k : Nat, k ≤ i ∧ kv = .int .i64 (k : Int) ∧ ok = .bool (letterOk l.rune && classOk a.feats.length l.plus l.minus && !decide (l.rune ∈ seenL a.lets k)) ∧ Row wr w.heap.size 25 [v1, v2] ∧ Row wr bl 89 [.int .i32 l.rune, .int .u32 (l.plus : Int), .int .u32 (l.minus : Int)] ∧ Below w.heap.size w wr

end Go.Proofs.YtimhlnndobfehaaDoor
namespace Go.Proofs.YtimhlnndobfehaaDoor
open Go.RowKit
open Go.Lib (Utf8Tabs)
set_option linter.unusedVariables false

def clsL (l : List Lt) (p m : Nat) : List Int := (l.filter fun x => likeL x p m).map (·.rune)
/-- A class's letters, and the error. -/
def classS (a : Al) (p m : Nat) : List Int × Int := if alOk a = false then ([], 7) else if classOk a.feats.length p m then (clsL a.lets p m, 0) else ([], 20)
theorem clsL_snoc {l : List Lt} {p m k : Nat} (hk : k < l.length) : clsL (l.take (k + 1)) p m = if likeL l[k] p m then clsL (l.take k) p m ++ [l[k].rune] else clsL (l.take k) p m := by
  unfold clsL
  rw [List.take_succ_eq_append_getElem hk, List.filter_append, List.map_append]
  cases h : likeL l[k] p m <;> simp [h]
theorem clsL_len (l : List Lt) (p m : Nat) : (clsL l p m).length ≤ l.length := by
  unfold clsL
  rw [List.length_map]
  exact List.length_filter_le _ _

def ClassSt (l : List Lt) (p m : Nat) (W : World) (v i : Value) (wr : World) : Prop :=
  ∃ (k : Nat) (acc : List Int) (A : Option Addr) (c : Nat), v = .slice A acc.length c ∧ i = .int .i64 (k : Int) ∧ k ≤ l.length ∧ acc = clsL (l.take k) p m ∧ wr.ownsRow W.heap.size 21 1 (.slice A acc.length c) acc.length (runeVs acc) ∧ Below W.heap.size W wr

end Go.Proofs.YtimhlnndobfehaaDoor
namespace Go.Proofs.YtimhlnndobfehaaDoor
open Go.RowKit
set_option linter.unusedVariables false

def idxR (v : Int) (l : List Int) : Int := if l.contains v then (l.findIdx (· == v) : Int) else -1
theorem idxR_hit {v : Int} {l : List Int} {k : Nat} (hk : k < l.length) (h1 : ∀ j, j < k → l[j]? ≠ some v) (h2 : l[k] = v) : idxR v l = k := by
  have hm : l.contains v = true := by
    rw [List.contains_iff_mem, ← h2]; exact List.getElem_mem hk
  unfold idxR
  rw [if_pos hm]
  have : l.findIdx (· == v) = k := by
    rw [List.findIdx_eq hk]
    refine ⟨by simp [h2], fun j hj => ?_⟩
    have := h1 j hj
    rw [List.getElem?_eq_getElem (by omega)] at this
    simpa using this
  rw [this]
theorem idxR_miss {v : Int} {l : List Int} (h1 : ∀ j, j < l.length → l[j]? ≠ some v) : idxR v l = -1 := by
  unfold idxR
  rw [if_neg]
  intro h
  rw [List.contains_iff_mem] at h
  obtain ⟨j, hj⟩ := List.mem_iff_getElem?.1 h
  exact h1 j (List.getElem?_eq_some_iff.1 hj).1 hj
theorem idxR_pos (v : Int) (l : List Int) : decide (0 ≤ idxR v l) = l.contains v := by
  unfold idxR
  by_cases h : l.contains v = true
  · rw [if_pos h, h]; simp
  · rw [if_neg h]
    have : l.contains v = false := by simpa using h
    rw [this]; rfl
/-- A letter of a row of the call's own. -/
theorem own_rune {w : World} {base c k : Nat} {A : Option Addr} {l : List Int} (h : w.ownsRow base 21 1 (.slice A l.length c) l.length (runeVs l)) (hk : k < l.length) :
    ∃ g, A = some ⟨g, 0, none⟩ ∧ base ≤ g ∧ g < w.heap.size ∧ Cel w g k (.int .i32 l[k]) := by
  obtain ⟨g, c', e, _, _, h1, h2⟩ := own_pos h (by omega)
  injection e with e1 _ e2
  subst e1 e2
  exact ⟨g, rfl, h1, h2, own_cel h (by unfold runeVs; rw [List.getElem?_map, List.getElem?_eq_getElem hk]; rfl)⟩

end Go.Proofs.YtimhlnndobfehaaDoor
namespace Go.Proofs.YtimhlnndobfehaaDoor
open Go.RowKit
open Go.Lib (Utf8Tabs)
set_option linter.unusedVariables false

def intVs (l : List Nat) : List Value := l.map fun (n : Nat) => Value.int .i64 (n : Int)
/-- A row of numbers of the call's own, and an error. -/
def IntsOut (r : List Nat × Int) (W : World) (e : Ending) (w' : World) : Prop :=
  ∃ A c, e = .returned (.tuple #[.slice A r.1.length c, .int .i64 r.2]) ∧ w'.ownsRow W.heap.size 3 1 (.slice A r.1.length c) r.1.length (intVs r.1) ∧ Below W.heap.size W w'
theorem IntsOut.no {r : List Nat × Int} {E : Int} {W w' : World} (h : r = ([], E)) (hb : Below W.heap.size W w') : IntsOut r W (.returned (.tuple #[.slice none 0 0, .int .i64 E])) w' := by
  subst h
  exact ⟨none, 0, rfl, World.ownsRow_nil _ _ _ _, hb⟩
theorem pkint_info : (Tryd.prog.info? 3).map (fun i => (i.zero, i.size, i.bytes)) = some (some (.int .i64 0), 1, 8) := by kernel_rfl
/-- The places where it is so. -/
def placesOf (f : Int → Bool) (l : List Int) : List Nat := (List.range l.length).filter fun i => f (l.getD i 0)
theorem placesOf_snoc {f : Int → Bool} {l : List Int} {k : Nat} (hk : k < l.length) : placesOf f (l.take (k + 1)) = if f l[k] then placesOf f (l.take k) ++ [k] else placesOf f (l.take k) := by
  have hl1 : (l.take (k + 1)).length = k + 1 := by rw [List.length_take]; omega
  have hl0 : (l.take k).length = k := by rw [List.length_take]; omega
  unfold placesOf
  rw [hl1, hl0, List.range_succ, List.filter_append]
  have e1 : (List.range k).filter (fun i => f ((l.take (k + 1)).getD i 0)) = (List.range k).filter (fun i => f ((l.take k).getD i 0)) := by
    apply List.filter_congr
    intro i hi
    have hi' := List.mem_range.1 hi
    rw [List.getD_eq_getElem?_getD, List.getD_eq_getElem?_getD, List.getElem?_take_of_lt (by omega), List.getElem?_take_of_lt (by omega)]
  have e2 : (l.take (k + 1)).getD k 0 = l[k] := by
    rw [List.getD_eq_getElem?_getD, List.getElem?_take_of_lt (by omega), List.getElem?_eq_getElem hk]
    rfl
  rw [e1]
  have e3 : l[k]?.getD 0 = l[k] := by rw [List.getElem?_eq_getElem hk]; rfl
  cases h : f l[k]
  · simp [e3, h]
  · simp [e3, h]
theorem placesOf_len (f : Int → Bool) (l : List Int) : (placesOf f l).length ≤ l.length := by
  unfold placesOf
  refine Nat.le_trans (List.length_filter_le _ _) ?_
  rw [List.length_range]
  exact Nat.le_refl _
/-- A word's peaks, and the error. -/
def peaksS (a : Al) (s : ByteArray) (p m : Nat) : List Nat × Int :=
  if (lettersS a s).2 ≠ 0 then ([], (lettersS a s).2) else if (classS a p m).2 ≠ 0 then ([], (classS a p m).2) else (placesOf (fun x => (classS a p m).1.contains x) (lettersS a s).1, 0)
theorem class_err (a : Al) (p m : Nat) : ((classS a p m).2 = 0 ∧ (classS a p m).1.length ≤ 128) ∨ ((classS a p m).2 ≠ 0 ∧ (classS a p m).1 = []) ∧ ((classS a p m).2 = 7 ∨ (classS a p m).2 = 20) := by
  unfold classS
  by_cases h : alOk a = false
  · rw [if_pos h]; exact .inr ⟨⟨by simp, rfl⟩, .inl rfl⟩
  · rw [if_neg h]
    by_cases h2 : classOk a.feats.length p m = true
    · rw [if_pos h2]
      have h1 := alOk_size (by simpa using h)
      have h3 := clsL_len a.lets p m
      exact .inl ⟨rfl, by simp only; omega⟩
    · rw [if_neg h2]; exact .inr ⟨⟨by simp, rfl⟩, .inr rfl⟩
def PeakSt (f : Int → Bool) (l : List Int) (W : World) (v i : Value) (wr : World) : Prop :=
  ∃ (k : Nat) (acc : List Nat) (A : Option Addr) (c : Nat), v = .slice A acc.length c ∧ i = .int .i64 (k : Int) ∧ k ≤ l.length ∧ acc = placesOf f (l.take k) ∧ wr.ownsRow W.heap.size 3 1 (.slice A acc.length c) acc.length (intVs acc) ∧ Below W.heap.size W wr

end Go.Proofs.YtimhlnndobfehaaDoor
namespace Go.Proofs.YtimhlnndobfehaaDoor
open Go.RowKit
open Go.Lib (Utf8Tabs)
set_option linter.unusedVariables false

end Go.Proofs.YtimhlnndobfehaaDoor
namespace Go.Proofs.YtimhlnndobfehaaDoor
open Go.RowKit
open Go.Lib (Utf8Tabs)
set_option linter.unusedVariables false

def readM (a : Al) (most : Nat) (s : ByteArray) : List Int × Int := readP (isLet a) most (pcs s) []
theorem numI_no {a : Al} {r : Int} (h : isLet a r = false) : numI a r = -1 := by
  unfold numI
  unfold isLet at h
  cases hn : num a r with
  | none => rfl
  | some k => rw [hn] at h; cases h
theorem numF_lt : ∀ (l : List Lt) (i k : Nat) (r : Int), numF l i r = some k → k < i + l.length
  | [], i, k, r, h => by simp [numF] at h
  | x :: l, i, k, r, h => by
    unfold numF at h
    split at h
    · injection h with h
      rw [List.length_cons]
      omega
    · have := numF_lt l (i + 1) k r h
      rw [List.length_cons]
      omega
theorem numI_yes {a : Al} {r : Int} (h : isLet a r = true) : 0 ≤ numI a r ∧ numI a r < a.lets.length := by
  unfold numI
  unfold isLet at h
  cases hn : num a r with
  | none => rw [hn] at h; cases h
  | some k =>
    have := numF_lt a.lets 0 k r hn
    simp only
    omega
theorem go_decode (s : ByteArray) (p : Nat) (hp : p < s.size) : Lib.decodeGo (s.extract p s.size) = Utf8.decode s p := by
  unfold Lib.decodeGo
  rw [if_neg (by rw [ByteArray.size_extract]; omega), decode_tail s p hp]
theorem readP_from (isL : Int → Bool) (most : Nat) (s : ByteArray) (acc : List Int) (p : Nat) (h : p < s.size) : readP isL most (pcsFrom s p) acc = if (pcAt s p).broken then ([], 6) else if !isL (pcAt s p).rune then ([], 5) else if acc.length = most then ([], 4) else readP isL most (pcsFrom s (p + (pcAt s p).len)) (acc ++ [(pcAt s p).rune]) := by
  rw [pcsFrom_step s p h]
  rfl

def RdSt (R : List Int × Int) (isL : Int → Bool) (most : Nat) (s : ByteArray) (v1 v2 : Value) (W : World) (v i : Value) (wr : World) : Prop :=
  ∃ (p : Nat) (acc : List Int) (A : Option Addr) (c : Nat), v = .slice A acc.length c ∧ i = .int .i64 (p : Int) ∧ p ≤ s.size ∧ acc.length ≤ most ∧ R = readP isL most (pcsFrom s p) acc ∧ wr.ownsRow (W.heap.size + 1) 21 1 (.slice A acc.length c) acc.length (runeVs acc) ∧ Row wr W.heap.size 25 [v1, v2] ∧ Below W.heap.size W wr

end Go.Proofs.YtimhlnndobfehaaDoor
namespace Go.Proofs.YtimhlnndobfehaaDoor
open Go.RowKit
open Go.Lib (Utf8Tabs)
set_option linter.unusedVariables false

theorem numF_at : ∀ (l : List Lt) (i : Nat) (x : Int) (n : Nat), numF l i x = some n → ∃ k, ∃ hk : k < l.length, n = i + k ∧ l[k].rune = x
  | [], i, x, n, h => by simp [numF] at h
  | y :: r, i, x, n, h => by
    unfold numF at h
    by_cases e : y.rune = x
    · rw [if_pos e] at h
      injection h with h
      exact ⟨0, by simp, by omega, e⟩
    · rw [if_neg e] at h
      obtain ⟨k, hk, h1, h2⟩ := numF_at r (i + 1) x n h
      exact ⟨k + 1, by simpa using hk, by omega, by simpa using h2⟩
theorem isLet_at {a : Al} {x : Int} (h : isLet a x = true) : ∃ k, ∃ hk : k < a.lets.length, numI a x = (k : Int) ∧ a.lets[k].rune = x := by
  unfold isLet num at h
  obtain ⟨n, hn⟩ := Option.isSome_iff_exists.1 h
  obtain ⟨k, hk, h1, h2⟩ := numF_at _ _ _ _ hn
  refine ⟨k, hk, ?_, h2⟩
  unfold numI num
  rw [hn]
  simp only
  omega
theorem cls_like {a : Al} (hok : alOk a = true) {k : Nat} (hk : k < a.lets.length) (p m : Nat) : (clsL a.lets p m).contains a.lets[k].rune = likeL a.lets[k] p m := by
  have hd := alOk_distinct hok
  rw [Bool.eq_iff_iff, List.contains_iff_mem]
  unfold clsL
  rw [List.mem_map]
  constructor
  · rintro ⟨y, hy, e⟩
    obtain ⟨hy1, hy2⟩ := List.mem_filter.1 hy
    obtain ⟨j, hj, rfl⟩ := List.getElem_of_mem hy1
    rcases Nat.lt_trichotomy j k with h | h | h
    · exact absurd e (List.pairwise_iff_getElem.1 hd j k hj hk h)
    · subst h; exact hy2
    · exact absurd e.symm (List.pairwise_iff_getElem.1 hd k j hk hj h)
  · intro h
    exact ⟨a.lets[k], List.mem_filter.2 ⟨List.getElem_mem hk, h⟩, rfl⟩
theorem readP_lets (isL : Int → Bool) (most : Nat) : ∀ (l : List Pc) (acc : List Int), (∀ x ∈ acc, isL x = true) → ∀ x ∈ (readP isL most l acc).1, isL x = true
  | [], acc, h => h
  | y :: r, acc, h => by
    unfold readP
    split
    · intro x hx; simp at hx
    · split
      · intro x hx; simp at hx
      · split
        · intro x hx; simp at hx
        · rename_i h1 h2 h3
          refine readP_lets isL most r (acc ++ [y.rune]) fun x hx => ?_
          rcases List.mem_append.1 hx with hx | hx
          · exact h x hx
          · rw [List.mem_singleton.1 hx]
            simpa using h2
theorem letters_isLet {a : Al} {s : ByteArray} : ∀ x ∈ (lettersS a s).1, alOk a = true ∧ isLet a x = true := by
  unfold lettersS
  by_cases h : alOk a = true
  · rw [if_pos h]
    exact fun x hx => ⟨h, readP_lets (isLet a) 64 (pcs s) [] (fun x hx => by simp at hx) x hx⟩
  · rw [if_neg h]
    intro x hx
    simp at hx

end Go.Proofs.YtimhlnndobfehaaDoor
namespace Go.Proofs.YtimhlnndobfehaaDoor
open Go.Lib
set_option linter.unusedVariables false

theorem bt_drop {s : ByteArray} {i k : Nat} {x : UInt8} (h : (s.data.toList.drop i)[k]? = some x) : bt s (i + k) = x.toNat ∧ i + k < s.size := by
  rw [List.getElem?_drop] at h
  obtain ⟨hl, h⟩ := List.getElem?_eq_some_iff.1 h
  have hs : i + k < s.size := by simpa using hl
  refine ⟨?_, hs⟩
  rw [← bt_get s (i + k) hs, ← h]
  rfl
theorem u8n (n : Nat) (h : n < 256) : ((n : Int).toNat.toUInt8).toNat = n := by
  rw [Int.toNat_natCast]
  show (UInt8.ofNat n).toNat = n
  rw [UInt8.toNat_ofNat']
  omega
theorem decodeN_one (n r b1 b2 b3 : Nat) (h : r < 128) : decodeN n r b1 b2 b3 = (r, 1) := by unfold decodeN; rw [if_pos h]
theorem decodeN_two (n r b2 b3 : Nat) (h : 128 ≤ r ∧ r ≤ 2047) (hn : 1 < n) : decodeN n (192 + r / 64) (128 + r % 64) b2 b3 = (r, 2) := by
  unfold decodeN
  rw [if_neg (by omega), if_pos (by omega), if_pos (by omega)]
  congr 1
  omega
theorem decodeN_three (n r b3 : Nat) (h : (2048 ≤ r ∧ r < 55296) ∨ (57343 < r ∧ r ≤ 65535)) (hn : 2 < n) : decodeN n (224 + r / 4096) (128 + r / 64 % 64) (128 + r % 64) b3 = (r, 3) := by
  unfold decodeN
  have e : (224 + r / 4096) % 16 * 4096 + (128 + r / 64 % 64) % 64 * 64 + (128 + r % 64) % 64 = r := by omega
  rw [e, if_neg (by omega), if_neg (by omega), if_pos (by omega), if_pos (by omega)]
theorem decodeN_four (n r : Nat) (h : 65536 ≤ r ∧ r ≤ 1114111) (hn : 3 < n) : decodeN n (240 + r / 262144) (128 + r / 4096 % 64) (128 + r / 64 % 64) (128 + r % 64) = (r, 4) := by
  unfold decodeN
  have e : (240 + r / 262144) % 8 * 262144 + (128 + r / 4096 % 64) % 64 * 4096 + (128 + r / 64 % 64) % 64 * 64 + (128 + r % 64) % 64 = r := by omega
  rw [e, if_neg (by omega), if_neg (by omega), if_neg (by omega), if_pos (by omega), if_pos (by omega)]

theorem decode_back {s : ByteArray} {i : Nat} {rest : List UInt8} (r : Nat) (h : s.data.toList.drop i = encodeRune (r : Int) ++ rest) (hv : r < 55296 ∨ (57343 < r ∧ r ≤ 1114111)) :
    Utf8.decode s i = (r, (encodeRune (r : Int)).length) ∧ i + (encodeRune (r : Int)).length ≤ s.size := by
  rw [decode_bt]
  unfold encodeRune at h ⊢
  rw [List.length_map]
  by_cases h1 : r < 128
  · rw [encodeRuneZ_one (by omega) (by omega)] at h ⊢
    obtain ⟨e0, s0⟩ := bt_drop (s := s) (i := i) (k := 0) (by rw [h]; rfl)
    rw [u8n _ (by omega)] at e0
    simp only [Nat.add_zero] at e0 s0
    rw [e0]
    exact ⟨decodeN_one _ _ _ _ _ h1, by simp only [List.length_cons, List.length_nil]; omega⟩
  · by_cases h2 : r ≤ 2047
    · rw [encodeRuneZ_two (by omega) (by omega)] at h ⊢
      rw [show (192 : Int) + (r : Int) / 64 = ((192 + r / 64 : Nat) : Int) by omega, show (128 : Int) + (r : Int) % 64 = ((128 + r % 64 : Nat) : Int) by omega] at h
      obtain ⟨e0, s0⟩ := bt_drop (s := s) (i := i) (k := 0) (by rw [h]; rfl)
      obtain ⟨e1, s1⟩ := bt_drop (s := s) (i := i) (k := 1) (by rw [h]; rfl)
      rw [u8n _ (by omega)] at e0 e1
      simp only [Nat.add_zero] at e0 s0
      rw [e0, e1]
      exact ⟨decodeN_two _ _ _ _ (by omega) (by omega), by simp only [List.length_cons, List.length_nil]; omega⟩
    · by_cases h3 : r ≤ 65535
      · rw [encodeRuneZ_three (by omega)] at h ⊢
        rw [show (224 : Int) + (r : Int) / 4096 = ((224 + r / 4096 : Nat) : Int) by omega, show (128 : Int) + (r : Int) / 64 % 64 = ((128 + r / 64 % 64 : Nat) : Int) by omega, show (128 : Int) + (r : Int) % 64 = ((128 + r % 64 : Nat) : Int) by omega] at h
        obtain ⟨e0, s0⟩ := bt_drop (s := s) (i := i) (k := 0) (by rw [h]; rfl)
        obtain ⟨e1, s1⟩ := bt_drop (s := s) (i := i) (k := 1) (by rw [h]; rfl)
        obtain ⟨e2, s2⟩ := bt_drop (s := s) (i := i) (k := 2) (by rw [h]; rfl)
        rw [u8n _ (by omega)] at e0 e1 e2
        simp only [Nat.add_zero] at e0 s0
        rw [e0, e1, e2]
        exact ⟨decodeN_three _ _ _ (by omega) (by omega), by simp only [List.length_cons, List.length_nil]; omega⟩
      · rw [encodeRuneZ_four (by omega) (by omega)] at h ⊢
        rw [show (240 : Int) + (r : Int) / 262144 = ((240 + r / 262144 : Nat) : Int) by omega, show (128 : Int) + (r : Int) / 4096 % 64 = ((128 + r / 4096 % 64 : Nat) : Int) by omega, show (128 : Int) + (r : Int) / 64 % 64 = ((128 + r / 64 % 64 : Nat) : Int) by omega, show (128 : Int) + (r : Int) % 64 = ((128 + r % 64 : Nat) : Int) by omega] at h
        obtain ⟨e0, s0⟩ := bt_drop (s := s) (i := i) (k := 0) (by rw [h]; rfl)
        obtain ⟨e1, s1⟩ := bt_drop (s := s) (i := i) (k := 1) (by rw [h]; rfl)
        obtain ⟨e2, s2⟩ := bt_drop (s := s) (i := i) (k := 2) (by rw [h]; rfl)
        obtain ⟨e3, s3⟩ := bt_drop (s := s) (i := i) (k := 3) (by rw [h]; rfl)
        rw [u8n _ (by omega)] at e0 e1 e2 e3
        simp only [Nat.add_zero] at e0 s0
        rw [e0, e1, e2, e3]
        exact ⟨decodeN_four _ _ (by omega) (by omega), by simp only [List.length_cons, List.length_nil]; omega⟩

theorem pcs_back (s : ByteArray) : ∀ (l : List Int) (i : Nat), i ≤ s.size → s.data.toList.drop i = encB l → (∀ x ∈ l, letterOk x = true) → (pcsFrom s i).map (fun p => (p.rune, p.broken)) = l.map (fun x => (x, false))
  | [], i, hi, h, _ => by
    have : s.size ≤ i := by
      have := congrArg List.length h
      simp [encB] at this
      omega
    rw [pcsFrom_end s i this]
    rfl
  | x :: l, i, hi, h, hl => by
    have hx := hl x (List.mem_cons_self ..)
    unfold letterOk at hx
    have hx := of_decide_eq_true hx
    obtain ⟨r, rfl⟩ : ∃ r : Nat, x = (r : Int) := ⟨x.toNat, by omega⟩
    have he : encB ((r : Int) :: l) = encodeRune (r : Int) ++ encB l := by unfold encB; rfl
    rw [he] at h
    obtain ⟨h1, h2⟩ := decode_back r h (by omega)
    have hpos : 1 ≤ (encodeRune (r : Int)).length := by unfold encodeRune; rw [List.length_map]; exact (encodeRuneZ_length _).1
    rw [pcsFrom_step s i (by omega), List.map_cons, List.map_cons, h1]
    have hnext : s.data.toList.drop (i + (encodeRune (r : Int)).length) = encB l := by
      rw [← List.drop_drop, h, List.drop_left]
    rw [pcs_back s l _ h2 hnext fun y hy => hl y (List.mem_cons_of_mem _ hy)]
    congr 1
    unfold pcAt
    rw [h1]
    simp only [Prod.mk.injEq, decide_eq_false_iff_not, true_and]
    omega
theorem encR_enc (l : List Int) : (encR l).data.toList = encB l := by
  have key : ∀ (l : List Int) (t : ByteArray), (l.foldl (fun r n => r ++ Utf8.encode n) t).data.toList = t.data.toList ++ encB l := by
    intro l
    induction l with
    | nil => intro t; simp [encB]
    | cons x l ih =>
      intro t
      rw [List.foldl_cons, ih, ByteArray.data_append, Array.toList_append, encode_list, List.append_assoc]
      rfl
  have := key l ByteArray.empty
  unfold encR
  rw [this]
  rfl
theorem encR_append (l r : List Int) : encR (l ++ r) = encR l ++ encR r := by
  apply ByteArray.ext
  apply Array.toList_inj.1
  rw [ByteArray.data_append, Array.toList_append, encR_enc, encR_enc, encR_enc]
  unfold encB
  rw [List.flatMap_append]
theorem readP_all (isL : Int → Bool) (most : Nat) : ∀ (pl : List Pc) (l acc : List Int), pl.map (fun p => (p.rune, p.broken)) = l.map (fun x => (x, false)) → (∀ x ∈ l, isL x = true) → acc.length + l.length ≤ most → readP isL most pl acc = (acc ++ l, 0)
  | [], l, acc, h, _, _ => by
    have : l = [] := by cases l with | nil => rfl | cons x l => simp at h
    subst this
    rw [List.append_nil]
    rfl
  | p :: pl, [], acc, h, _, _ => by simp at h
  | p :: pl, x :: l, acc, h, hl, hm => by
    simp only [List.map_cons, List.cons.injEq, Prod.mk.injEq] at h
    obtain ⟨⟨h1, h2⟩, h3⟩ := h
    have hx := hl x (List.mem_cons_self ..)
    simp only [List.length_cons] at hm
    unfold readP
    rw [h2, h1, hx, if_neg (by simp), if_neg (by simp), if_neg (by omega), readP_all isL most pl l _ h3 (fun y hy => hl y (List.mem_cons_of_mem _ hy)) (by simp only [List.length_append, List.length_cons, List.length_nil]; omega), List.append_assoc]
    rfl
theorem letsOk_ok (n : Nat) : ∀ (seen : List Int) (l : List Lt), letsOk n seen l = true → ∀ x ∈ l, letterOk x.rune = true
  | _, [], _, x, hx => by simp at hx
  | seen, y :: l, h, x, hx => by
    unfold letsOk at h
    simp only [Bool.and_eq_true] at h
    rcases List.mem_cons.1 hx with rfl | hx
    · exact h.1.1.1
    · exact letsOk_ok n _ l h.2 x hx
theorem isLet_ok {a : Al} (hok : alOk a = true) {x : Int} (h : isLet a x = true) : letterOk x = true := by
  obtain ⟨k, hk, _, e⟩ := isLet_at h
  unfold alOk at hok
  simp only [Bool.and_eq_true] at hok
  rw [← e]
  exact letsOk_ok _ _ _ hok.2 _ (List.getElem_mem hk)
/-- Letters written and read again. -/
theorem letters_back {a : Al} (hok : alOk a = true) (l : List Int) (hl : ∀ x ∈ l, isLet a x = true) (hn : l.length ≤ 64) : lettersS a (encR l) = (l, 0) := by
  unfold lettersS
  rw [if_pos hok]
  unfold readS
  have h := pcs_back (encR l) l 0 (Nat.zero_le _) (by rw [List.drop_zero, encR_enc]) (fun x hx => isLet_ok hok (hl x hx))
  have := readP_all (isLet a) 64 (pcs (encR l)) l [] h hl (by simpa using hn)
  rw [this]
  rfl
end Go.Proofs.YtimhlnndobfehaaDoor
