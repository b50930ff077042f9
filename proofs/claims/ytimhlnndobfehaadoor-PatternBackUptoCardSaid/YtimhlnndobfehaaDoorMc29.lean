/- A text without broken bytes: its pieces' runes are its bytes; parts of it between places of pieces. Plain Lean. A word read and written again. Plain Lean. word.both: the letters of two words. word.Common. The letters of a list of words: plain law, and rows of rows in memory. word.all: the letters of a list of words. word.Join. What WordParts asks, of letters. Plain Lean. Letters by their runes, in a map. feature.Has. -/
import Derived.Test.YtimhlnndobfehaaDoorMc28
import Derived.Test.YtimhlnndobfehaaDoorMc05
import Derived.Test.YtimhlnndobfehaaDoorMc22
import Derived.Test.YtimhlnndobfehaaDoorMc09
import Derived.Test.YtimhlnndobfehaaDoorMc16
import Derived.Test.YtimhlnndobfehaaDoorMc27
import Derived.Test.YtimhlnndobfehaaDoorMc24
namespace Go.Proofs.YtimhlnndobfehaaDoor
open Go.Lib
set_option linter.unusedVariables false

/-- No piece of it is broken. -/
def Sound (s : ByteArray) : Prop := ∀ p ∈ pcs s, p.broken = false

theorem decodeN_enc (n b0 b1 b2 b3 : Nat) (h0 : b0 < 256) (h1 : b1 < 256) (h2 : b2 < 256) (h3 : b3 < 256) (hb : decodeN n b0 b1 b2 b3 ≠ (65533, 1)) :
    encodeRuneZ ((decodeN n b0 b1 b2 b3).1 : Int) = ([(b0 : Int), b1, b2, b3].take (decodeN n b0 b1 b2 b3).2) := by
  revert hb
  unfold decodeN
  repeat' split
  all_goals intro hb
  all_goals first
    | exact absurd rfl hb
    | (simp only; rw [encodeRuneZ_one (by omega) (by omega)]; rfl)
    | (simp only; rw [encodeRuneZ_two (by omega) (by omega)]; simp only [List.take_succ_cons, List.take_zero]; refine List.cons_eq_cons.2 ⟨by omega, List.cons_eq_cons.2 ⟨by omega, rfl⟩⟩)
    | (simp only; rw [encodeRuneZ_three (by omega)]; simp only [List.take_succ_cons, List.take_zero]; refine List.cons_eq_cons.2 ⟨by omega, List.cons_eq_cons.2 ⟨by omega, List.cons_eq_cons.2 ⟨by omega, rfl⟩⟩⟩)
    | (simp only; rw [encodeRuneZ_four (by omega) (by omega)]; simp only [List.take_succ_cons, List.take_zero]; refine List.cons_eq_cons.2 ⟨by omega, List.cons_eq_cons.2 ⟨by omega, List.cons_eq_cons.2 ⟨by omega, List.cons_eq_cons.2 ⟨by omega, rfl⟩⟩⟩⟩)
/-- A byte of a sound piece of more than one byte is no ASCII byte. -/
theorem decodeN_high (n b0 b1 b2 b3 : Nat) (hb : decodeN n b0 b1 b2 b3 ≠ (65533, 1)) : 1 < (decodeN n b0 b1 b2 b3).2 → 128 ≤ b0 ∧ (1 < (decodeN n b0 b1 b2 b3).2 → 128 ≤ b1) ∧ (2 < (decodeN n b0 b1 b2 b3).2 → 128 ≤ b2) ∧ (3 < (decodeN n b0 b1 b2 b3).2 → 128 ≤ b3) := by
  revert hb
  unfold decodeN
  repeat' split
  all_goals intro hb
  all_goals simp only
  all_goals omega

def SoundFrom (s : ByteArray) (i : Nat) : Prop := ∀ p ∈ pcsFrom s i, p.broken = false
theorem SoundFrom.head {s : ByteArray} {i : Nat} (h : SoundFrom s i) (hi : i < s.size) : Utf8.decode s i ≠ (65533, 1) := fun e => by
  have := h (pcAt s i) (by rw [pcsFrom_step s i hi]; exact List.mem_cons_self ..)
  unfold pcAt at this
  rw [e] at this
  simp at this
theorem SoundFrom.next {s : ByteArray} {i : Nat} (h : SoundFrom s i) (hi : i < s.size) : SoundFrom s (i + (Utf8.decode s i).2) := fun p hp => h p (by rw [pcsFrom_step s i hi]; exact List.mem_cons_of_mem _ hp)
theorem SoundFrom.place {s : ByteArray} {i : Nat} (h : SoundFrom s i) (k : Nat) : SoundFrom s (placeOf s i k) := fun p hp => by
  rw [← pcsFrom_drop] at hp
  exact h p (List.mem_of_mem_drop hp)

theorem ext_step (s : ByteArray) (i b : Nat) (hi : i < b) (hb : b ≤ s.size) : (s.extract i b).data.toList = s.get! i :: (s.extract (i + 1) b).data.toList := by
  rw [ext_list, ext_list]
  have hl : i < (s.data.toList.take b).length := by simp; omega
  rw [List.drop_eq_getElem_cons hl]
  congr 1
  rw [List.getElem_take]
  have := get_at s i (by omega)
  rw [Nat.add_zero] at this
  rw [this]
  simp
  rfl
theorem ext_none (s : ByteArray) (i : Nat) : (s.extract i i).data.toList = [] := by
  rw [ext_list]
  exact List.drop_eq_nil_of_le (by simp; omega)
theorem bytes_of (s : ByteArray) (i w : Nat) (hw : 1 ≤ w ∧ w ≤ 4) (hs : i + w ≤ s.size) : ((([(bt s i : Int), bt s (i + 1), bt s (i + 2), bt s (i + 3)].take w)).map fun x => x.toNat.toUInt8) = (s.extract i (i + w)).data.toList := by
  have e : ∀ k, ((bt s k : Int)).toNat.toUInt8 = s.get! k := fun k => by
    rw [Int.toNat_natCast]
    unfold bt
    simp
  have hq : w = 1 ∨ w = 2 ∨ w = 3 ∨ w = 4 := by omega
  rcases hq with rfl | rfl | rfl | rfl
  · rw [ext_step s i _ (by omega) hs, ext_none]
    simp only [List.take_succ_cons, List.take_zero, List.map_cons, List.map_nil, e]
  · rw [ext_step s i _ (by omega) hs, ext_step s (i + 1) _ (by omega) hs, ext_none]
    simp only [List.take_succ_cons, List.take_zero, List.map_cons, List.map_nil, e]
  · rw [ext_step s i _ (by omega) hs, ext_step s (i + 1) _ (by omega) hs, ext_step s (i + 1 + 1) _ (by omega) hs, ext_none]
    simp only [List.take_succ_cons, List.take_zero, List.map_cons, List.map_nil, e]
  · rw [ext_step s i _ (by omega) hs, ext_step s (i + 1) _ (by omega) hs, ext_step s (i + 1 + 1) _ (by omega) hs, ext_step s (i + 1 + 1 + 1) _ (by omega) hs, ext_none]
    simp only [List.take_succ_cons, List.take_zero, List.map_cons, List.map_nil, e]
theorem ba_ext {a b : ByteArray} (h : a.data.toList = b.data.toList) : a = b := by
  cases a
  cases b
  simp only at h
  rw [Array.toList_inj] at h
  rw [h]
theorem encode_sound (s : ByteArray) (i : Nat) (hi : i < s.size) (h : Utf8.decode s i ≠ (65533, 1)) : Utf8.encode ((Utf8.decode s i).1 : Int) = s.extract i (i + (Utf8.decode s i).2) := by
  have hw := decode_width s i hi
  apply ba_ext
  rw [encode_list, ← bytes_of s i _ ⟨hw.1, hw.2.2⟩ hw.2.1]
  unfold encodeRune
  congr 1
  rw [decode_bt] at h ⊢
  exact decodeN_enc _ _ _ _ _ (bt_lt _ _) (bt_lt _ _) (bt_lt _ _) (bt_lt _ _) h
theorem ext_join (s : ByteArray) (a b c : Nat) (h1 : a ≤ b) (h2 : b ≤ c) (h3 : c ≤ s.size) : s.extract a b ++ s.extract b c = s.extract a c := by
  apply ba_ext
  rw [ByteArray.data_append, Array.toList_append, ext_list, ext_list, ext_list]
  have e : (s.data.toList.take c).drop a = ((s.data.toList.take c).take b).drop a ++ ((s.data.toList.take c).drop b) := by
    conv => lhs; rw [← List.take_append_drop b (s.data.toList.take c)]
    rw [List.drop_append_of_le_length (by simp; omega)]
  rw [e, List.take_take, Nat.min_eq_left h2]
theorem enc_take {s : ByteArray} : ∀ (k i : Nat), i ≤ s.size → SoundFrom s i → enc ((pcsFrom s i).take k) = s.extract i (placeOf s i k)
  | 0, i, hi, h => by
    rw [placeOf_zero]
    apply ba_ext
    rw [ext_none]
    rfl
  | k + 1, i, hi, h => by
    by_cases hlt : i < s.size
    · have hw := decode_width s i hlt
      have hp := placeOf_le s k (i + (Utf8.decode s i).2) (by omega)
      rw [pcsFrom_step s i hlt, List.take_succ_cons, enc_cons, enc_take k _ (by omega) (h.next hlt), placeOf_succ s i k hlt]
      rw [show (pcAt s i).rune = ((Utf8.decode s i).1 : Int) from rfl, encode_sound s i hlt (h.head hlt)]
      exact ext_join s _ _ _ (by omega) (by omega) (by omega)
    · rw [placeOf_end s i _ (by omega), pcsFrom_end s i (by omega)]
      apply ba_ext
      rw [ext_none]
      rfl
theorem enc_drop {s : ByteArray} (k : Nat) (h : SoundFrom s 0) : enc ((pcs s).drop k) = s.extract (placeOf s 0 k) s.size := by
  have hp := placeOf_le s k 0 (by omega)
  have h1 := enc_take (s := s) (pcsFrom s (placeOf s 0 k)).length (placeOf s 0 k) hp.2 (h.place k)
  rw [List.take_length, placeOf_all s _ hp.2, ← pcsFrom_drop] at h1
  exact h1
/-- An ASCII byte is a piece of its own. -/
theorem ascii_place {s : ByteArray} {j : Nat} (hj : j < s.size) (hb : bt s j < 128) : ∀ (f i : Nat), j - i ≤ f → i ≤ j → SoundFrom s i → ∃ k, placeOf s i k = j ∧ placeOf s i (k + 1) = j + 1
  | f, i, hf, hi, h => by
    have hlt : i < s.size := by omega
    have hw := decode_width s i hlt
    by_cases he : i = j
    · subst he
      refine ⟨0, rfl, ?_⟩
      have e : Utf8.decode s i = (bt s i, 1) := by
        rw [decode_bt]
        unfold decodeN
        rw [if_pos hb]
      rw [placeOf_succ s i 0 hlt, e, placeOf_zero]
    · have hge : i + (Utf8.decode s i).2 ≤ j := by
        apply Nat.le_of_not_lt
        intro hlt2
        have hh := h.head hlt
        rw [decode_bt] at hh hlt2 hw
        have := decodeN_high _ _ _ _ _ hh (by omega)
        have hq : j = i + 1 ∨ j = i + 2 ∨ j = i + 3 := by omega
        rcases hq with rfl | rfl | rfl <;> omega
      match f, hf with
      | 0, hf => omega
      | f + 1, hf =>
        obtain ⟨k, h1, h2⟩ := ascii_place hj hb f (i + (Utf8.decode s i).2) (by omega) hge (h.next hlt)
        exact ⟨k + 1, by rw [placeOf_succ s i k hlt, h1], by rw [placeOf_succ s i _ hlt, h2]⟩
/-- A part of a sound text between places of pieces is sound. -/
theorem sound_part {s : ByteArray} (a k : Nat) (ha : a ≤ s.size) (h : SoundFrom s a) : SoundFrom (s.extract a (placeOf s a k)) 0 := by
  have h1 := pcs_part s k a 0 (by omega)
  rw [Nat.add_zero] at h1
  intro p hp
  have hm : (p.rune, p.len) ∈ ((pcsFrom s a).take k).map (fun p => (p.rune, p.len)) := by
    rw [← h1]
    exact List.mem_map.2 ⟨p, hp, rfl⟩
  obtain ⟨q, hq, e⟩ := List.mem_map.1 hm
  have hbr : ∀ (t : ByteArray) (i : Nat) (x : Pc), x ∈ pcsFrom t i → x.broken = decide (x.rune = 65533 ∧ x.len = 1) := by
    intro t i x hx
    obtain ⟨k, hk, rfl⟩ := List.getElem_of_mem hx
    obtain ⟨e, _⟩ := pcs_at t i k hk
    rw [e]
    unfold pcAt
    simp only
    rw [Bool.eq_iff_iff, decide_eq_true_eq, decide_eq_true_eq]
    omega
  have e1 := hbr _ _ p hp
  have e2 := hbr _ _ q (List.mem_of_mem_take hq)
  have e3 := h q (List.mem_of_mem_take hq)
  injection e with e4 e5
  rw [e1, ← e4, ← e5, ← e2, e3]
end Go.Proofs.YtimhlnndobfehaaDoor
namespace Go.Proofs.YtimhlnndobfehaaDoor
open Go.Lib
set_option linter.unusedVariables false

theorem readP_was (isL : Int → Bool) (most : Nat) : ∀ (pl : List Pc) (acc : List Int), (readP isL most pl acc).2 = 0 → (readP isL most pl acc).1 = acc ++ pl.map (·.rune) ∧ ∀ q ∈ pl, q.broken = false
  | [], acc, _ => by simp [readP]
  | p :: pl, acc, h => by
    unfold readP at h ⊢
    split at h
    · simp at h
    · rename_i h1
      rw [if_neg h1]
      split at h
      · simp at h
      · rename_i h2
        rw [if_neg h2]
        split at h
        · simp at h
        · rename_i h3
          rw [if_neg h3]
          obtain ⟨e1, e2⟩ := readP_was isL most pl _ h
          refine ⟨by rw [e1, List.map_cons, List.append_assoc]; rfl, fun q hq => ?_⟩
          rcases List.mem_cons.1 hq with rfl | hq
          · simpa using h1
          · exact e2 q hq
/-- A word's letters, written, are the word. -/
theorem text_back {a : Al} {s : ByteArray} (h : (lettersS a s).2 = 0) : encR (lettersS a s).1 = s := by
  unfold lettersS at h ⊢
  by_cases hok : alOk a = true
  · rw [if_pos hok] at h ⊢
    unfold readS at h ⊢
    obtain ⟨e1, e2⟩ := readP_was (isLet a) 64 (pcs s) [] h
    rw [e1, List.nil_append]
    have h1 := enc_take (s := s) (pcs s).length 0 (Nat.zero_le _) e2
    rw [show placeOf s 0 (pcs s).length = s.size from placeOf_all s 0 (Nat.zero_le _)] at h1
    have h2 : enc (pcs s) = s := by
      have e3 : (pcsFrom s 0).take (pcs s).length = pcs s := List.take_length
      rw [e3] at h1
      rw [h1]
      apply ba_ext
      rw [ext_list, List.drop_zero]
      exact List.take_of_length_le (by simp)
    apply ba_ext
    rw [encR_enc, ← enc_list, h2]
  · rw [if_neg hok] at h
    simp at h
end Go.Proofs.YtimhlnndobfehaaDoor
namespace Go.Proofs.YtimhlnndobfehaaDoor
open Go.RowKit
open Go.Lib (Utf8Tabs)
set_option linter.unusedVariables false

theorem results_tmp4 {fn : Func} {t u v x : Tmp} (h : fn.results = #[.tmp t, .tmp u, .tmp v, .tmp x]) (tmps : Array Value) (P : Program) (w : World) :
    (results fn tmps).run P w = .ok (.tuple #[tmps.getD t undef, tmps.getD u undef, tmps.getD v undef, tmps.getD x undef]) w := by
  simp [results, h]
/-- The letters of two words, and the error. -/
def bothS (a : Al) (x y : ByteArray) : List Int × List Int × Int := if (lettersS a x).2 ≠ 0 then ([], [], (lettersS a x).2) else if (lettersS a y).2 ≠ 0 then ([], [], (lettersS a y).2) else ((lettersS a x).1, (lettersS a y).1, 0)
def BothOut (a : Al) (r : List Int × List Int × Int) (W : World) (e : Ending) (w' : World) : Prop :=
  ∃ mv A c B d, e = .returned (.tuple #[mv, .slice A r.1.length c, .slice B r.2.1.length d, .int .i64 r.2.2]) ∧ w'.ownsRow W.heap.size 21 1 (.slice A r.1.length c) r.1.length (runeVs r.1) ∧ w'.ownsRow W.heap.size 21 1 (.slice B r.2.1.length d) r.2.1.length (runeVs r.2.1) ∧
    (r.2.2 = 0 → ∃ bm n, mv = .map (some bm) ∧ W.heap.size ≤ bm ∧ MapI Tryd.prog 21 3 .i64 w' bm n (rankF a.lets a.lets.length)) ∧ Below W.heap.size W w'
theorem BothOut.no {a : Al} {r : List Int × List Int × Int} {E : Int} {W w' : World} (h : r = ([], [], E)) (hE : E ≠ 0) (hb : Below W.heap.size W w') : BothOut a r W (.returned (.tuple #[.map none, .slice none 0 0, .slice none 0 0, .int .i64 E])) w' := by
  subst h
  exact ⟨.map none, none, 0, none, 0, rfl, World.ownsRow_nil _ _ _ _, World.ownsRow_nil _ _ _ _, fun h => absurd h hE, hb⟩

end Go.Proofs.YtimhlnndobfehaaDoor
namespace Go.Proofs.YtimhlnndobfehaaDoor
open Go.RowKit
open Go.Lib (Utf8Tabs)
set_option linter.unusedVariables false

def commonN : List Int → List Int → Nat
  | x :: l, y :: k => if x = y then commonN l k + 1 else 0
  | _, _ => 0
theorem commonN_nil (l : List Int) : commonN l [] = 0 := by cases l <;> rfl
theorem commonN_le : ∀ l k : List Int, commonN l k ≤ l.length ∧ commonN l k ≤ k.length
  | [], k => ⟨Nat.zero_le _, Nat.zero_le _⟩
  | x :: l, [] => ⟨Nat.zero_le _, Nat.zero_le _⟩
  | x :: l, y :: k => by
    have := commonN_le l k
    unfold commonN
    split
    · simp only [List.length_cons]; omega
    · exact ⟨Nat.zero_le _, Nat.zero_le _⟩
theorem commonN_take : ∀ l k : List Int, l.take (commonN l k) = k.take (commonN l k)
  | [], k => by simp [commonN]
  | x :: l, [] => by simp [commonN]
  | x :: l, y :: k => by
    unfold commonN
    split
    · rename_i h
      rw [List.take_succ_cons, List.take_succ_cons, commonN_take l k, h]
    · rfl
theorem commonN_stop : ∀ (l k : List Int) (h1 : commonN l k < l.length) (h2 : commonN l k < k.length), l[commonN l k] ≠ k[commonN l k]
  | [], k, h1, _ => by simp at h1
  | x :: l, [], _, h2 => by simp at h2
  | x :: l, y :: k, h1, h2 => by
    by_cases h : x = y
    · have e : commonN (x :: l) (y :: k) = commonN l k + 1 := by rw [commonN, if_pos h]
      simp only [e] at h1 h2 ⊢
      simp only [List.getElem_cons_succ]
      exact commonN_stop l k (by simpa using h1) (by simpa using h2)
    · have e : commonN (x :: l) (y :: k) = 0 := by rw [commonN, if_neg h]
      simp only [e]
      exact h
theorem commonN_step {l k : List Int} {n : Nat} (h1 : n < l.length) (h2 : n < k.length) : commonN (l.drop n) (k.drop n) = if l[n] = k[n] then commonN (l.drop (n + 1)) (k.drop (n + 1)) + 1 else 0 := by
  rw [List.drop_eq_getElem_cons h1, List.drop_eq_getElem_cons h2, commonN]
theorem commonN_end {l k : List Int} {n : Nat} (h : l.length ≤ n ∨ k.length ≤ n) : commonN (l.drop n) (k.drop n) = 0 := by
  rcases h with h | h
  · rw [List.drop_eq_nil_of_le h]; rfl
  · rw [List.drop_eq_nil_of_le h, commonN_nil]
/-- How many letters two words begin with alike, and the error. -/
def commonS (a : Al) (x y : ByteArray) : Nat × Int := if (bothS a x y).2.2 ≠ 0 then (0, (bothS a x y).2.2) else (commonN (bothS a x y).1 (bothS a x y).2.1, 0)
theorem both_facts (a : Al) (x y : ByteArray) : (bothS a x y).1.length ≤ 64 ∧ (bothS a x y).2.1.length ≤ 64 ∧ (bothS a x y).2.2 ≤ 7 ∧ 0 ≤ (bothS a x y).2.2 := by
  have h1 := letters_len a x
  have h2 := letters_len a y
  have h3 := letters_err a x
  have h4 := letters_err a y
  unfold bothS
  split
  · exact ⟨by simp, by simp, by simp only; omega, by simp only; omega⟩
  · split
    · exact ⟨by simp, by simp, by simp only; omega, by simp only; omega⟩
    · exact ⟨h1, h2, by simp, by simp⟩

end Go.Proofs.YtimhlnndobfehaaDoor
namespace Go.Proofs.YtimhlnndobfehaaDoor
open Go.RowKit
set_option linter.unusedVariables false

def allF (a : Al) : List ByteArray → List (List Int) × Int
  | [] => ([], 0)
  | s :: r => if (lettersS a s).2 ≠ 0 then ([], (lettersS a s).2) else if (allF a r).2 ≠ 0 then ([], (allF a r).2) else ((lettersS a s).1 :: (allF a r).1, 0)
/-- The letters of a list of words, and the error. -/
def allS (a : Al) (l : List ByteArray) : List (List Int) × Int := if alOk a = false then ([], 7) else if 4096 < l.length then ([], 4) else allF a l
/-- So far all words are words. -/
def AllTo (a : Al) (l : List ByteArray) (k : Nat) : Prop := ∀ i (h : i < l.length), i < k → (lettersS a l[i]).2 = 0
theorem allF_ok (a : Al) : ∀ l : List ByteArray, (∀ s ∈ l, (lettersS a s).2 = 0) → allF a l = (l.map fun s => (lettersS a s).1, 0)
  | [], _ => rfl
  | s :: r, h => by
    have h1 := h s (List.mem_cons_self ..)
    have h2 := allF_ok a r fun x hx => h x (List.mem_cons_of_mem _ hx)
    unfold allF
    rw [h1, h2]
    simp
theorem allF_bad (a : Al) : ∀ (l : List ByteArray) (k : Nat) (hk : k < l.length), AllTo a l k → (lettersS a l[k]).2 ≠ 0 → allF a l = ([], (lettersS a l[k]).2)
  | [], k, hk, _, _ => by simp at hk
  | s :: r, 0, hk, _, h => by
    have h : (lettersS a s).2 ≠ 0 := h
    unfold allF
    rw [if_pos h]
    rfl
  | s :: r, k + 1, hk, ht, h => by
    have h1 : (lettersS a s).2 = 0 := ht 0 (by simp) (by omega)
    have h2 := allF_bad a r k (by simpa using hk) (fun i hi hik => by
      have := ht (i + 1) (by simpa using hi) (by omega)
      simpa using this) (by simpa using h)
    unfold allF
    simp only [List.getElem_cons_succ] at h ⊢
    rw [h1, h2, if_neg (by simp), if_pos h]
/-- Rows of letters, by their slices. -/
def RowsAt (w : World) (base : Nat) (vs : List Value) (ls : List (List Int)) : Prop :=
  vs.length = ls.length ∧ ∀ (i : Nat) (h : i < ls.length), ∃ A c, vs[i]? = some (.slice A ls[i].length c) ∧ w.ownsRow base 21 1 (.slice A ls[i].length c) ls[i].length (runeVs ls[i])
theorem RowsAt.same {w w' : World} {base : Nat} {vs : List Value} {ls : List (List Int)} (h : RowsAt w base vs ls) (hb : ∀ (i : Nat) (v : Value) (g : Nat), vs[i]? = some v → v.ownBlock = some g → w'.heap[g]? = w.heap[g]?) : RowsAt w' base vs ls := by
  refine ⟨h.1, fun i hi => ?_⟩
  obtain ⟨A, c, e, ho⟩ := h.2 i hi
  exact ⟨A, c, e, own_same ho fun g hg => hb i _ g e hg⟩
theorem RowsAt.below {w w' : World} {base : Nat} {vs : List Value} {ls : List (List Int)} (h : RowsAt w base vs ls) (hb : Below w.heap.size w w') : RowsAt w' base vs ls := by
  refine ⟨h.1, fun i hi => ?_⟩
  obtain ⟨A, c, e, ho⟩ := h.2 i hi
  exact ⟨A, c, e, own_below ho hb⟩
theorem RowsAt.nil (w : World) (base : Nat) : RowsAt w base [] [] := ⟨rfl, fun i h => by simp at h⟩
theorem RowsAt.snoc {w : World} {base c : Nat} {vs : List Value} {ls : List (List Int)} {A : Option Addr} {l : List Int} (h : RowsAt w base vs ls) (ho : w.ownsRow base 21 1 (.slice A l.length c) l.length (runeVs l)) : RowsAt w base (vs ++ [.slice A l.length c]) (ls ++ [l]) := by
  refine ⟨by simp [h.1], fun i hi => ?_⟩
  by_cases hlt : i < ls.length
  · obtain ⟨B, d, e, hr⟩ := h.2 i hlt
    refine ⟨B, d, ?_, ?_⟩
    · rw [List.getElem?_append_left (by rw [h.1]; exact hlt), List.getElem_append_left hlt]
      exact e
    · rw [List.getElem_append_left hlt]
      exact hr
  · have hi' : i = ls.length := by simp at hi; omega
    subst hi'
    refine ⟨A, c, ?_, ?_⟩
    · rw [List.getElem?_append_right (by rw [h.1]; exact Nat.le_refl _), h.1]
      simp
    · simpa using ho
theorem RowsAt.low {w : World} {lo base : Nat} {vs : List Value} {ls : List (List Int)} (h : RowsAt w base vs ls) (hl : lo ≤ base) : RowsAt w lo vs ls := by
  refine ⟨h.1, fun i hi => ?_⟩
  obtain ⟨A, c, e, ho⟩ := h.2 i hi
  exact ⟨A, c, e, own_low ho hl⟩
end Go.Proofs.YtimhlnndobfehaaDoor
namespace Go.Proofs.YtimhlnndobfehaaDoor
open Go.RowKit
open Go.Lib (Utf8Tabs)
set_option linter.unusedVariables false

theorem runes_info : (Tryd.prog.info? 107).map (fun i => (i.zero, i.size, i.bytes)) = some (some (.slice none 0 0), 1, 24) := by kernel_rfl
def AllOut (a : Al) (r : List (List Int) × Int) (W : World) (e : Ending) (w' : World) : Prop :=
  ∃ mv v vs, e = .returned (.tuple #[.map mv, v, .int .i64 r.2]) ∧ w'.ownsRow W.heap.size 107 1 v r.1.length vs ∧ RowsAt w' W.heap.size vs r.1 ∧
    (r.2 = 0 → (∃ bm n, mv = some bm ∧ W.heap.size ≤ bm ∧ MapI Tryd.prog 21 3 .i64 w' bm n (rankF a.lets a.lets.length)) ∧ ∃ g c, v = .slice (some ⟨g, 0, none⟩) r.1.length c) ∧ Below W.heap.size W w'
theorem AllOut.no {a : Al} {r : List (List Int) × Int} {E : Int} {W w' : World} (h : r = ([], E)) (hE : E ≠ 0) (hb : Below W.heap.size W w') : AllOut a r W (.returned (.tuple #[.map none, .slice none 0 0, .int .i64 E])) w' := by
  subst h
  exact ⟨none, .slice none 0 0, [], rfl, World.ownsRow_nil _ _ _ _, RowsAt.nil _ _, fun h => absurd h hE, hb⟩
def AllSt (a : Al) (l : List ByteArray) (W : World) (g bm n : Nat) (e i : Value) (wr : World) : Prop :=
  ∃ (k : Nat) (vs rest : List Value), e = .int .i64 0 ∧ i = .int .i64 (k : Int) ∧ k ≤ l.length ∧ AllTo a l k ∧ wr.ownsRow W.heap.size 107 1 (.slice (some ⟨g, 0, none⟩) l.length l.length) l.length (vs ++ rest) ∧ vs.length + rest.length = l.length ∧ RowsAt wr W.heap.size vs ((l.take k).map fun s => (lettersS a s).1) ∧
    MapI Tryd.prog 21 3 .i64 wr bm n (rankF a.lets a.lets.length) ∧ Below W.heap.size W wr

end Go.Proofs.YtimhlnndobfehaaDoor
namespace Go.Proofs.YtimhlnndobfehaaDoor
open Go.RowKit
open Go.Lib (Utf8Tabs)
set_option linter.unusedVariables false

def joinW (a : Al) (l : List ByteArray) : ByteArray × Int := if (allS a l).2 ≠ 0 then (⟨#[]⟩, (allS a l).2) else if 256 < (allS a l).1.flatten.length then (⟨#[]⟩, 9) else (encR (allS a l).1.flatten, 0)
theorem allF_len (a : Al) : ∀ l : List ByteArray, ∀ x ∈ (allF a l).1, x.length ≤ 64
  | [], x, hx => by simp [allF] at hx
  | s :: r, x, hx => by
    unfold allF at hx
    split at hx
    · simp at hx
    · split at hx
      · simp at hx
      · rcases List.mem_cons.1 hx with rfl | hx
        · exact letters_len a s
        · exact allF_len a r x hx
theorem allS_len (a : Al) (l : List ByteArray) : ∀ x ∈ (allS a l).1, x.length ≤ 64 := by
  unfold allS
  split
  · intro x hx; simp at hx
  · split
    · intro x hx; simp at hx
    · exact allF_len a l
theorem flatten_take {ls : List (List Int)} {k : Nat} (h : k < ls.length) : (ls.take (k + 1)).flatten = (ls.take k).flatten ++ ls[k] := by
  rw [List.take_succ_eq_append_getElem h, List.flatten_append]
  simp
theorem flatten_le (ls : List (List Int)) (k : Nat) : (ls.take k).flatten.length ≤ ls.flatten.length := by
  conv => rhs; rw [← List.take_append_drop k ls]
  rw [List.flatten_append, List.length_append]
  omega
def JoinSt (ls : List (List Int)) (W : World) (v i : Value) (wr : World) : Prop :=
  ∃ (k : Nat) (acc : List Int) (A : Option Addr) (c : Nat), v = .slice A acc.length c ∧ i = .int .i64 (k : Int) ∧ k ≤ ls.length ∧ acc.length ≤ 256 ∧ Hid (acc = (ls.take k).flatten) ∧ wr.ownsRow W.heap.size 21 1 (.slice A acc.length c) acc.length (runeVs acc) ∧ Below W.heap.size W wr

end Go.Proofs.YtimhlnndobfehaaDoor
namespace Go.Proofs.YtimhlnndobfehaaDoor
open Go.RowKit
set_option linter.unusedVariables false

theorem encB_len (l : List Int) : (encB l).length ≤ 4 * l.length := by
  induction l with
  | nil => simp [encB]
  | cons x l ih =>
    have he : encB (x :: l) = Lib.encodeRune x ++ encB l := by unfold encB; rfl
    have hx : (Lib.encodeRune x).length ≤ 4 := by unfold Lib.encodeRune; rw [List.length_map]; exact (Lib.encodeRuneZ_length _).2
    rw [he, List.length_append, List.length_cons]
    omega
theorem encR_size (l : List Int) : (encR l).size ≤ 4 * l.length := by
  have h := encR_enc l
  have e : (encR l).size = (encR l).data.toList.length := by simp
  rw [e, h]
  exact encB_len l
theorem encR_max {l : List Int} (h : l.length ≤ 256) : (encR l).size ≤ maxLen := by
  have := encR_size l
  unfold maxLen
  omega
section
variable {a : Al} {l m : List Int}
def Lets (a : Al) (l : List Int) : Prop := (∀ x ∈ l, isLet a x = true) ∧ l.length ≤ 64
theorem Lets.take (h : Lets a l) (n : Nat) : Lets a (l.take n) := ⟨fun x hx => h.1 x (List.mem_of_mem_take hx), by have := h.2; rw [List.length_take]; omega⟩
theorem Lets.drop (h : Lets a l) (n : Nat) : Lets a (l.drop n) := ⟨fun x hx => h.1 x (List.mem_of_mem_drop hx), by have := h.2; rw [List.length_drop]; omega⟩
theorem Lets.reverse (h : Lets a l) : Lets a l.reverse := ⟨fun x hx => h.1 x (List.mem_reverse.1 hx), by have := h.2; rw [List.length_reverse]; omega⟩
theorem Lets.append (h : Lets a l) (k : Lets a m) (hn : l.length + m.length ≤ 64) : Lets a (l ++ m) := ⟨fun x hx => (List.mem_append.1 hx).elim (h.1 x) (k.1 x), by rw [List.length_append]; exact hn⟩
theorem Lets.back (hok : alOk a = true) (h : Lets a l) : lettersS a (encR l) = (l, 0) := letters_back hok l h.1 h.2
theorem Lets.turned (hok : alOk a = true) (h : Lets a l) : turnedS a (encR l) = (encR l.reverse, 0) := by
  unfold turnedS
  rw [h.back hok]
  rfl
theorem Lets.text (hok : alOk a = true) (h : Lets a l) : textS a l = (encR l, 0) := by
  unfold textS
  rw [if_neg (by rw [hok]; simp), if_neg (by have := h.2; omega), if_pos (List.all_eq_true.2 h.1)]
theorem Lets.common (hok : alOk a = true) (h : Lets a l) (k : Lets a m) : commonS a (encR l) (encR m) = (commonN l m, 0) := by
  unfold commonS bothS
  rw [h.back hok, k.back hok]
  simp
theorem Lets.part (hok : alOk a = true) (h : Lets a l) (f t : Nat) (h1 : f ≤ t) (h2 : t ≤ l.length) : partW a (encR l) (f : Int) (t : Int) = (encR ((l.drop f).take (t - f)), 0) := by
  unfold partW
  rw [h.back hok, if_neg (by simp), if_neg (by simp only; omega)]
  simp
theorem Lets.join (hok : alOk a = true) (h : Lets a l) (k : Lets a m) : joinW a [encR l, encR m] = (encR (l ++ m), 0) := by
  have e : allS a [encR l, encR m] = ([l, m], 0) := by
    unfold allS
    rw [if_neg (by rw [hok]; simp), if_neg (by simp), allF_ok a _ (by
      intro s hs
      simp only [List.mem_cons, List.not_mem_nil, or_false] at hs
      rcases hs with rfl | rfl
      · rw [h.back hok]
      · rw [k.back hok])]
    simp only [List.map_cons, List.map_nil]
    rw [h.back hok, k.back hok]
  unfold joinW
  rw [e, if_neg (by simp), if_neg (by simp; have := h.2; have := k.2; omega)]
  simp
end
/-- A word that may be: its letters. -/
theorem word_is {a : Al} {s : ByteArray} (h : (lettersS a s).2 = 0) : alOk a = true ∧ Lets a (lettersS a s).1 ∧ s = encR (lettersS a s).1 := by
  refine ⟨?_, ⟨fun x hx => (letters_isLet x hx).2, letters_len a s⟩, (text_back h).symm⟩
  cases hok : alOk a with
  | true => rfl
  | false =>
    unfold lettersS at h
    rw [hok] at h
    simp at h
theorem lets_kin {a : Al} (hok : alOk a = true) {l : List Int} (h : Lets a l) : ∀ x ∈ l, kin .i32 x := by
  intro x hx
  have := isLet_ok hok (h.1 x hx)
  unfold letterOk at this
  have := of_decide_eq_true this
  simp [kin, Lit.wf, IntKind.min, IntKind.max, IntKind.signed, IntKind.bits]
  omega
/-- Letters that a call owns, as a slice of runes. -/
theorem runes_slice {w : World} {base : Nat} {A : Option Addr} {c : Nat} {l : List Int} (h : w.ownsRow base 21 1 (.slice A l.length c) l.length (runeVs l)) (hk : ∀ x ∈ l, kin .i32 x) : Sl 1 (vInt .i32) w base w.heap.size A l := fun hn => by
  obtain ⟨g, c', e, _, _, h1, h2⟩ := own_pos h hn
  injection e with e1 _ e2
  subst e1 e2
  refine ⟨g, 0, rfl, h1, h2, fun i x hx => ⟨[.int .i32 x], rfl, fun j v hj => ?_, rfl, hk x (List.mem_of_getElem? hx)⟩⟩
  match j, hj with
  | 0, hj =>
    simp only [List.getElem?_cons_zero, Option.some.injEq] at hj
    subst hj
    have := own_cel h (j := i) (u := .int .i32 x) (by unfold runeVs; rw [List.getElem?_map, hx]; rfl)
    simpa using this
end Go.Proofs.YtimhlnndobfehaaDoor
namespace Go.Proofs.YtimhlnndobfehaaDoor
open Go.RowKit
set_option linter.unusedVariables false

/-- A word's letters, with their signs. -/
def matL (a : Al) (l : List Int) : List Lt := l.map fun r => (ofS a r).1
theorem matL_len (a : Al) (l : List Int) : (matL a l).length = l.length := by unfold matL; simp
open Classical in
/-- At each rune the last letter of it. -/
noncomputable def byF : List Lt → Lit → Option Value
  | [] => fun _ => none
  | x :: r => fun kl => (byF r kl).orElse fun _ => if kl = .int .i32 x.rune then some (ltV x) else none
theorem byF_snoc (l : List Lt) (x : Lt) : byF (l ++ [x]) = setAt (byF l) (.int .i32 x.rune) (some (ltV x)) := by
  funext kl
  induction l with
  | nil =>
    unfold setAt
    simp only [List.nil_append, byF]
    split <;> simp
  | cons y r ih =>
    simp only [List.cons_append, byF]
    rw [ih]
    unfold setAt
    split
    · simp
    · rfl
theorem byF_key {l : List Lt} {kl : Lit} {v : Value} (h : byF l kl = some v) : ∃ x ∈ l, kl = .int .i32 x.rune := by
  induction l with
  | nil => simp [byF] at h
  | cons y r ih =>
    simp only [byF] at h
    cases hr : byF r kl with
    | some u =>
      obtain ⟨x, hx, e⟩ := ih (by rw [hr] at h; simp at h; rw [hr, h])
      exact ⟨x, by simp [hx], e⟩
    | none =>
      rw [hr] at h
      simp only [Option.orElse_none] at h
      split at h
      · rename_i e
        exact ⟨y, by simp, e⟩
      · cases h
theorem byF_num : ∀ {l : List Lt} {i k : Nat} {r : Int}, l.Pairwise (fun x y => x.rune ≠ y.rune) → numF l i r = some k → ∃ hk : k - i < l.length, i ≤ k ∧ byF l (.int .i32 r) = some (ltV l[k - i])
  | [], i, k, r, _, h => by cases h
  | x :: l, i, k, r, hp, h => by
    obtain ⟨h1, h2⟩ := List.pairwise_cons.1 hp
    unfold numF at h
    by_cases e : x.rune = r
    · rw [if_pos e] at h
      obtain rfl := Option.some.inj h
      refine ⟨by simp, Nat.le_refl _, ?_⟩
      have hn : byF l (.int .i32 r) = none := by
        cases hb : byF l (.int .i32 r) with
        | none => rfl
        | some v =>
          obtain ⟨y, hy, e2⟩ := byF_key hb
          injection e2 with _ e2
          exact absurd (e.trans e2) (h1 y hy)
      simp only [byF, hn, Nat.sub_self, List.getElem_cons_zero, Option.orElse_none]
      rw [if_pos (show Lit.int .i32 r = .int .i32 x.rune by rw [e])]
    · rw [if_neg e] at h
      obtain ⟨hk, hik, hb⟩ := byF_num h2 h
      refine ⟨by simp; omega, by omega, ?_⟩
      simp only [byF, hb, Option.orElse_some]
      have : k - i = (k - (i + 1)) + 1 := by omega
      simp only [this, List.getElem_cons_succ]
/-- The letter of a rune that is one. -/
theorem by_let {a : Al} (hok : alOk a = true) {r : Int} (hr : isLet a r = true) : byF a.lets (.int .i32 r) = some (ltV (ofS a r).1) := by
  unfold isLet at hr
  obtain ⟨k, hk⟩ := Option.isSome_iff_exists.1 hr
  obtain ⟨hlt, _, hb⟩ := byF_num (alOk_distinct hok) hk
  rw [hb]
  have : (ofS a r).1 = a.lets[k] := by
    unfold ofS
    rw [if_neg (by rw [hok]; simp), hk]
    simp only
    rw [List.getD_eq_getElem?_getD, List.getElem?_eq_getElem (by simpa using hlt)]
    rfl
  rw [this]
  rfl
def codeR : Lit → Nat
  | .int _ r => (r + 2147483648).toNat
  | _ => 0
theorem codeR_ok {l : List Lt} (hl : ∀ x ∈ l, -2147483648 ≤ x.rune ∧ x.rune ≤ 2147483647) : (∀ kl v, byF l kl = some v → codeR kl < 4294967296) ∧ ∀ a c u v, byF l a = some u → byF l c = some v → codeR a = codeR c → a = c := by
  constructor
  · intro kl v h
    obtain ⟨x, hx, rfl⟩ := byF_key h
    have := hl x hx
    simp only [codeR]
    omega
  · intro a c u v ha hc e
    obtain ⟨x, hx, rfl⟩ := byF_key ha
    obtain ⟨y, hy, rfl⟩ := byF_key hc
    have := hl x hx
    have := hl y hy
    simp only [codeR] at e
    rw [show x.rune = y.rune by omega]
/-- Letters' cells, one behind the other. -/
def ltVs (l : List Lt) : List Value := l.flatMap fun x => [.int .i32 x.rune, .int .u32 (x.plus : Int), .int .u32 (x.minus : Int)]
theorem ltVs_len (l : List Lt) : (ltVs l).length = l.length * 3 := by
  unfold ltVs
  induction l with
  | nil => rfl
  | cons x r ih => rw [List.flatMap_cons, List.length_append, ih, List.length_cons]; simp; omega
theorem ltVs_snoc (l : List Lt) (x : Lt) : ltVs (l ++ [x]) = ltVs l ++ [.int .i32 x.rune, .int .u32 (x.plus : Int), .int .u32 (x.minus : Int)] := by unfold ltVs; simp
theorem ltVs_fits {w : World} {lo hi : Nat} (l : List Lt) (h : ∀ x ∈ l, LtOk x) : Fits 3 vLt w lo hi (ltVs l) l := by
  have key : ∀ (r acc : List Lt), (∀ x ∈ r, LtOk x) → Fits 3 vLt w lo hi (ltVs acc) acc → Fits 3 vLt w lo hi (ltVs (acc ++ r)) (acc ++ r) := by
    intro r
    induction r with
    | nil => intro acc _ h; simpa using h
    | cons x r ih =>
      intro acc hr ha
      have h1 : Fits 3 vLt w lo hi (ltVs (acc ++ [x])) (acc ++ [x]) := by
        rw [ltVs_snoc]
        obtain ⟨⟨g1, g2⟩, g3, g4⟩ := hr x (by simp)
        exact ha.snoc rfl ⟨rfl, by simp [kin, Lit.wf, IntKind.min, IntKind.max, IntKind.signed, IntKind.bits]; omega, g3, g4⟩
      have := ih (acc ++ [x]) (fun y hy => hr y (by simp [hy])) h1
      simpa using this
  have := key l [] h Fits.nil
  simpa using this
end Go.Proofs.YtimhlnndobfehaaDoor
namespace Go.Proofs.YtimhlnndobfehaaDoor
open Go.RowKit
set_option linter.unusedVariables false

/-- Has a rune's letter a class, and the error. -/
def hasS (a : Al) (r : Int) (p m : Nat) : Bool × Int := if (ofS a r).2 ≠ 0 then (false, (ofS a r).2) else if classOk a.feats.length p m = false then (false, 20) else (likeL (ofS a r).1 p m, 0)
def BoolOut (r : Bool × Int) (W : World) (e : Ending) (w' : World) : Prop := e = .returned (.tuple #[.bool r.1, .int .i64 r.2]) ∧ Below W.heap.size W w'
theorem BoolOut.mk' {r : Bool × Int} {W w' : World} {x : Bool} {E : Int} (h : r = (x, E)) (hb : Below W.heap.size W w') : BoolOut r W (.returned (.tuple #[.bool x, .int .i64 E])) w' := by
  subst h
  exact ⟨rfl, hb⟩
theorem ofS_zero {a : Al} {r : Int} (h : (ofS a r).2 = 0) : alOk a = true ∧ ∃ k, ∃ hk : k < a.lets.length, num a r = some k ∧ (ofS a r).1 = a.lets[k] := by
  unfold ofS at h ⊢
  cases hok : alOk a with
  | false => rw [hok] at h; simp at h
  | true =>
    rw [hok] at h
    simp only [Bool.true_eq_false, if_false] at h ⊢
    cases hn : num a r with
    | none => rw [hn] at h; simp at h
    | some k =>
      have hk := num_lt hn
      exact ⟨trivial, k, hk, rfl, by simp [List.getD, List.getElem?_eq_getElem hk]⟩
theorem ofS_err (a : Al) (r : Int) : (ofS a r).2 = 0 ∨ (ofS a r).2 = 5 ∨ (ofS a r).2 = 7 := by
  unfold ofS
  split
  · exact .inr (.inr rfl)
  · split
    · exact .inr (.inl rfl)
    · exact .inl rfl
theorem ofS_kin (a : Al) (r : Int) {w : World} {lo hi : Nat} {A : Option Addr} (h : Sl 3 vLt w lo hi A a.lets) : LtOk (ofS a r).1 := by
  have hz : LtOk ltZ := ⟨⟨by decide, by decide⟩, by decide, by decide⟩
  unfold ofS
  split
  · exact hz
  · split
    · exact hz
    · rename_i k hk
      have hk := num_lt hk
      simp only [List.getD, List.getElem?_eq_getElem hk, Option.getD_some]
      obtain ⟨_, _, _, _, _, _, _, _, h1⟩ := lt_at h hk
      exact h1
end Go.Proofs.YtimhlnndobfehaaDoor
