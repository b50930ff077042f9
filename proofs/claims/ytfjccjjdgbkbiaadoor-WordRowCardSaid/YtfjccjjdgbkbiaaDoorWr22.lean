/- Letters as bytes, and back. Plain Lean. A text without broken bytes: its pieces' runes are its bytes; parts of it between places of pieces. Plain Lean. A word read and written again. Plain Lean. word.both: the letters of two words. -/
import Derived.Test.YtfjccjjdgbkbiaaDoorWr17
import Derived.Test.YtfjccjjdgbkbiaaDoorWr04
import Derived.Test.YtfjccjjdgbkbiaaDoorWr21
import Derived.Test.YtfjccjjdgbkbiaaDoorWr11
namespace Go.Proofs.YtfjccjjdgbkbiaaDoor
open Go.Lib
set_option linter.unusedVariables false

theorem bt_drop {s : ByteArray} {i k : Nat} {x : UInt8} (h : (s.data.toList.drop i)[k]? = some x) : bt s (i + k) = x.toNat ∧ i + k < s.size := by
  rw [List.getElem?_drop] at h
  obtain ⟨hl, h⟩ := List.getElem?_eq_some_iff.1 h
  have hs : i + k < s.size := by simpa using hl
  refine ⟨?_, hs⟩
  rw [← bt_get s (i + k) hs, ← h]
  rfl
theorem u8n (n : Nat) (h : n < 256) : ((n : Int).toNat.toUInt8).toNat = n := by
  rw [Int.toNat_natCast]
  show (UInt8.ofNat n).toNat = n
  rw [UInt8.toNat_ofNat']
  omega
theorem decodeN_one (n r b1 b2 b3 : Nat) (h : r < 128) : decodeN n r b1 b2 b3 = (r, 1) := by unfold decodeN; rw [if_pos h]
theorem decodeN_two (n r b2 b3 : Nat) (h : 128 ≤ r ∧ r ≤ 2047) (hn : 1 < n) : decodeN n (192 + r / 64) (128 + r % 64) b2 b3 = (r, 2) := by
  unfold decodeN
  rw [if_neg (by omega), if_pos (by omega), if_pos (by omega)]
  congr 1
  omega
theorem decodeN_three (n r b3 : Nat) (h : (2048 ≤ r ∧ r < 55296) ∨ (57343 < r ∧ r ≤ 65535)) (hn : 2 < n) : decodeN n (224 + r / 4096) (128 + r / 64 % 64) (128 + r % 64) b3 = (r, 3) := by
  unfold decodeN
  have e : (224 + r / 4096) % 16 * 4096 + (128 + r / 64 % 64) % 64 * 64 + (128 + r % 64) % 64 = r := by omega
  rw [e, if_neg (by omega), if_neg (by omega), if_pos (by omega), if_pos (by omega)]
theorem decodeN_four (n r : Nat) (h : 65536 ≤ r ∧ r ≤ 1114111) (hn : 3 < n) : decodeN n (240 + r / 262144) (128 + r / 4096 % 64) (128 + r / 64 % 64) (128 + r % 64) = (r, 4) := by
  unfold decodeN
  have e : (240 + r / 262144) % 8 * 262144 + (128 + r / 4096 % 64) % 64 * 4096 + (128 + r / 64 % 64) % 64 * 64 + (128 + r % 64) % 64 = r := by omega
  rw [e, if_neg (by omega), if_neg (by omega), if_neg (by omega), if_pos (by omega), if_pos (by omega)]

theorem decode_back {s : ByteArray} {i : Nat} {rest : List UInt8} (r : Nat) (h : s.data.toList.drop i = encodeRune (r : Int) ++ rest) (hv : r < 55296 ∨ (57343 < r ∧ r ≤ 1114111)) :
    Utf8.decode s i = (r, (encodeRune (r : Int)).length) ∧ i + (encodeRune (r : Int)).length ≤ s.size := by
  rw [decode_bt]
  unfold encodeRune at h ⊢
  rw [List.length_map]
  by_cases h1 : r < 128
  · rw [encodeRuneZ_one (by omega) (by omega)] at h ⊢
    obtain ⟨e0, s0⟩ := bt_drop (s := s) (i := i) (k := 0) (by rw [h]; rfl)
    rw [u8n _ (by omega)] at e0
    simp only [Nat.add_zero] at e0 s0
    rw [e0]
    exact ⟨decodeN_one _ _ _ _ _ h1, by simp only [List.length_cons, List.length_nil]; omega⟩
  · by_cases h2 : r ≤ 2047
    · rw [encodeRuneZ_two (by omega) (by omega)] at h ⊢
      rw [show (192 : Int) + (r : Int) / 64 = ((192 + r / 64 : Nat) : Int) by omega, show (128 : Int) + (r : Int) % 64 = ((128 + r % 64 : Nat) : Int) by omega] at h
      obtain ⟨e0, s0⟩ := bt_drop (s := s) (i := i) (k := 0) (by rw [h]; rfl)
      obtain ⟨e1, s1⟩ := bt_drop (s := s) (i := i) (k := 1) (by rw [h]; rfl)
      rw [u8n _ (by omega)] at e0 e1
      simp only [Nat.add_zero] at e0 s0
      rw [e0, e1]
      exact ⟨decodeN_two _ _ _ _ (by omega) (by omega), by simp only [List.length_cons, List.length_nil]; omega⟩
    · by_cases h3 : r ≤ 65535
      · rw [encodeRuneZ_three (by omega)] at h ⊢
        rw [show (224 : Int) + (r : Int) / 4096 = ((224 + r / 4096 : Nat) : Int) by omega, show (128 : Int) + (r : Int) / 64 % 64 = ((128 + r / 64 % 64 : Nat) : Int) by omega, show (128 : Int) + (r : Int) % 64 = ((128 + r % 64 : Nat) : Int) by omega] at h
        obtain ⟨e0, s0⟩ := bt_drop (s := s) (i := i) (k := 0) (by rw [h]; rfl)
        obtain ⟨e1, s1⟩ := bt_drop (s := s) (i := i) (k := 1) (by rw [h]; rfl)
        obtain ⟨e2, s2⟩ := bt_drop (s := s) (i := i) (k := 2) (by rw [h]; rfl)
        rw [u8n _ (by omega)] at e0 e1 e2
        simp only [Nat.add_zero] at e0 s0
        rw [e0, e1, e2]
        exact ⟨decodeN_three _ _ _ (by omega) (by omega), by simp only [List.length_cons, List.length_nil]; omega⟩
      · rw [encodeRuneZ_four (by omega) (by omega)] at h ⊢
        rw [show (240 : Int) + (r : Int) / 262144 = ((240 + r / 262144 : Nat) : Int) by omega, show (128 : Int) + (r : Int) / 4096 % 64 = ((128 + r / 4096 % 64 : Nat) : Int) by omega, show (128 : Int) + (r : Int) / 64 % 64 = ((128 + r / 64 % 64 : Nat) : Int) by omega, show (128 : Int) + (r : Int) % 64 = ((128 + r % 64 : Nat) : Int) by omega] at h
        obtain ⟨e0, s0⟩ := bt_drop (s := s) (i := i) (k := 0) (by rw [h]; rfl)
        obtain ⟨e1, s1⟩ := bt_drop (s := s) (i := i) (k := 1) (by rw [h]; rfl)
        obtain ⟨e2, s2⟩ := bt_drop (s := s) (i := i) (k := 2) (by rw [h]; rfl)
        obtain ⟨e3, s3⟩ := bt_drop (s := s) (i := i) (k := 3) (by rw [h]; rfl)
        rw [u8n _ (by omega)] at e0 e1 e2 e3
        simp only [Nat.add_zero] at e0 s0
        rw [e0, e1, e2, e3]
        exact ⟨decodeN_four _ _ (by omega) (by omega), by simp only [List.length_cons, List.length_nil]; omega⟩

theorem pcs_back (s : ByteArray) : ∀ (l : List Int) (i : Nat), i ≤ s.size → s.data.toList.drop i = encB l → (∀ x ∈ l, letterOk x = true) → (pcsFrom s i).map (fun p => (p.rune, p.broken)) = l.map (fun x => (x, false))
  | [], i, hi, h, _ => by
    have : s.size ≤ i := by
      have := congrArg List.length h
      simp [encB] at this
      omega
    rw [pcsFrom_end s i this]
    rfl
  | x :: l, i, hi, h, hl => by
    have hx := hl x (List.mem_cons_self ..)
    unfold letterOk at hx
    have hx := of_decide_eq_true hx
    obtain ⟨r, rfl⟩ : ∃ r : Nat, x = (r : Int) := ⟨x.toNat, by omega⟩
    have he : encB ((r : Int) :: l) = encodeRune (r : Int) ++ encB l := by unfold encB; rfl
    rw [he] at h
    obtain ⟨h1, h2⟩ := decode_back r h (by omega)
    have hpos : 1 ≤ (encodeRune (r : Int)).length := by unfold encodeRune; rw [List.length_map]; exact (encodeRuneZ_length _).1
    rw [pcsFrom_step s i (by omega), List.map_cons, List.map_cons, h1]
    have hnext : s.data.toList.drop (i + (encodeRune (r : Int)).length) = encB l := by
      rw [← List.drop_drop, h, List.drop_left]
    rw [pcs_back s l _ h2 hnext fun y hy => hl y (List.mem_cons_of_mem _ hy)]
    congr 1
    unfold pcAt
    rw [h1]
    simp only [Prod.mk.injEq, decide_eq_false_iff_not, true_and]
    omega
theorem encR_enc (l : List Int) : (encR l).data.toList = encB l := by
  have key : ∀ (l : List Int) (t : ByteArray), (l.foldl (fun r n => r ++ Utf8.encode n) t).data.toList = t.data.toList ++ encB l := by
    intro l
    induction l with
    | nil => intro t; simp [encB]
    | cons x l ih =>
      intro t
      rw [List.foldl_cons, ih, ByteArray.data_append, Array.toList_append, encode_list, List.append_assoc]
      rfl
  have := key l ByteArray.empty
  unfold encR
  rw [this]
  rfl
theorem encR_append (l r : List Int) : encR (l ++ r) = encR l ++ encR r := by
  apply ByteArray.ext
  apply Array.toList_inj.1
  rw [ByteArray.data_append, Array.toList_append, encR_enc, encR_enc, encR_enc]
  unfold encB
  rw [List.flatMap_append]
theorem readP_all (isL : Int → Bool) (most : Nat) : ∀ (pl : List Pc) (l acc : List Int), pl.map (fun p => (p.rune, p.broken)) = l.map (fun x => (x, false)) → (∀ x ∈ l, isL x = true) → acc.length + l.length ≤ most → readP isL most pl acc = (acc ++ l, 0)
  | [], l, acc, h, _, _ => by
    have : l = [] := by cases l with | nil => rfl | cons x l => simp at h
    subst this
    rw [List.append_nil]
    rfl
  | p :: pl, [], acc, h, _, _ => by simp at h
  | p :: pl, x :: l, acc, h, hl, hm => by
    simp only [List.map_cons, List.cons.injEq, Prod.mk.injEq] at h
    obtain ⟨⟨h1, h2⟩, h3⟩ := h
    have hx := hl x (List.mem_cons_self ..)
    simp only [List.length_cons] at hm
    unfold readP
    rw [h2, h1, hx, if_neg (by simp), if_neg (by simp), if_neg (by omega), readP_all isL most pl l _ h3 (fun y hy => hl y (List.mem_cons_of_mem _ hy)) (by simp only [List.length_append, List.length_cons, List.length_nil]; omega), List.append_assoc]
    rfl
theorem letsOk_ok (n : Nat) : ∀ (seen : List Int) (l : List Lt), letsOk n seen l = true → ∀ x ∈ l, letterOk x.rune = true
  | _, [], _, x, hx => by simp at hx
  | seen, y :: l, h, x, hx => by
    unfold letsOk at h
    simp only [Bool.and_eq_true] at h
    rcases List.mem_cons.1 hx with rfl | hx
    · exact h.1.1.1
    · exact letsOk_ok n _ l h.2 x hx
theorem isLet_ok {a : Al} (hok : alOk a = true) {x : Int} (h : isLet a x = true) : letterOk x = true := by
  obtain ⟨k, hk, _, e⟩ := isLet_at h
  unfold alOk at hok
  simp only [Bool.and_eq_true] at hok
  rw [← e]
  exact letsOk_ok _ _ _ hok.2 _ (List.getElem_mem hk)
/-- Letters written and read again. -/
theorem letters_back {a : Al} (hok : alOk a = true) (l : List Int) (hl : ∀ x ∈ l, isLet a x = true) (hn : l.length ≤ 64) : lettersS a (encR l) = (l, 0) := by
  unfold lettersS
  rw [if_pos hok]
  unfold readS
  have h := pcs_back (encR l) l 0 (Nat.zero_le _) (by rw [List.drop_zero, encR_enc]) (fun x hx => isLet_ok hok (hl x hx))
  have := readP_all (isLet a) 64 (pcs (encR l)) l [] h hl (by simpa using hn)
  rw [this]
  rfl
end Go.Proofs.YtfjccjjdgbkbiaaDoor
namespace Go.Proofs.YtfjccjjdgbkbiaaDoor
open Go.Lib
set_option linter.unusedVariables false

/-- No piece of it is broken. -/
def Sound (s : ByteArray) : Prop := ∀ p ∈ pcs s, p.broken = false

theorem decodeN_enc (n b0 b1 b2 b3 : Nat) (h0 : b0 < 256) (h1 : b1 < 256) (h2 : b2 < 256) (h3 : b3 < 256) (hb : decodeN n b0 b1 b2 b3 ≠ (65533, 1)) :
    encodeRuneZ ((decodeN n b0 b1 b2 b3).1 : Int) = ([(b0 : Int), b1, b2, b3].take (decodeN n b0 b1 b2 b3).2) := by
  revert hb
  unfold decodeN
  repeat' split
  all_goals intro hb
  all_goals first
    | exact absurd rfl hb
    | (simp only; rw [encodeRuneZ_one (by omega) (by omega)]; rfl)
    | (simp only; rw [encodeRuneZ_two (by omega) (by omega)]; simp only [List.take_succ_cons, List.take_zero]; refine List.cons_eq_cons.2 ⟨by omega, List.cons_eq_cons.2 ⟨by omega, rfl⟩⟩)
    | (simp only; rw [encodeRuneZ_three (by omega)]; simp only [List.take_succ_cons, List.take_zero]; refine List.cons_eq_cons.2 ⟨by omega, List.cons_eq_cons.2 ⟨by omega, List.cons_eq_cons.2 ⟨by omega, rfl⟩⟩⟩)
    | (simp only; rw [encodeRuneZ_four (by omega) (by omega)]; simp only [List.take_succ_cons, List.take_zero]; refine List.cons_eq_cons.2 ⟨by omega, List.cons_eq_cons.2 ⟨by omega, List.cons_eq_cons.2 ⟨by omega, List.cons_eq_cons.2 ⟨by omega, rfl⟩⟩⟩⟩)
/-- A byte of a sound piece of more than one byte is no ASCII byte. -/
theorem decodeN_high (n b0 b1 b2 b3 : Nat) (hb : decodeN n b0 b1 b2 b3 ≠ (65533, 1)) : 1 < (decodeN n b0 b1 b2 b3).2 → 128 ≤ b0 ∧ (1 < (decodeN n b0 b1 b2 b3).2 → 128 ≤ b1) ∧ (2 < (decodeN n b0 b1 b2 b3).2 → 128 ≤ b2) ∧ (3 < (decodeN n b0 b1 b2 b3).2 → 128 ≤ b3) := by
  revert hb
  unfold decodeN
  repeat' split
  all_goals intro hb
  all_goals simp only
  all_goals omega

def SoundFrom (s : ByteArray) (i : Nat) : Prop := ∀ p ∈ pcsFrom s i, p.broken = false
theorem SoundFrom.head {s : ByteArray} {i : Nat} (h : SoundFrom s i) (hi : i < s.size) : Utf8.decode s i ≠ (65533, 1) := fun e => by
  have := h (pcAt s i) (by rw [pcsFrom_step s i hi]; exact List.mem_cons_self ..)
  unfold pcAt at this
  rw [e] at this
  simp at this
theorem SoundFrom.next {s : ByteArray} {i : Nat} (h : SoundFrom s i) (hi : i < s.size) : SoundFrom s (i + (Utf8.decode s i).2) := fun p hp => h p (by rw [pcsFrom_step s i hi]; exact List.mem_cons_of_mem _ hp)
theorem SoundFrom.place {s : ByteArray} {i : Nat} (h : SoundFrom s i) (k : Nat) : SoundFrom s (placeOf s i k) := fun p hp => by
  rw [← pcsFrom_drop] at hp
  exact h p (List.mem_of_mem_drop hp)

theorem ext_step (s : ByteArray) (i b : Nat) (hi : i < b) (hb : b ≤ s.size) : (s.extract i b).data.toList = s.get! i :: (s.extract (i + 1) b).data.toList := by
  rw [ext_list, ext_list]
  have hl : i < (s.data.toList.take b).length := by simp; omega
  rw [List.drop_eq_getElem_cons hl]
  congr 1
  rw [List.getElem_take]
  have := get_at s i (by omega)
  rw [Nat.add_zero] at this
  rw [this]
  simp
  rfl
theorem ext_none (s : ByteArray) (i : Nat) : (s.extract i i).data.toList = [] := by
  rw [ext_list]
  exact List.drop_eq_nil_of_le (by simp; omega)
theorem bytes_of (s : ByteArray) (i w : Nat) (hw : 1 ≤ w ∧ w ≤ 4) (hs : i + w ≤ s.size) : ((([(bt s i : Int), bt s (i + 1), bt s (i + 2), bt s (i + 3)].take w)).map fun x => x.toNat.toUInt8) = (s.extract i (i + w)).data.toList := by
  have e : ∀ k, ((bt s k : Int)).toNat.toUInt8 = s.get! k := fun k => by
    rw [Int.toNat_natCast]
    unfold bt
    simp
  have hq : w = 1 ∨ w = 2 ∨ w = 3 ∨ w = 4 := by omega
  rcases hq with rfl | rfl | rfl | rfl
  · rw [ext_step s i _ (by omega) hs, ext_none]
    simp only [List.take_succ_cons, List.take_zero, List.map_cons, List.map_nil, e]
  · rw [ext_step s i _ (by omega) hs, ext_step s (i + 1) _ (by omega) hs, ext_none]
    simp only [List.take_succ_cons, List.take_zero, List.map_cons, List.map_nil, e]
  · rw [ext_step s i _ (by omega) hs, ext_step s (i + 1) _ (by omega) hs, ext_step s (i + 1 + 1) _ (by omega) hs, ext_none]
    simp only [List.take_succ_cons, List.take_zero, List.map_cons, List.map_nil, e]
  · rw [ext_step s i _ (by omega) hs, ext_step s (i + 1) _ (by omega) hs, ext_step s (i + 1 + 1) _ (by omega) hs, ext_step s (i + 1 + 1 + 1) _ (by omega) hs, ext_none]
    simp only [List.take_succ_cons, List.take_zero, List.map_cons, List.map_nil, e]
theorem ba_ext {a b : ByteArray} (h : a.data.toList = b.data.toList) : a = b := by
  cases a
  cases b
  simp only at h
  rw [Array.toList_inj] at h
  rw [h]
theorem encode_sound (s : ByteArray) (i : Nat) (hi : i < s.size) (h : Utf8.decode s i ≠ (65533, 1)) : Utf8.encode ((Utf8.decode s i).1 : Int) = s.extract i (i + (Utf8.decode s i).2) := by
  have hw := decode_width s i hi
  apply ba_ext
  rw [encode_list, ← bytes_of s i _ ⟨hw.1, hw.2.2⟩ hw.2.1]
  unfold encodeRune
  congr 1
  rw [decode_bt] at h ⊢
  exact decodeN_enc _ _ _ _ _ (bt_lt _ _) (bt_lt _ _) (bt_lt _ _) (bt_lt _ _) h
theorem ext_join (s : ByteArray) (a b c : Nat) (h1 : a ≤ b) (h2 : b ≤ c) (h3 : c ≤ s.size) : s.extract a b ++ s.extract b c = s.extract a c := by
  apply ba_ext
  rw [ByteArray.data_append, Array.toList_append, ext_list, ext_list, ext_list]
  have e : (s.data.toList.take c).drop a = ((s.data.toList.take c).take b).drop a ++ ((s.data.toList.take c).drop b) := by
    conv => lhs; rw [← List.take_append_drop b (s.data.toList.take c)]
    rw [List.drop_append_of_le_length (by simp; omega)]
  rw [e, List.take_take, Nat.min_eq_left h2]
theorem enc_take {s : ByteArray} : ∀ (k i : Nat), i ≤ s.size → SoundFrom s i → enc ((pcsFrom s i).take k) = s.extract i (placeOf s i k)
  | 0, i, hi, h => by
    rw [placeOf_zero]
    apply ba_ext
    rw [ext_none]
    rfl
  | k + 1, i, hi, h => by
    by_cases hlt : i < s.size
    · have hw := decode_width s i hlt
      have hp := placeOf_le s k (i + (Utf8.decode s i).2) (by omega)
      rw [pcsFrom_step s i hlt, List.take_succ_cons, enc_cons, enc_take k _ (by omega) (h.next hlt), placeOf_succ s i k hlt]
      rw [show (pcAt s i).rune = ((Utf8.decode s i).1 : Int) from rfl, encode_sound s i hlt (h.head hlt)]
      exact ext_join s _ _ _ (by omega) (by omega) (by omega)
    · rw [placeOf_end s i _ (by omega), pcsFrom_end s i (by omega)]
      apply ba_ext
      rw [ext_none]
      rfl
theorem enc_drop {s : ByteArray} (k : Nat) (h : SoundFrom s 0) : enc ((pcs s).drop k) = s.extract (placeOf s 0 k) s.size := by
  have hp := placeOf_le s k 0 (by omega)
  have h1 := enc_take (s := s) (pcsFrom s (placeOf s 0 k)).length (placeOf s 0 k) hp.2 (h.place k)
  rw [List.take_length, placeOf_all s _ hp.2, ← pcsFrom_drop] at h1
  exact h1
/-- An ASCII byte is a piece of its own. -/
theorem ascii_place {s : ByteArray} {j : Nat} (hj : j < s.size) (hb : bt s j < 128) : ∀ (f i : Nat), j - i ≤ f → i ≤ j → SoundFrom s i → ∃ k, placeOf s i k = j ∧ placeOf s i (k + 1) = j + 1
  | f, i, hf, hi, h => by
    have hlt : i < s.size := by omega
    have hw := decode_width s i hlt
    by_cases he : i = j
    · subst he
      refine ⟨0, rfl, ?_⟩
      have e : Utf8.decode s i = (bt s i, 1) := by
        rw [decode_bt]
        unfold decodeN
        rw [if_pos hb]
      rw [placeOf_succ s i 0 hlt, e, placeOf_zero]
    · have hge : i + (Utf8.decode s i).2 ≤ j := by
        apply Nat.le_of_not_lt
        intro hlt2
        have hh := h.head hlt
        rw [decode_bt] at hh hlt2 hw
        have := decodeN_high _ _ _ _ _ hh (by omega)
        have hq : j = i + 1 ∨ j = i + 2 ∨ j = i + 3 := by omega
        rcases hq with rfl | rfl | rfl <;> omega
      match f, hf with
      | 0, hf => omega
      | f + 1, hf =>
        obtain ⟨k, h1, h2⟩ := ascii_place hj hb f (i + (Utf8.decode s i).2) (by omega) hge (h.next hlt)
        exact ⟨k + 1, by rw [placeOf_succ s i k hlt, h1], by rw [placeOf_succ s i _ hlt, h2]⟩
/-- A part of a sound text between places of pieces is sound. -/
theorem sound_part {s : ByteArray} (a k : Nat) (ha : a ≤ s.size) (h : SoundFrom s a) : SoundFrom (s.extract a (placeOf s a k)) 0 := by
  have h1 := pcs_part s k a 0 (by omega)
  rw [Nat.add_zero] at h1
  intro p hp
  have hm : (p.rune, p.len) ∈ ((pcsFrom s a).take k).map (fun p => (p.rune, p.len)) := by
    rw [← h1]
    exact List.mem_map.2 ⟨p, hp, rfl⟩
  obtain ⟨q, hq, e⟩ := List.mem_map.1 hm
  have hbr : ∀ (t : ByteArray) (i : Nat) (x : Pc), x ∈ pcsFrom t i → x.broken = decide (x.rune = 65533 ∧ x.len = 1) := by
    intro t i x hx
    obtain ⟨k, hk, rfl⟩ := List.getElem_of_mem hx
    obtain ⟨e, _⟩ := pcs_at t i k hk
    rw [e]
    unfold pcAt
    simp only
    rw [Bool.eq_iff_iff, decide_eq_true_eq, decide_eq_true_eq]
    omega
  have e1 := hbr _ _ p hp
  have e2 := hbr _ _ q (List.mem_of_mem_take hq)
  have e3 := h q (List.mem_of_mem_take hq)
  injection e with e4 e5
  rw [e1, ← e4, ← e5, ← e2, e3]
end Go.Proofs.YtfjccjjdgbkbiaaDoor
namespace Go.Proofs.YtfjccjjdgbkbiaaDoor
open Go.Lib
set_option linter.unusedVariables false

theorem readP_was (isL : Int → Bool) (most : Nat) : ∀ (pl : List Pc) (acc : List Int), (readP isL most pl acc).2 = 0 → (readP isL most pl acc).1 = acc ++ pl.map (·.rune) ∧ ∀ q ∈ pl, q.broken = false
  | [], acc, _ => by simp [readP]
  | p :: pl, acc, h => by
    unfold readP at h ⊢
    split at h
    · simp at h
    · rename_i h1
      rw [if_neg h1]
      split at h
      · simp at h
      · rename_i h2
        rw [if_neg h2]
        split at h
        · simp at h
        · rename_i h3
          rw [if_neg h3]
          obtain ⟨e1, e2⟩ := readP_was isL most pl _ h
          refine ⟨by rw [e1, List.map_cons, List.append_assoc]; rfl, fun q hq => ?_⟩
          rcases List.mem_cons.1 hq with rfl | hq
          · simpa using h1
          · exact e2 q hq
/-- A word's letters, written, are the word. -/
theorem text_back {a : Al} {s : ByteArray} (h : (lettersS a s).2 = 0) : encR (lettersS a s).1 = s := by
  unfold lettersS at h ⊢
  by_cases hok : alOk a = true
  · rw [if_pos hok] at h ⊢
    unfold readS at h ⊢
    obtain ⟨e1, e2⟩ := readP_was (isLet a) 64 (pcs s) [] h
    rw [e1, List.nil_append]
    have h1 := enc_take (s := s) (pcs s).length 0 (Nat.zero_le _) e2
    rw [show placeOf s 0 (pcs s).length = s.size from placeOf_all s 0 (Nat.zero_le _)] at h1
    have h2 : enc (pcs s) = s := by
      have e3 : (pcsFrom s 0).take (pcs s).length = pcs s := List.take_length
      rw [e3] at h1
      rw [h1]
      apply ba_ext
      rw [ext_list, List.drop_zero]
      exact List.take_of_length_le (by simp)
    apply ba_ext
    rw [encR_enc, ← enc_list, h2]
  · rw [if_neg hok] at h
    simp at h
end Go.Proofs.YtfjccjjdgbkbiaaDoor
namespace Go.Proofs.YtfjccjjdgbkbiaaDoor
open Go.RowKit
open Go.Lib (Utf8Tabs)
set_option linter.unusedVariables false

theorem results_tmp4 {fn : Func} {t u v x : Tmp} (h : fn.results = #[.tmp t, .tmp u, .tmp v, .tmp x]) (tmps : Array Value) (P : Program) (w : World) :
    (results fn tmps).run P w = .ok (.tuple #[tmps.getD t undef, tmps.getD u undef, tmps.getD v undef, tmps.getD x undef]) w := by
  simp [results, h]
/-- The letters of two words, and the error. -/
def bothS (a : Al) (x y : ByteArray) : List Int × List Int × Int := if (lettersS a x).2 ≠ 0 then ([], [], (lettersS a x).2) else if (lettersS a y).2 ≠ 0 then ([], [], (lettersS a y).2) else ((lettersS a x).1, (lettersS a y).1, 0)
def BothOut (a : Al) (r : List Int × List Int × Int) (W : World) (e : Ending) (w' : World) : Prop :=
  ∃ mv A c B d, e = .returned (.tuple #[mv, .slice A r.1.length c, .slice B r.2.1.length d, .int .i64 r.2.2]) ∧ w'.ownsRow W.heap.size 21 1 (.slice A r.1.length c) r.1.length (runeVs r.1) ∧ w'.ownsRow W.heap.size 21 1 (.slice B r.2.1.length d) r.2.1.length (runeVs r.2.1) ∧
    (r.2.2 = 0 → ∃ bm n, mv = .map (some bm) ∧ W.heap.size ≤ bm ∧ MapI Tryd.prog 21 3 .i64 w' bm n (rankF a.lets a.lets.length)) ∧ Below W.heap.size W w'
theorem BothOut.no {a : Al} {r : List Int × List Int × Int} {E : Int} {W w' : World} (h : r = ([], [], E)) (hE : E ≠ 0) (hb : Below W.heap.size W w') : BothOut a r W (.returned (.tuple #[.map none, .slice none 0 0, .slice none 0 0, .int .i64 E])) w' := by
  subst h
  exact ⟨.map none, none, 0, none, 0, rfl, World.ownsRow_nil _ _ _ _, World.ownsRow_nil _ _ _ _, fun h => absurd h hE, hb⟩

set_option maxHeartbeats 4000000 in
theorem both_any (A1 A2 : Option Addr) (c1 c2 lo : Nat) (a : Al) (x y : ByteArray) (w : World) (hin : AlIn w lo w.heap.size A1 A2 a) (hT : Utf8Tabs 0 1 w) (hx : x.size ≤ maxLen) (hy : y.size ≤ maxLen) :
    Calls Tryd.prog 52 #[.agg #[.slice A1 a.feats.length c1, .slice A2 a.lets.length c2], .string x, .string y] w (BothOut a (bothS a x y) w) := by
  have hal : Below w.heap.size w (w.alloc (.cells #[.slice A1 a.feats.length c1, .slice A2 a.lets.length c2] 25)) := (Below.refl _ _).alloc (Nat.le_refl _) _
  have hcall := Lib.hid (ranks_any A1 A2 c1 c2 lo a _ (hin.on hal))
  have HL : Hid (bothS a x y = if (lettersS a x).2 ≠ 0 then ([], [], (lettersS a x).2) else if (lettersS a y).2 ≠ 0 then ([], [], (lettersS a y).2) else ((lettersS a x).1, (lettersS a y).1, 0)) := rfl
  have HX : Hid (lettersS a x = if alOk a = true then readS a x else ([], 7)) := rfl
  have HY : Hid (lettersS a y = if alOk a = true then readS a y else ([], 7)) := rfl
  have hex := letters_err a x
  have hey := letters_err a y
  go_enter Tryd.func52, Tryd.ntmps52
  go_wp2_with fail
  refine hcall.out.mono ?_
  rintro e w1 (⟨hok, rfl, hb1⟩ | ⟨hok, bm, n, rfl, hmap, hbm, hb1⟩)
  · have e7 : lettersS a x = ([], 7) := by rw [HX.out, hok]; rfl
    have hfin := BothOut.no (a := a) (r := bothS a x y) (E := 7) (by rw [HL.out, e7]; rfl) (by decide) (hal.trans (hb1.mono (by simp)))
    have HF := Lib.hid hfin
    clear hfin hcall hok hex hey e7
    go_wp2_with fail
    (try simp only [Exit.inBlock, Exit.then])
    refine bodyPost_ret (results_tmp4 rfl _ _ _) rfl ?_
    exact HF.out
  · have hbw := hal.trans (hb1.mono (by simp))
    have hz1 := hbw.size
    have hr1 := Lib.hid (read_any x bm n _ a w1 hmap (rank_let hok) (Utf8Tabs_below hT hbw) hx)
    have HR2 := Lib.hid (fun (w2 : World) (hb2 : Below w1.heap.size w1 w2) => read_any y bm n _ a w2 (hmap.below hb2 hmap.lt) (rank_let hok) (Utf8Tabs_below hT (hbw.trans (hb2.mono hz1))) hy)
    have HM := Lib.hid (fun (w2 : World) (hb2 : Below w1.heap.size w1 w2) => hmap.below hb2 hmap.lt)
    have HEX : Hid (lettersS a x = readS a x) := by show _ = _; rw [HX.out, if_pos hok]
    have HEY : Hid (lettersS a y = readS a y) := by show _ = _; rw [HY.out, if_pos hok]
    rw [HEX.out] at hex HL
    rw [HEY.out] at hey HL
    have hbmw : w.heap.size ≤ bm := by simp at hbm; omega
    clear hcall hok hmap HX HY HEX HEY
    generalize readS a x = R at *
    generalize readS a y = S at *
    generalize bothS a x y = BS at *
    obtain ⟨l, E⟩ := R
    obtain ⟨k, F⟩ := S
    simp only at hex hey HL
    go_wp2_with fail
    refine hr1.out.mono ?_
    rintro e w2 ⟨A, c, rfl, hown, hb2⟩
    have hbw2 := hbw.trans (hb2.mono hz1)
    rcases hex with h0 | ⟨h1, h2, h3⟩
    · subst h0
      have hr2 := Lib.hid (HR2.out w2 hb2)
      clear hr1 HR2
      go_wp2_with fail
      refine hr2.out.mono ?_
      rintro e w3 ⟨B, d, rfl, hown3, hb3⟩
      have hbw3 := hbw2.trans (hb3.mono hbw2.size)
      rcases hey with h0 | ⟨h1, h2, h3⟩
      · subst h0
        have hfin : BothOut a BS w (.returned (.tuple #[.map (some bm), .slice A l.length c, .slice B k.length d, .int .i64 0])) w3 := by
          rw [show BS = (l, k, 0) by rw [HL.out]; simp]
          exact ⟨_, A, c, B, d, rfl, own_low (own_below hown hb3) hz1, own_low hown3 hbw2.size, fun _ => ⟨bm, n, rfl, hbmw, HM.out _ (hb2.trans (hb3.mono hb2.size))⟩, hbw3⟩
        have HF := Lib.hid hfin
        clear hfin hown hown3 hr2
        go_wp2_with fail
        (try simp only [Exit.inBlock, Exit.then])
        refine bodyPost_ret (results_tmp4 rfl _ _ _) rfl ?_
        exact HF.out
      · subst h3
        have hne : (F != 0) = true := by rw [bne_iff_ne]; omega
        have hfin := BothOut.no (a := a) (r := BS) (E := F) (by rw [HL.out, if_neg (by simp), if_pos (by omega)]) (by omega) hbw3
        have HF := Lib.hid hfin
        clear hfin hown hown3 hr2
        go_wp2_with fail
        (try simp only [Exit.inBlock, Exit.then])
        refine bodyPost_ret (results_tmp4 rfl _ _ _) rfl ?_
        exact HF.out
    · subst h3
      have hne : (E != 0) = true := by rw [bne_iff_ne]; omega
      have hfin := BothOut.no (a := a) (r := BS) (E := E) (by rw [HL.out, if_pos (by omega)]) (by omega) hbw2
      have HF := Lib.hid hfin
      clear hfin hown hr1
      go_wp2_with fail
      (try simp only [Exit.inBlock, Exit.then])
      refine bodyPost_ret (results_tmp4 rfl _ _ _) rfl ?_
      exact HF.out
end Go.Proofs.YtfjccjjdgbkbiaaDoor
