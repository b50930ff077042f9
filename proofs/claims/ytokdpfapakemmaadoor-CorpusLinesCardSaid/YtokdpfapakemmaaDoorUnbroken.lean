/- A text without broken bytes: its pieces' runes are its bytes; parts of it between places of pieces. Plain Lean. -/
import Derived.Test.YtokdpfapakemmaaDoorPiecesSl
import Derived.Test.YtokdpfapakemmaaDoorLineSpec
namespace Go.Proofs.YtokdpfapakemmaaDoor
open Go.Lib
set_option linter.unusedVariables false

/-- No piece of it is broken. -/
def Sound (s : ByteArray) : Prop := ∀ p ∈ pcs s, p.broken = false

theorem decodeN_enc (n b0 b1 b2 b3 : Nat) (h0 : b0 < 256) (h1 : b1 < 256) (h2 : b2 < 256) (h3 : b3 < 256) (hb : decodeN n b0 b1 b2 b3 ≠ (65533, 1)) :
    encodeRuneZ ((decodeN n b0 b1 b2 b3).1 : Int) = ([(b0 : Int), b1, b2, b3].take (decodeN n b0 b1 b2 b3).2) := by
  revert hb
  unfold decodeN
  repeat' split
  all_goals intro hb
  all_goals first
    | exact absurd rfl hb
    | (simp only; rw [encodeRuneZ_one (by omega) (by omega)]; rfl)
    | (simp only; rw [encodeRuneZ_two (by omega) (by omega)]; simp only [List.take_succ_cons, List.take_zero]; refine List.cons_eq_cons.2 ⟨by omega, List.cons_eq_cons.2 ⟨by omega, rfl⟩⟩)
    | (simp only; rw [encodeRuneZ_three (by omega)]; simp only [List.take_succ_cons, List.take_zero]; refine List.cons_eq_cons.2 ⟨by omega, List.cons_eq_cons.2 ⟨by omega, List.cons_eq_cons.2 ⟨by omega, rfl⟩⟩⟩)
    | (simp only; rw [encodeRuneZ_four (by omega) (by omega)]; simp only [List.take_succ_cons, List.take_zero]; refine List.cons_eq_cons.2 ⟨by omega, List.cons_eq_cons.2 ⟨by omega, List.cons_eq_cons.2 ⟨by omega, List.cons_eq_cons.2 ⟨by omega, rfl⟩⟩⟩⟩)
/-- A byte of a sound piece of more than one byte is no ASCII byte. -/
theorem decodeN_high (n b0 b1 b2 b3 : Nat) (hb : decodeN n b0 b1 b2 b3 ≠ (65533, 1)) : 1 < (decodeN n b0 b1 b2 b3).2 → 128 ≤ b0 ∧ (1 < (decodeN n b0 b1 b2 b3).2 → 128 ≤ b1) ∧ (2 < (decodeN n b0 b1 b2 b3).2 → 128 ≤ b2) ∧ (3 < (decodeN n b0 b1 b2 b3).2 → 128 ≤ b3) := by
  revert hb
  unfold decodeN
  repeat' split
  all_goals intro hb
  all_goals simp only
  all_goals omega

def SoundFrom (s : ByteArray) (i : Nat) : Prop := ∀ p ∈ pcsFrom s i, p.broken = false
theorem SoundFrom.head {s : ByteArray} {i : Nat} (h : SoundFrom s i) (hi : i < s.size) : Utf8.decode s i ≠ (65533, 1) := fun e => by
  have := h (pcAt s i) (by rw [pcsFrom_step s i hi]; exact List.mem_cons_self ..)
  unfold pcAt at this
  rw [e] at this
  simp at this
theorem SoundFrom.next {s : ByteArray} {i : Nat} (h : SoundFrom s i) (hi : i < s.size) : SoundFrom s (i + (Utf8.decode s i).2) := fun p hp => h p (by rw [pcsFrom_step s i hi]; exact List.mem_cons_of_mem _ hp)
theorem SoundFrom.place {s : ByteArray} {i : Nat} (h : SoundFrom s i) (k : Nat) : SoundFrom s (placeOf s i k) := fun p hp => by
  rw [← pcsFrom_drop] at hp
  exact h p (List.mem_of_mem_drop hp)

theorem ext_step (s : ByteArray) (i b : Nat) (hi : i < b) (hb : b ≤ s.size) : (s.extract i b).data.toList = s.get! i :: (s.extract (i + 1) b).data.toList := by
  rw [ext_list, ext_list]
  have hl : i < (s.data.toList.take b).length := by simp; omega
  rw [List.drop_eq_getElem_cons hl]
  congr 1
  rw [List.getElem_take]
  have := get_at s i (by omega)
  rw [Nat.add_zero] at this
  rw [this]
  simp
  rfl
theorem ext_none (s : ByteArray) (i : Nat) : (s.extract i i).data.toList = [] := by
  rw [ext_list]
  exact List.drop_eq_nil_of_le (by simp; omega)
theorem bytes_of (s : ByteArray) (i w : Nat) (hw : 1 ≤ w ∧ w ≤ 4) (hs : i + w ≤ s.size) : ((([(bt s i : Int), bt s (i + 1), bt s (i + 2), bt s (i + 3)].take w)).map fun x => x.toNat.toUInt8) = (s.extract i (i + w)).data.toList := by
  have e : ∀ k, ((bt s k : Int)).toNat.toUInt8 = s.get! k := fun k => by
    rw [Int.toNat_natCast]
    unfold bt
    simp
  have hq : w = 1 ∨ w = 2 ∨ w = 3 ∨ w = 4 := by omega
  rcases hq with rfl | rfl | rfl | rfl
  · rw [ext_step s i _ (by omega) hs, ext_none]
    simp only [List.take_succ_cons, List.take_zero, List.map_cons, List.map_nil, e]
  · rw [ext_step s i _ (by omega) hs, ext_step s (i + 1) _ (by omega) hs, ext_none]
    simp only [List.take_succ_cons, List.take_zero, List.map_cons, List.map_nil, e]
  · rw [ext_step s i _ (by omega) hs, ext_step s (i + 1) _ (by omega) hs, ext_step s (i + 1 + 1) _ (by omega) hs, ext_none]
    simp only [List.take_succ_cons, List.take_zero, List.map_cons, List.map_nil, e]
  · rw [ext_step s i _ (by omega) hs, ext_step s (i + 1) _ (by omega) hs, ext_step s (i + 1 + 1) _ (by omega) hs, ext_step s (i + 1 + 1 + 1) _ (by omega) hs, ext_none]
    simp only [List.take_succ_cons, List.take_zero, List.map_cons, List.map_nil, e]
theorem ba_ext {a b : ByteArray} (h : a.data.toList = b.data.toList) : a = b := by
  cases a
  cases b
  simp only at h
  rw [Array.toList_inj] at h
  rw [h]
theorem encode_sound (s : ByteArray) (i : Nat) (hi : i < s.size) (h : Utf8.decode s i ≠ (65533, 1)) : Utf8.encode ((Utf8.decode s i).1 : Int) = s.extract i (i + (Utf8.decode s i).2) := by
  have hw := decode_width s i hi
  apply ba_ext
  rw [encode_list, ← bytes_of s i _ ⟨hw.1, hw.2.2⟩ hw.2.1]
  unfold encodeRune
  congr 1
  rw [decode_bt] at h ⊢
  exact decodeN_enc _ _ _ _ _ (bt_lt _ _) (bt_lt _ _) (bt_lt _ _) (bt_lt _ _) h
theorem ext_join (s : ByteArray) (a b c : Nat) (h1 : a ≤ b) (h2 : b ≤ c) (h3 : c ≤ s.size) : s.extract a b ++ s.extract b c = s.extract a c := by
  apply ba_ext
  rw [ByteArray.data_append, Array.toList_append, ext_list, ext_list, ext_list]
  have e : (s.data.toList.take c).drop a = ((s.data.toList.take c).take b).drop a ++ ((s.data.toList.take c).drop b) := by
    conv => lhs; rw [← List.take_append_drop b (s.data.toList.take c)]
    rw [List.drop_append_of_le_length (by simp; omega)]
  rw [e, List.take_take, Nat.min_eq_left h2]
theorem enc_take {s : ByteArray} : ∀ (k i : Nat), i ≤ s.size → SoundFrom s i → enc ((pcsFrom s i).take k) = s.extract i (placeOf s i k)
  | 0, i, hi, h => by
    rw [placeOf_zero]
    apply ba_ext
    rw [ext_none]
    rfl
  | k + 1, i, hi, h => by
    by_cases hlt : i < s.size
    · have hw := decode_width s i hlt
      have hp := placeOf_le s k (i + (Utf8.decode s i).2) (by omega)
      rw [pcsFrom_step s i hlt, List.take_succ_cons, enc_cons, enc_take k _ (by omega) (h.next hlt), placeOf_succ s i k hlt]
      rw [show (pcAt s i).rune = ((Utf8.decode s i).1 : Int) from rfl, encode_sound s i hlt (h.head hlt)]
      exact ext_join s _ _ _ (by omega) (by omega) (by omega)
    · rw [placeOf_end s i _ (by omega), pcsFrom_end s i (by omega)]
      apply ba_ext
      rw [ext_none]
      rfl
theorem enc_drop {s : ByteArray} (k : Nat) (h : SoundFrom s 0) : enc ((pcs s).drop k) = s.extract (placeOf s 0 k) s.size := by
  have hp := placeOf_le s k 0 (by omega)
  have h1 := enc_take (s := s) (pcsFrom s (placeOf s 0 k)).length (placeOf s 0 k) hp.2 (h.place k)
  rw [List.take_length, placeOf_all s _ hp.2, ← pcsFrom_drop] at h1
  exact h1
/-- An ASCII byte is a piece of its own. -/
theorem ascii_place {s : ByteArray} {j : Nat} (hj : j < s.size) (hb : bt s j < 128) : ∀ (f i : Nat), j - i ≤ f → i ≤ j → SoundFrom s i → ∃ k, placeOf s i k = j ∧ placeOf s i (k + 1) = j + 1
  | f, i, hf, hi, h => by
    have hlt : i < s.size := by omega
    have hw := decode_width s i hlt
    by_cases he : i = j
    · subst he
      refine ⟨0, rfl, ?_⟩
      have e : Utf8.decode s i = (bt s i, 1) := by
        rw [decode_bt]
        unfold decodeN
        rw [if_pos hb]
      rw [placeOf_succ s i 0 hlt, e, placeOf_zero]
    · have hge : i + (Utf8.decode s i).2 ≤ j := by
        apply Nat.le_of_not_lt
        intro hlt2
        have hh := h.head hlt
        rw [decode_bt] at hh hlt2 hw
        have := decodeN_high _ _ _ _ _ hh (by omega)
        have hq : j = i + 1 ∨ j = i + 2 ∨ j = i + 3 := by omega
        rcases hq with rfl | rfl | rfl <;> omega
      match f, hf with
      | 0, hf => omega
      | f + 1, hf =>
        obtain ⟨k, h1, h2⟩ := ascii_place hj hb f (i + (Utf8.decode s i).2) (by omega) hge (h.next hlt)
        exact ⟨k + 1, by rw [placeOf_succ s i k hlt, h1], by rw [placeOf_succ s i _ hlt, h2]⟩
/-- A part of a sound text between places of pieces is sound. -/
theorem sound_part {s : ByteArray} (a k : Nat) (ha : a ≤ s.size) (h : SoundFrom s a) : SoundFrom (s.extract a (placeOf s a k)) 0 := by
  have h1 := pcs_part s k a 0 (by omega)
  rw [Nat.add_zero] at h1
  intro p hp
  have hm : (p.rune, p.len) ∈ ((pcsFrom s a).take k).map (fun p => (p.rune, p.len)) := by
    rw [← h1]
    exact List.mem_map.2 ⟨p, hp, rfl⟩
  obtain ⟨q, hq, e⟩ := List.mem_map.1 hm
  have hbr : ∀ (t : ByteArray) (i : Nat) (x : Pc), x ∈ pcsFrom t i → x.broken = decide (x.rune = 65533 ∧ x.len = 1) := by
    intro t i x hx
    obtain ⟨k, hk, rfl⟩ := List.getElem_of_mem hx
    obtain ⟨e, _⟩ := pcs_at t i k hk
    rw [e]
    unfold pcAt
    simp only
    rw [Bool.eq_iff_iff, decide_eq_true_eq, decide_eq_true_eq]
    omega
  have e1 := hbr _ _ p hp
  have e2 := hbr _ _ q (List.mem_of_mem_take hq)
  have e3 := h q (List.mem_of_mem_take hq)
  injection e with e4 e5
  rw [e1, ← e4, ← e5, ← e2, e3]
end Go.Proofs.YtokdpfapakemmaaDoor
