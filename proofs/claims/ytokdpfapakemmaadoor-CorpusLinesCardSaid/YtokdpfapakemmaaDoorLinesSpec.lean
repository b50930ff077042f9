/- Lines' begins; what stands around a place of a sound text. Plain Lean. -/
import Derived.Test.YtokdpfapakemmaaDoorUnbroken
namespace Go.Proofs.YtokdpfapakemmaaDoor
open Go.Lib
set_option linter.unusedVariables false

theorem lineB_spec (s : ByteArray) : ∀ k, lineB s k = 0 ∨ (0 < lineB s k ∧ lineB s k ≤ k ∧ bt s (lineB s k - 1) = 10)
  | 0 => .inl rfl
  | k + 1 => by
    unfold lineB
    split
    · rename_i h
      exact .inr ⟨by omega, by omega, h⟩
    · rcases lineB_spec s k with h | ⟨h1, h2, h3⟩
      · exact .inl h
      · exact .inr ⟨h1, by omega, h3⟩
theorem lineEF_spec (s : ByteArray) : ∀ (f k : Nat), s.size - k ≤ f → lineEF s f k < s.size → bt s (lineEF s f k) = 10
  | 0, k, h, hl => by unfold lineEF at hl; omega
  | f + 1, k, h, hl => by
    unfold lineEF at hl ⊢
    by_cases hk : k < s.size
    · rw [if_pos hk] at hl ⊢
      by_cases h10 : bt s k = 10
      · rw [if_pos h10] at hl ⊢
        exact h10
      · rw [if_neg h10] at hl ⊢
        exact lineEF_spec s f (k + 1) (by omega) hl
    · rw [if_neg hk] at hl
      omega
theorem lineE_spec (s : ByteArray) (k : Nat) (h : lineE s k < s.size) : bt s (lineE s k) = 10 := lineEF_spec s _ k (Nat.le_refl _) h
theorem bt_extract (s : ByteArray) (a b k : Nat) (hb : b ≤ s.size) (h : a + k < b) : bt (s.extract a b) k = bt s (a + k) := by
  unfold bt
  rw [get_extract s a b k hb h]
theorem ext_ext2 (s : ByteArray) (a b c d : Nat) (h1 : c ≤ d) (h2 : a + d ≤ b) (h3 : b ≤ s.size) : (s.extract a b).extract c d = s.extract (a + c) (a + d) := by
  rw [ByteArray.extract_extract]
  congr 1
  omega
theorem Sound.from0 {s : ByteArray} (h : Sound s) : SoundFrom s 0 := h
theorem ext_all (s : ByteArray) : s.extract 0 s.size = s := by
  apply ba_ext
  rw [ext_list, List.drop_zero, List.take_of_length_le (by simp)]

theorem left_sound (s : ByteArray) (a m : Nat) (ha : a ≤ s.size) (h : Sound (s.extract 0 a)) : ∃ f, f ≤ a ∧ leftT s a m = s.extract f a := by
  have hle := lineB_le s a
  have hx : (s.extract 0 a).size = a := by rw [ByteArray.size_extract]; omega
  have key : SoundFrom (s.extract (lineB s a) a) 0 := by
    rcases lineB_spec s a with h0 | ⟨h1, h2, h3⟩
    · rw [h0]
      exact h.from0
    · have hb : bt (s.extract 0 a) (lineB s a - 1) = 10 := by
        rw [bt_extract s 0 a _ ha (by omega), Nat.zero_add]
        exact h3
      obtain ⟨k, p1, p2⟩ := ascii_place (s := s.extract 0 a) (j := lineB s a - 1) (by omega) (by omega) _ 0 (Nat.le_refl _) (by omega) h.from0
      rw [show lineB s a - 1 + 1 = lineB s a by omega] at p2
      have hs := h.from0.place (k + 1)
      rw [p2] at hs
      have hp := sound_part (lineB s a) (pcsFrom (s.extract 0 a) (lineB s a)).length (by omega) hs
      rw [placeOf_all _ _ (by omega), hx, ext_ext2 s 0 a _ _ (by omega) (by omega) ha] at hp
      simpa using hp
  have hsz : (s.extract (lineB s a) a).size = a - lineB s a := by rw [ByteArray.size_extract]; omega
  unfold leftT
  generalize hL : s.extract (lineB s a) a = L at *
  have hd := enc_drop ((pcs L).length - m) key
  have hp := placeOf_le L ((pcs L).length - m) 0 (by omega)
  refine ⟨lineB s a + placeOf L 0 ((pcs L).length - m), by omega, ?_⟩
  rw [hd, ← hL]
  rw [← hL] at hp hsz
  rw [hsz, ext_ext2 s _ _ _ _ (by omega) (by omega) ha]
  congr 1
  omega
theorem right_sound (s : ByteArray) (b m : Nat) (hb : b ≤ s.size) (h : Sound (s.extract b s.size)) : ∃ t, b ≤ t ∧ t ≤ s.size ∧ rightT s b m = s.extract b t := by
  have hle := lineE_le s b hb
  have hx : (s.extract b s.size).size = s.size - b := by rw [ByteArray.size_extract]; omega
  have key : SoundFrom (s.extract b (lineE s b)) 0 := by
    by_cases h0 : lineE s b < s.size
    · have hbt : bt (s.extract b s.size) (lineE s b - b) = 10 := by
        rw [bt_extract s b s.size _ (Nat.le_refl _) (by omega), show b + (lineE s b - b) = lineE s b by omega]
        exact lineE_spec s b h0
      obtain ⟨k, p1, p2⟩ := ascii_place (s := s.extract b s.size) (j := lineE s b - b) (by omega) (by omega) _ 0 (Nat.le_refl _) (by omega) h.from0
      have hp := sound_part 0 k (by omega) h.from0
      rw [p1, ext_ext2 s b s.size _ _ (by omega) (by omega) (Nat.le_refl _), show b + (lineE s b - b) = lineE s b by omega] at hp
      simpa using hp
    · have : lineE s b = s.size := by omega
      rw [this]
      exact h.from0
  have hsz : (s.extract b (lineE s b)).size = lineE s b - b := by rw [ByteArray.size_extract]; omega
  unfold rightT
  generalize hL : s.extract b (lineE s b) = L at *
  have hd := enc_take m 0 (by omega) key
  have hp := placeOf_le L m 0 (by omega)
  refine ⟨b + placeOf L 0 m, by omega, by omega, ?_⟩
  rw [show pcs L = pcsFrom L 0 from rfl, hd, ← hL]
  rw [← hL] at hp hsz
  rw [ext_ext2 s _ _ _ _ (by omega) (by omega) (by omega)]
  congr 1
theorem here_sound (s : ByteArray) (a n : Nat) (h : Sound (s.extract a (a + n))) : hereT s a n = s.extract a (a + n) := by
  unfold hereT
  have hd := enc_drop 0 h.from0
  rw [List.drop_zero, placeOf_zero, ext_all] at hd
  exact hd

/-- Where lines begin, up to k. -/
def linesTo (s : ByteArray) : Nat → List Nat
  | 0 => [0]
  | k + 1 => if bt s k = 10 then linesTo s k ++ [k + 1] else linesTo s k
def LineAt (s : ByteArray) (l : List Nat) (i x : Nat) : Prop := lineN s x = i ∧ lineB s x = x ∧ (0 < i → ∃ y, l[i - 1]? = some y ∧ y < x ∧ bt s (x - 1) = 10) ∧ (i = 0 → x = 0)
theorem linesTo_spec (s : ByteArray) : ∀ k, (linesTo s k).length = lineN s k + 1 ∧ (linesTo s k)[lineN s k]? = some (lineB s k) ∧ ∀ (i x : Nat), (linesTo s k)[i]? = some x → x ≤ k ∧ LineAt s (linesTo s k) i x
  | 0 => by
    refine ⟨rfl, rfl, fun i x hx => ?_⟩
    match i, hx with
    | 0, hx =>
      simp only [linesTo, List.getElem?_cons_zero, Option.some.injEq] at hx
      subst hx
      exact ⟨Nat.le_refl _, rfl, rfl, fun h => by omega, fun _ => rfl⟩
  | k + 1 => by
    obtain ⟨h1, h2, h3⟩ := linesTo_spec s k
    by_cases h10 : bt s k = 10
    · have e1 : linesTo s (k + 1) = linesTo s k ++ [k + 1] := by
        show (if bt s k = 10 then _ else _) = _
        rw [if_pos h10]
      have e2 : lineN s (k + 1) = lineN s k + 1 := by
        show (if bt s k = 10 then _ else _) = _
        rw [if_pos h10]
      have e3 : lineB s (k + 1) = k + 1 := by
        show (if bt s k = 10 then _ else _) = _
        rw [if_pos h10]
      rw [e1, e2, e3]
      refine ⟨by rw [List.length_append, h1]; rfl, by rw [List.getElem?_append_right (by omega), h1, Nat.sub_self]; rfl, fun i x hx => ?_⟩
      by_cases hi : i < (linesTo s k).length
      · rw [List.getElem?_append_left hi] at hx
        obtain ⟨g1, g2, g3, g4, g5⟩ := h3 i x hx
        refine ⟨by omega, g2, g3, fun h => ?_, g5⟩
        obtain ⟨y, y1, y2, y3⟩ := g4 h
        exact ⟨y, by rw [List.getElem?_append_left (by omega)]; exact y1, y2, y3⟩
      · rw [List.getElem?_append_right (by omega)] at hx
        have hi' : i - (linesTo s k).length = 0 := by
          have := (List.getElem?_eq_some_iff.1 hx).1
          simp at this
          omega
        rw [hi'] at hx
        simp only [List.getElem?_cons_zero, Option.some.injEq] at hx
        subst hx
        have hii : i = lineN s k + 1 := by omega
        refine ⟨Nat.le_refl _, by rw [e2, hii], e3, fun _ => ?_, fun h => by omega⟩
        refine ⟨lineB s k, ?_, by have := lineB_le s k; omega, h10⟩
        rw [hii, Nat.add_sub_cancel, List.getElem?_append_left (by omega)]
        exact h2
    · have e1 : linesTo s (k + 1) = linesTo s k := by
        show (if bt s k = 10 then _ else _) = _
        rw [if_neg h10]
      have e2 : lineN s (k + 1) = lineN s k := by
        show (if bt s k = 10 then _ else _) = _
        rw [if_neg h10]
      have e3 : lineB s (k + 1) = lineB s k := by
        show (if bt s k = 10 then _ else _) = _
        rw [if_neg h10]
      rw [e1, e2, e3]
      refine ⟨h1, h2, fun i x hx => ?_⟩
      obtain ⟨g1, g2⟩ := h3 i x hx
      exact ⟨by omega, g2⟩
end Go.Proofs.YtokdpfapakemmaaDoor
