/- A class's text is read as that class. Plain Lean. A forest's text is read as that forest. Plain Lean. A forest's text is read as that forest, by induction. Plain Lean. A pattern as a forest: its numbers, its text. Plain Lean. What is read is written again, byte by byte, and may be. Plain Lean. Integers that were copied; of what kind they are. The law's spoil and long, walked. spoil The document's Twin, and the law's long, walked. -/
import Derived.Test.YtimhlnndobfehaaDoorPn01
import Derived.Test.YtimhlnndobfehaaDoorMc28
import Derived.Test.YtimhlnndobfehaaDoorMc29
import Derived.Test.YtimhlnndobfehaaDoorPn09
import Derived.Test.YtimhlnndobfehaaDoorMc30
import Derived.Test.YtimhlnndobfehaaDoorMc35
import Derived.Test.YtimhlnndobfehaaDoorChecked
import Derived.Deep.DeepCutAuto
import Derived.Deep.CutBlock
import Derived.Test.YtimhlnndobfehaaDoorPn06
import Derived.Test.YtimhlnndobfehaaDoorPn08
namespace Go.Proofs.YtimhlnndobfehaaDoor
set_option linter.unusedVariables false

theorem names_dist : ∀ (l : List ByteArray) (seen : List (List UInt8)), namesOk seen l = true → (∀ f ∈ l, nameOk f = true) ∧ (∀ f ∈ l, f.data.toList ∉ seen) ∧ (l.map (·.data.toList)).Nodup
  | [], seen, _ => ⟨by simp, by simp, by simp⟩
  | g :: r, seen, h => by
    unfold namesOk at h
    simp only [Bool.and_eq_true, Bool.not_eq_true', decide_eq_false_iff_not] at h
    obtain ⟨⟨h1, h2⟩, h3⟩ := h
    obtain ⟨i1, i2, i3⟩ := names_dist r _ h3
    refine ⟨fun f hf => ?_, fun f hf => ?_, ?_⟩
    · rcases List.mem_cons.1 hf with rfl | hf
      · exact h1
      · exact i1 f hf
    · rcases List.mem_cons.1 hf with rfl | hf
      · exact h2
      · exact fun e => i2 f hf (by simp [e])
    · rw [List.map_cons, List.nodup_cons]
      refine ⟨fun e => ?_, i3⟩
      obtain ⟨f, hf, e⟩ := List.mem_map.1 e
      exact i2 f hf (by rw [e]; simp)
theorem find_name {l : List ByteArray} (hd : (l.map (·.data.toList)).Nodup) {i : Nat} (hi : i < l.length) : l.findIdx? (fun x => x.data.toList == l[i].data.toList) = some i := by
  rw [List.findIdx?_eq_some_iff_getElem]
  refine ⟨hi, by simp, fun j hj => ?_⟩
  rw [beq_iff_eq]
  intro e
  rw [List.Nodup, List.pairwise_iff_getElem] at hd
  have := hd j i (by simpa using (by omega : j < l.length)) (by simpa using hi) hj
  simp only [List.getElem_map] at this
  exact this e
/-- What does not begin with a small letter. -/
def NoLow (t : List UInt8) : Prop := ∀ c r, t = c :: r → lower c = false
theorem take_low {g t : List UInt8} (hg : g.all lower = true) (ht : NoLow t) : (g ++ t).takeWhile lower = g ∧ (g ++ t).dropWhile lower = t := by
  induction g with
  | nil =>
    cases t with
    | nil => simp
    | cons c r =>
      have := ht c r rfl
      simp [this]
  | cons x g ih =>
    simp only [List.all_cons, Bool.and_eq_true] at hg
    obtain ⟨i1, i2⟩ := ih hg.2
    simp [hg.1, i1, i2]
theorem textL_low : ∀ (l : List ByteArray) (i p m : Nat), NoLow (textL i l p m)
  | [], _, _, _ => fun c r h => by cases h
  | f :: l, i, p, m => by
    unfold textL
    split
    · intro c r h
      injection h with h1 h2
      subst h1
      rfl
    · split
      · intro c r h
        injection h with h1 h2
        subst h1
        rfl
      · rw [List.nil_append]
        exact textL_low l (i + 1) p m
theorem low_mod (p i : Nat) : p % 2 ^ (i + 1) = p % 2 ^ i + 2 ^ i * (p / 2 ^ i % 2) := Nat.mod_pow_succ
theorem or_pow {x i : Nat} (h : x < 2 ^ i) : x ||| 2 ^ i = x + 2 ^ i := by
  have := Nat.two_pow_add_eq_or_of_lt h 1
  rw [Nat.mul_one] at this
  rw [Nat.or_comm, ← this, Nat.add_comm]
theorem no_both {p m : Nat} (h : p &&& m = 0) (i : Nat) : ¬ (p / 2 ^ i % 2 = 1 ∧ m / 2 ^ i % 2 = 1) := by
  rintro ⟨h1, h2⟩
  have h3 : Nat.testBit (p &&& m) i = false := by rw [h]; exact Nat.zero_testBit i
  have e1 : Nat.testBit p i = true := by rw [Nat.testBit_eq_decide_div_mod_eq]; exact decide_eq_true h1
  have e2 : Nat.testBit m i = true := by rw [Nat.testBit_eq_decide_div_mod_eq]; exact decide_eq_true h2
  rw [Nat.testBit_and, e1, e2] at h3
  cases h3
theorem featL_text {a : Al} (hn : namesOk [] a.feats = true) {p m : Nat} (h0 : p &&& m = 0) (hp : p < 2 ^ a.feats.length) (hm : m < 2 ^ a.feats.length) :
    ∀ (d i f : Nat), a.feats.length - i = d → i ≤ a.feats.length → d + 1 ≤ f → featL a f (textL i (a.feats.drop i) p m) (p % 2 ^ i) (m % 2 ^ i) = some (p, m)
  | 0, i, f, hd, hi, hf => by
    obtain rfl : i = a.feats.length := by omega
    obtain ⟨f, rfl⟩ : ∃ g, f = g + 1 := ⟨f - 1, by omega⟩
    rw [List.drop_length]
    unfold textL featL
    rw [Nat.mod_eq_of_lt hp, Nat.mod_eq_of_lt hm]
  | d + 1, i, f, hd, hi, hf => by
    have hlt : i < a.feats.length := by omega
    obtain ⟨hok, _, hdist⟩ := names_dist _ _ hn
    have hall : (a.feats[i].data.toList).all lower = true := by
      have := hok _ (List.getElem_mem hlt)
      unfold nameOk at this
      simp only [Bool.and_eq_true] at this
      exact this.2
    have hfi := find_name hdist hlt
    have ih := fun f hf => featL_text hn h0 hp hm d (i + 1) f (by omega) (by omega) hf
    obtain ⟨t1, t2⟩ := take_low hall (textL_low (a.feats.drop (i + 1)) (i + 1) p m)
    obtain ⟨f, rfl⟩ : ∃ g, f = g + 1 := ⟨f - 1, by omega⟩
    have b1 : p % 2 ^ i < 2 ^ i := Nat.mod_lt _ (Nat.two_pow_pos i)
    have b2 : m % 2 ^ i < 2 ^ i := Nat.mod_lt _ (Nat.two_pow_pos i)
    have b3 : (p % 2 ^ i ||| m % 2 ^ i) / 2 ^ i % 2 = 0 := by rw [Nat.div_eq_of_lt (Nat.or_lt_two_pow b1 b2)]
    have nb := no_both h0 i
    have mp := low_mod p i
    have mm := low_mod m i
    rw [List.drop_eq_getElem_cons hlt]
    unfold textL
    by_cases hpb : p / 2 ^ i % 2 = 1
    · have hmb : m / 2 ^ i % 2 = 0 := by omega
      rw [if_pos hpb, List.cons_append]
      unfold featL
      rw [t1, hfi, t2]
      simp only
      rw [if_neg (by simp), if_neg (by rw [b3]; simp), if_pos trivial, or_pow b1]
      have e1 : p % 2 ^ i + 2 ^ i = p % 2 ^ (i + 1) := by rw [mp, hpb, Nat.mul_one]
      have e2 : m % 2 ^ i = m % 2 ^ (i + 1) := by rw [mm, hmb, Nat.mul_zero, Nat.add_zero]
      rw [e1, e2]
      exact ih f (by omega)
    · have hpb0 : p / 2 ^ i % 2 = 0 := by omega
      rw [if_neg hpb]
      have e1 : p % 2 ^ i = p % 2 ^ (i + 1) := by rw [mp, hpb0, Nat.mul_zero, Nat.add_zero]
      by_cases hmb : m / 2 ^ i % 2 = 1
      · rw [if_pos hmb, List.cons_append]
        unfold featL
        rw [t1, hfi, t2]
        simp only
        rw [if_neg (by simp), if_neg (by rw [b3]; simp), if_neg (show ¬ ((45 : UInt8) = 43) by decide), or_pow b2]
        have e2 : m % 2 ^ i + 2 ^ i = m % 2 ^ (i + 1) := by rw [mm, hmb, Nat.mul_one]
        rw [e1, e2]
        exact ih f (by omega)
      · have hmb0 : m / 2 ^ i % 2 = 0 := by omega
        have e2 : m % 2 ^ i = m % 2 ^ (i + 1) := by rw [mm, hmb0, Nat.mul_zero, Nat.add_zero]
        rw [if_neg hmb, List.nil_append, e1, e2]
        exact ih (f + 1) (by omega)
theorem textL_bytes : ∀ (l : List ByteArray) (i p m : Nat), (∀ f ∈ l, nameOk f = true) → ∀ c ∈ textL i l p m, c = 43 ∨ c = 45 ∨ lower c = true
  | [], _, _, _, _, c, hc => by simp [textL] at hc
  | f :: l, i, p, m, h, c, hc => by
    have hf : ∀ c ∈ f.data.toList, lower c = true := by
      have := h f (by simp)
      unfold nameOk at this
      simp only [Bool.and_eq_true, List.all_eq_true] at this
      exact this.2
    unfold textL at hc
    rcases List.mem_append.1 hc with hc | hc
    · split at hc
      · rcases List.mem_cons.1 hc with rfl | hc
        · exact .inl rfl
        · exact .inr (.inr (hf c hc))
      · split at hc
        · rcases List.mem_cons.1 hc with rfl | hc
          · exact .inr (.inl rfl)
          · exact .inr (.inr (hf c hc))
        · simp at hc
    · exact textL_bytes l (i + 1) p m (fun f hf => h f (by simp [hf])) c hc
theorem featL_more {a : Al} : ∀ (f g : Nat) (t : List UInt8) (p m : Nat) (x : Nat × Nat), f ≤ g → featL a f t p m = some x → featL a g t p m = some x
  | 0, _, _, _, _, _, _, h => by cases h
  | f + 1, 0, _, _, _, _, hg, _ => by omega
  | f + 1, g + 1, [], p, m, x, hg, h => h
  | f + 1, g + 1, c :: t, p, m, x, hg, h => by
    unfold featL at h ⊢
    split at h
    · cases h
    · split at h
      · cases h
      · rename_i h1
        split at h
        · cases h
        · rename_i h2
          simp only [if_neg h1, if_neg h2]
          split at h
          · rename_i h3
            rw [if_pos h3]
            exact featL_more f g _ _ _ x (by omega) h
          · rename_i h3
            rw [if_neg h3]
            exact featL_more f g _ _ _ x (by omega) h
/-- Each sign takes a byte. -/
theorem featL_short {a : Al} : ∀ (f : Nat) (t : List UInt8) (p m : Nat) (x : Nat × Nat), featL a f t p m = some x → featL a (t.length + 1) t p m = some x
  | 0, _, _, _, _, h => by cases h
  | f + 1, [], p, m, x, h => h
  | f + 1, c :: t, p, m, x, h => by
    have hl : (t.dropWhile lower).length ≤ t.length := (List.dropWhile_sublist _).length_le
    rw [List.length_cons]
    unfold featL at h ⊢
    split at h
    · cases h
    · split at h
      · cases h
      · rename_i h1
        split at h
        · cases h
        · rename_i h2
          simp only [if_neg h1, if_neg h2]
          split at h
          · rename_i h3
            rw [if_pos h3]
            exact featL_more _ _ _ _ _ x (by omega) (featL_short f _ _ _ x h)
          · rename_i h3
            rw [if_neg h3]
            exact featL_more _ _ _ _ _ x (by omega) (featL_short f _ _ _ x h)
theorem class_ok_parts {n p m : Nat} (h : classOk n p m = true) : p &&& m = 0 ∧ p < 2 ^ n ∧ m < 2 ^ n := by
  unfold classOk at h
  simp only [Bool.and_eq_true, decide_eq_true_eq] at h
  have h1 : p ≤ p ||| m := Nat.left_le_or
  have h2 : m ≤ p ||| m := Nat.right_le_or
  exact ⟨h.2, by omega, by omega⟩
theorem clsT_text {a : Al} (hE : alE a = 0) {p m : Nat} (hc : classOk a.feats.length p m = true) : classT a p m = (⟨(textL 0 a.feats p m).toArray⟩, 0) := by
  unfold classT
  rw [if_neg (by simp [hE]), if_pos hc]
theorem textL_size {a : Al} (hE : alE a = 0) (p m : Nat) : (textL 0 a.feats p m).length ≤ 792 := by
  obtain ⟨h24, _, _, hnm, _⟩ := alE_parts hE
  have := textL_le a.feats 0 p m (names_short a.feats [] hnm)
  omega
/-- The one text of a class is read as that class. -/
theorem class_back {a : Al} (hE : alE a = 0) {p m : Nat} (hc : classOk a.feats.length p m = true) {s : ByteArray} (hs : s.data.toList = textL 0 a.feats p m) : classP a s = some (p, m) := by
  obtain ⟨h24, _, _, hnm, _⟩ := alE_parts hE
  obtain ⟨c1, c2, c3⟩ := class_ok_parts hc
  have hsz := textL_size hE p m
  have hss : s.size = (textL 0 a.feats p m).length := by rw [← hs]; exact Array.length_toList.symm
  have h1 := featL_text hnm c1 c2 c3 a.feats.length 0 (a.feats.length + 1) (by omega) (by omega) (by omega)
  have h2 := featL_short _ _ _ _ _ h1
  rw [List.drop_zero] at h2
  have hf : featS a s = some (p, m) := by
    unfold featS
    rw [if_neg (by simp [hE]), if_neg (by omega), hss, hs]
    simpa [Nat.mod_one] using h2
  unfold classP
  rw [hf]
  simp only
  rw [clsT_text hE hc]
  simp [hs]
end Go.Proofs.YtimhlnndobfehaaDoor
namespace Go.Proofs.YtimhlnndobfehaaDoor
open Go.Lib
set_option linter.unusedVariables false

def bodyT (a : Al) (k r p m : Int) (c o : List UInt8) : List UInt8 :=
  if k = 1 then [126] else if k = 2 then Lib.encodeRune r else if k = 3 then clsT a ⟨k, r, p, m, []⟩ else if k = 4 then [46] else if k = 5 then [35]
  else if k = 6 then 40 :: (c ++ [41]) else if k = 7 then 123 :: (o ++ [125]) else if k = 8 then c ++ [42] else if k = 9 then c ++ [63] else []
/-- A forest's text: one behind the other (0), with bars between (1), a bar ahead of each (2). -/
def txF (a : Al) : Nat → Fo → List UInt8
  | _, .nil => []
  | md, .nd k r p m ks n => (if md = 2 then [124] else []) ++ (bodyT a k r p m (txF a 0 ks) (txF a 1 ks) ++ txF a (if md = 0 then 0 else 2) n)
/-- A node that may be, with so many kids. -/
structure NdOk (a : Al) (k r p m : Int) (c : Nat) : Prop where
  ok : nodeOk ⟨k, r, p, m, List.replicate c 0⟩ = true
  fit : ndFit a ⟨k, r, p, m, []⟩ = true
  p0 : 0 ≤ p
  m0 : 0 ≤ m
def FoOk (a : Al) : Fo → Prop
  | .nil => True
  | .nd k r p m ks n => NdOk a k r p m ks.count ∧ FoOk a ks ∧ FoOk a n

/-- The bytes from a place on. -/
def Rest (s : ByteArray) (k : Nat) (l : List UInt8) : Prop := s.data.toList.drop k = l
section
variable {s : ByteArray} {k : Nat} {l : List UInt8} {c : UInt8}
theorem Rest.lt (h : Rest s k (c :: l)) : k < s.size := by
  have := congrArg List.length h
  simp only [List.length_drop, List.length_cons] at this
  have : s.data.toList.length = s.size := Array.length_toList
  omega
theorem Rest.byte (h : Rest s k (c :: l)) : bt s k = c.toNat := by
  have := (bt_drop (s := s) (i := k) (k := 0) (x := c) (by rw [h]; rfl)).1
  simpa using this
theorem Rest.isB (h : Rest s k (c :: l)) (b : Nat) : isB s k b = decide (c.toNat = b) := by
  unfold Go.Proofs.YtimhlnndobfehaaDoor.isB
  rw [decide_eq_true h.lt, Bool.true_and, h.byte]
theorem Rest.none (h : Rest s k []) (b : Nat) : Go.Proofs.YtimhlnndobfehaaDoor.isB s k b = false := by
  have := congrArg List.length h
  simp only [List.length_drop, List.length_nil] at this
  have h2 : s.data.toList.length = s.size := Array.length_toList
  unfold Go.Proofs.YtimhlnndobfehaaDoor.isB
  rw [decide_eq_false (by omega), Bool.false_and]
theorem Rest.next (h : Rest s k (c :: l)) : Rest s (k + 1) l := by
  unfold Rest at h ⊢
  rw [← List.drop_drop, h]
  rfl
theorem Rest.skip {x : List UInt8} (h : Rest s k (x ++ l)) : Rest s (k + x.length) l := by
  unfold Rest at h ⊢
  rw [← List.drop_drop, h, List.drop_left]
theorem Rest.le (h : Rest s k l) : k ≤ s.size ∨ l = [] := by
  cases l with
  | nil => exact .inr rfl
  | cons c l => exact .inl (Nat.le_of_lt h.lt)
theorem Rest.ext {x : List UInt8} (h : Rest s k (x ++ l)) : (s.extract k (k + x.length)).data.toList = x := by
  rw [ext_list, List.drop_take, Nat.add_sub_cancel_left]
  unfold Rest at h
  rw [h, List.take_left]
theorem findB_is {b : UInt8} : ∀ (x : List UInt8) (k f : Nat) (l : List UInt8), Rest s k (x ++ b :: l) → (∀ c ∈ x, c ≠ b) → x.length < f → findB s b.toNat f k = some (k + x.length)
  | [], k, f, l, h, hx, hf => by
    obtain ⟨f, rfl⟩ : ∃ g, f = g + 1 := ⟨f - 1, by simp at hf; omega⟩
    unfold findB
    rw [if_pos h.lt, h.byte, if_pos rfl]
    rfl
  | c :: x, k, f, l, h, hx, hf => by
    obtain ⟨f, rfl⟩ : ∃ g, f = g + 1 := ⟨f - 1, by simp at hf; omega⟩
    have hb : c ≠ b := hx c (by simp)
    have h' : Rest s k (c :: (x ++ b :: l)) := h
    unfold findB
    rw [if_pos h'.lt, h'.byte, if_neg (fun e => hb (UInt8.toNat_inj.1 e)), findB_is x (k + 1) f l h'.next (fun c hc => hx c (by simp [hc])) (by simp at hf; omega), List.length_cons]
    congr 1
    omega
end
/-- What a text of a pattern begins with. -/
def Start (c : UInt8) : Prop := c ≠ 41 ∧ c ≠ 42 ∧ c ≠ 63 ∧ c ≠ 124 ∧ c ≠ 125
theorem u8_ne {c : UInt8} {n : Nat} (hn : n < 256) (h : c.toNat ≠ n) : c ≠ UInt8.ofNat n := by
  rintro rfl
  rw [UInt8.toNat_ofNat'] at h
  omega
theorem enc_first {r : Nat} (hv : r < 55296 ∨ (57343 < r ∧ r ≤ 1114111)) : ∃ c t, encodeRune (r : Int) = c :: t ∧ ((r < 128 ∧ c.toNat = r) ∨ (128 ≤ r ∧ 192 ≤ c.toNat)) := by
  unfold encodeRune
  by_cases h1 : r < 128
  · rw [encodeRuneZ_one (by omega) (by omega)]
    exact ⟨_, _, rfl, .inl ⟨h1, u8n _ (by omega)⟩⟩
  · by_cases h2 : r ≤ 2047
    · rw [encodeRuneZ_two (by omega) (by omega), show (192 : Int) + (r : Int) / 64 = ((192 + r / 64 : Nat) : Int) by omega]
      exact ⟨_, _, rfl, .inr ⟨by omega, by rw [u8n _ (by omega)]; omega⟩⟩
    · by_cases h3 : r ≤ 65535
      · rw [encodeRuneZ_three (by omega), show (224 : Int) + (r : Int) / 4096 = ((224 + r / 4096 : Nat) : Int) by omega]
        exact ⟨_, _, rfl, .inr ⟨by omega, by rw [u8n _ (by omega)]; omega⟩⟩
      · rw [encodeRuneZ_four (by omega) (by omega), show (240 : Int) + (r : Int) / 262144 = ((240 + r / 262144 : Nat) : Int) by omega]
        exact ⟨_, _, rfl, .inr ⟨by omega, by rw [u8n _ (by omega)]; omega⟩⟩
theorem ofS_letter {a : Al} {r : Int} (h : (ofS a r).2 = 0) : letterOk r = true := by
  obtain ⟨hok, j, hj, hn, _⟩ := ofS_zero h
  exact isLet_ok hok (by unfold isLet; rw [hn]; rfl)
theorem letter_nat {r : Int} (h : letterOk r = true) : ∃ n : Nat, r = (n : Int) ∧ ((97 ≤ n ∧ n ≤ 122) ∨ (65 ≤ n ∧ n ≤ 90) ∨ (161 ≤ n ∧ n ≤ 1114111 ∧ n ≠ 65533 ∧ (n < 55296 ∨ 57343 < n))) := by
  unfold letterOk at h
  have h := of_decide_eq_true h
  exact ⟨r.toNat, by omega, by omega⟩
theorem rune_start {r : Int} (h : letterOk r = true) : ∃ c t, encodeRune r = c :: t ∧ (c.toNat ≠ 126 ∧ c.toNat ≠ 46 ∧ c.toNat ≠ 35 ∧ c.toNat ≠ 91 ∧ c.toNat ≠ 40 ∧ c.toNat ≠ 123) ∧ Start c := by
  obtain ⟨n, rfl, hn⟩ := letter_nat h
  obtain ⟨c, t, e, hc⟩ := enc_first (r := n) (by omega)
  refine ⟨c, t, e, by omega, ?_⟩
  exact ⟨u8_ne (n := 41) (by omega) (by omega), u8_ne (n := 42) (by omega) (by omega), u8_ne (n := 63) (by omega) (by omega), u8_ne (n := 124) (by omega) (by omega), u8_ne (n := 125) (by omega) (by omega)⟩
theorem rune_read {a : Al} {s : ByteArray} {k : Nat} {r : Int} {l : List UInt8} (hr : (ofS a r).2 = 0) (h : Rest s k (encodeRune r ++ l)) : runeP a s k = .ok (leafF 2 r 0 0) (k + (encodeRune r).length) := by
  have hl := ofS_letter hr
  obtain ⟨n, rfl, hn⟩ := letter_nat hl
  obtain ⟨c, t, e, _⟩ := rune_start hl
  have hk : k < s.size := Rest.lt (c := c) (l := t ++ l) (by rw [e] at h; exact h)
  have hd := decode_back (s := s) (i := k) n h (by omega)
  have hgo : Lib.decodeGo (s.extract k s.size) = Utf8.decode s k := by
    unfold Lib.decodeGo
    rw [if_neg (by rw [ByteArray.size_extract]; omega), decode_tail s k hk]
  unfold runeP
  rw [hgo, hd.1]
  simp only
  rw [if_neg (by simp [hr])]
theorem cls_read {a : Al} (hE : alE a = 0) {s : ByteArray} {k : Nat} {p m : Nat} {l : List UInt8} (hc : classOk a.feats.length p m = true) (h : Rest s k (textL 0 a.feats p m ++ 93 :: l)) : clsP a s k = .ok (leafF 3 0 (p : Int) (m : Int)) (k + (textL 0 a.feats p m).length + 1) := by
  obtain ⟨h24, _, _, hnm, _⟩ := alE_parts hE
  have hsz := textL_size hE p m
  have hle : (textL 0 a.feats p m).length < s.size + 1 := by
    have := congrArg List.length h
    simp only [List.length_drop, List.length_append, List.length_cons] at this
    have h2 : s.data.toList.length = s.size := Array.length_toList
    omega
  have hf : findB s 93 (s.size + 1) k = some (k + (textL 0 a.feats p m).length) := findB_is (b := 93) _ k _ l h (fun c hcm e => by
    subst e
    rcases textL_bytes a.feats 0 p m (names_dist _ _ hnm).1 _ hcm with e | e | e
    · exact absurd e (by decide)
    · exact absurd e (by decide)
    · exact absurd e (by decide)) hle
  unfold clsP
  rw [hf]
  simp only
  rw [class_back hE hc h.ext]

def stN : Fo → Nat
  | .nd k _ _ _ ks _ => if k = 8 ∨ k = 9 then stN ks + 1 else 0
  | .nil => 0
section
variable {a : Al} {s : ByteArray}
/-- A tree's text is read as far as its stars. -/
def TreeRead (a : Al) (s : ByteArray) (k r p m : Int) (ks : Fo) : Prop := ∃ c t, bodyT a k r p m (txF a 0 ks) (txF a 1 ks) = c :: t ∧ Start c ∧ ∀ (q : Nat) (l : List UInt8) (f : Nat), Rest s q (bodyT a k r p m (txF a 0 ks) (txF a 1 ks) ++ l) → 3 * (t.length + 1) ≤ f →
  ∃ d, d ≤ t.length ∧ pars a s (f + 1) .node q = pars a s (f - d) (.stars (.nd k r p m ks .nil)) (q + (t.length + 1))
def SeqRead (a : Al) (s : ByteArray) (F : Fo) : Prop := ∀ (q : Nat) (l : List UInt8) (f : Nat), Rest s q (txF a 0 F ++ 41 :: l) → 3 * ((txF a 0 F).length + 1) + 1 ≤ f → pars a s f .seq q = .ok F (q + ((txF a 0 F).length + 1))
def OrRead (a : Al) (s : ByteArray) (first : Bool) (F : Fo) : Prop := ∀ (q : Nat) (l : List UInt8) (f : Nat), Rest s q (txF a (if first then 1 else 2) F ++ 125 :: l) → 3 * ((txF a (if first then 1 else 2) F).length + 1) + 1 ≤ f → pars a s f (.or first) q = .ok F (q + ((txF a (if first then 1 else 2) F).length + 1))
theorem tree_of_one {k r p m : Int} {ks : Fo} {c : UInt8} {t : List UInt8} (hb : bodyT a k r p m (txF a 0 ks) (txF a 1 ks) = c :: t) (hc : Start c)
    (h1 : ∀ (q : Nat) (l : List UInt8) (f : Nat), Rest s q (bodyT a k r p m (txF a 0 ks) (txF a 1 ks) ++ l) → 3 * (t.length + 1) ≤ f → pars a s f .one q = .ok (.nd k r p m ks .nil) (q + (t.length + 1))) : TreeRead a s k r p m ks :=
  ⟨c, t, hb, hc, fun q l f h hf => ⟨0, by omega, by
    conv => lhs; unfold pars
    rw [h1 q l f h hf]
    rfl⟩⟩
/-- What stands behind a tree in a forest does not begin with a star. -/
theorem stars_end {t : Fo} {q f : Nat} {c : UInt8} {l : List UInt8} (h : Rest s q (c :: l)) (h1 : c ≠ 42) (h2 : c ≠ 63) (hf : 1 ≤ f) : pars a s f (.stars t) q = .ok t q := by
  obtain ⟨f, rfl⟩ : ∃ g, f = g + 1 := ⟨f - 1, by omega⟩
  unfold pars
  rw [h.isB, h.isB, if_neg (by rw [decide_eq_true_eq]; exact fun e => h1 (UInt8.toNat_inj.1 e)), if_neg (by rw [decide_eq_true_eq]; exact fun e => h2 (UInt8.toNat_inj.1 e))]
theorem stars_none {t : Fo} {q f : Nat} (h : Rest s q []) (hf : 1 ≤ f) : pars a s f (.stars t) q = .ok t q := by
  obtain ⟨f, rfl⟩ : ∃ g, f = g + 1 := ⟨f - 1, by omega⟩
  unfold pars
  rw [h.none, h.none, if_neg (by simp), if_neg (by simp)]
end
end Go.Proofs.YtimhlnndobfehaaDoor
namespace Go.Proofs.YtimhlnndobfehaaDoor
open Go.Lib
set_option linter.unusedVariables false

theorem count_zero {F : Fo} (h : F.count = 0) : F = .nil := by
  cases F with
  | nil => rfl
  | nd k r p m ks n => simp only [Fo.count] at h; omega
theorem count_one {F : Fo} (h : F.count = 1) : ∃ k r p m ks, F = .nd k r p m ks .nil := by
  cases F with
  | nil => simp only [Fo.count] at h; omega
  | nd k r p m ks n =>
    simp only [Fo.count] at h
    obtain rfl := count_zero (F := n) (by omega)
    exact ⟨k, r, p, m, ks, rfl⟩
theorem NdOk.cases {a : Al} {k r p m : Int} {c : Nat} (h : NdOk a k r p m c) :
    ((k = 6 ∨ k = 7) ∧ r = 0 ∧ p = 0 ∧ m = 0) ∨ ((k = 8 ∨ k = 9) ∧ c = 1 ∧ r = 0 ∧ p = 0 ∧ m = 0) ∨ ((k = 1 ∨ k = 4 ∨ k = 5) ∧ c = 0 ∧ r = 0 ∧ p = 0 ∧ m = 0) ∨
    (k = 2 ∧ c = 0 ∧ p = 0 ∧ m = 0 ∧ (ofS a r).2 = 0) ∨ (k = 3 ∧ c = 0 ∧ r = 0 ∧ classOk a.feats.length p.toNat m.toNat = true) := by
  have h1 := h.ok
  have h2 := h.fit
  unfold nodeOk at h1
  simp only [List.length_replicate, Bool.and_eq_true, Bool.or_eq_true, decide_eq_true_eq] at h1
  obtain ⟨⟨h3, h4⟩, h5⟩ := h1
  unfold ndFit at h2
  simp only at h2
  by_cases k67 : k = 6 ∨ k = 7
  · exact .inl ⟨k67, by omega, by omega, by omega⟩
  rw [if_neg k67] at h3
  by_cases k89 : k = 8 ∨ k = 9
  · rw [if_pos k89, decide_eq_true_eq] at h3
    exact .inr (.inl ⟨k89, h3, by omega, by omega, by omega⟩)
  rw [if_neg k89] at h3
  by_cases k15 : 1 ≤ k ∧ k ≤ 5
  · rw [if_pos k15, decide_eq_true_eq] at h3
    by_cases k2 : k = 2
    · rw [if_pos k2, decide_eq_true_eq] at h2
      exact .inr (.inr (.inr (.inl ⟨k2, h3, by omega, by omega, h2⟩)))
    · by_cases k3 : k = 3
      · rw [if_neg k2, if_pos k3] at h2
        exact .inr (.inr (.inr (.inr ⟨k3, h3, by omega, h2⟩)))
      · exact .inr (.inr (.inl ⟨by omega, h3, by omega, by omega, by omega⟩))
  · rw [if_neg k15] at h3
    cases h3

section
variable {a : Al} {s : ByteArray}
theorem app_one (k r p m : Int) (ks n : Fo) : (Fo.nd k r p m ks .nil).app n = .nd k r p m ks n := rfl
theorem fo_head {n : Fo} (h : ∀ k r p m ks n', n = .nd k r p m ks n' → TreeRead a s k r p m ks) {z : UInt8} (h1 : z ≠ 42) (h2 : z ≠ 63) (md : Nat) (l : List UInt8) : ∃ c' l', txF a md n ++ z :: l = c' :: l' ∧ c' ≠ 42 ∧ c' ≠ 63 := by
  cases n with
  | nil => exact ⟨z, l, rfl, h1, h2⟩
  | nd k r p m ks n' =>
    obtain ⟨c, t, e, hs, _⟩ := h k r p m ks n' rfl
    unfold txF
    rw [e]
    by_cases hm : md = 2
    · rw [if_pos hm]
      exact ⟨124, _, rfl, by decide, by decide⟩
    · rw [if_neg hm]
      exact ⟨c, _, rfl, hs.2.1, hs.2.2.1⟩
theorem decide_ne {c : UInt8} {n : Nat} (h : c ≠ UInt8.ofNat n) : ¬ (decide (c.toNat = n) = true) := by
  rw [decide_eq_true_eq]
  rintro rfl
  exact h (by rw [UInt8.ofNat_toNat])
theorem tree_leaf {k : Int} (hk : k = 1 ∨ k = 4 ∨ k = 5) : TreeRead a s k 0 0 0 .nil := by
  rcases hk with rfl | rfl | rfl
  · refine tree_of_one (c := 126) (t := []) rfl ⟨by decide, by decide, by decide, by decide, by decide⟩ fun q l f h hf => ?_
    have h : Rest s q (126 :: l) := h
    obtain ⟨f, rfl⟩ : ∃ g, f = g + 1 := ⟨f - 1, by omega⟩
    unfold pars
    simp only [h.isB]
    rfl
  · refine tree_of_one (c := 46) (t := []) rfl ⟨by decide, by decide, by decide, by decide, by decide⟩ fun q l f h hf => ?_
    have h : Rest s q (46 :: l) := h
    obtain ⟨f, rfl⟩ : ∃ g, f = g + 1 := ⟨f - 1, by omega⟩
    unfold pars
    simp only [h.isB]
    rfl
  · refine tree_of_one (c := 35) (t := []) rfl ⟨by decide, by decide, by decide, by decide, by decide⟩ fun q l f h hf => ?_
    have h : Rest s q (35 :: l) := h
    obtain ⟨f, rfl⟩ : ∃ g, f = g + 1 := ⟨f - 1, by omega⟩
    unfold pars
    simp only [h.isB]
    rfl
theorem tree_rune {r : Int} (hr : (ofS a r).2 = 0) : TreeRead a s 2 r 0 0 .nil := by
  obtain ⟨c, t, e, ⟨n1, n2, n3, n4, n5, n6⟩, hs⟩ := rune_start (ofS_letter hr)
  have hb : bodyT a 2 r 0 0 (txF a 0 .nil) (txF a 1 .nil) = c :: t := e
  refine tree_of_one hb hs fun q l f h hf => ?_
  rw [hb] at h
  have h' : Rest s q (c :: (t ++ l)) := h
  obtain ⟨f, rfl⟩ : ∃ g, f = g + 1 := ⟨f - 1, by omega⟩
  unfold pars
  simp only [h'.isB, n1, n2, n3, n4, n5, n6, decide_false, Bool.false_eq_true, if_false]
  rw [rune_read hr (l := l) (by rw [e]; exact h), e]
  rfl
theorem tree_cls (hE : alE a = 0) {p m : Int} (hp : 0 ≤ p) (hm : 0 ≤ m) (hc : classOk a.feats.length p.toNat m.toNat = true) : TreeRead a s 3 0 p m .nil := by
  have hb : bodyT a 3 0 p m (txF a 0 .nil) (txF a 1 .nil) = 91 :: (textL 0 a.feats p.toNat m.toNat ++ [93]) := by
    show clsT a ⟨3, 0, p, m, []⟩ = _
    unfold clsT
    simp only [clsT_text hE hc]
  refine tree_of_one hb ⟨by decide, by decide, by decide, by decide, by decide⟩ fun q l f h hf => ?_
  rw [hb] at h
  have h' : Rest s q (91 :: (textL 0 a.feats p.toNat m.toNat ++ 93 :: l)) := by
    rw [List.cons_append, List.append_assoc] at h
    exact h
  obtain ⟨f, rfl⟩ : ∃ g, f = g + 1 := ⟨f - 1, by omega⟩
  unfold pars
  simp only [h'.isB]
  have hr := cls_read hE hc h'.next
  rw [show (((p.toNat : Nat) : Int)) = p by omega, show (((m.toNat : Nat) : Int)) = m by omega] at hr
  rw [List.length_append, List.length_cons, List.length_nil]
  refine (show _ = clsP a s (q + 1) from rfl).trans (hr.trans ?_)
  rw [show q + 1 + (textL 0 a.feats p.toNat m.toNat).length + 1 = q + ((textL 0 a.feats p.toNat m.toNat).length + (0 + 1) + 1) by omega]
  rfl
theorem tree_seq {ks : Fo} (S : SeqRead a s ks) : TreeRead a s 6 0 0 0 ks := by
  refine tree_of_one (c := 40) (t := txF a 0 ks ++ [41]) rfl ⟨by decide, by decide, by decide, by decide, by decide⟩ fun q l f h hf => ?_
  have h' : Rest s q (40 :: (txF a 0 ks ++ 41 :: l)) := by
    have : bodyT a 6 0 0 0 (txF a 0 ks) (txF a 1 ks) ++ l = 40 :: (txF a 0 ks ++ 41 :: l) := by
      show (40 :: (txF a 0 ks ++ [41])) ++ l = _
      simp
    rw [← this]
    exact h
  rw [List.length_append, List.length_cons, List.length_nil] at hf ⊢
  obtain ⟨f, rfl⟩ : ∃ g, f = g + 1 := ⟨f - 1, by omega⟩
  unfold pars
  simp only [h'.isB]
  have hr := S (q + 1) l f h'.next (by omega)
  refine (show _ = (pars a s f .seq (q + 1)).map (fun l => .nd 6 0 0 0 l .nil) from rfl).trans ?_
  rw [hr]
  unfold PR.map
  simp only
  congr 1
  omega
theorem tree_or {ks : Fo} (S : OrRead a s true ks) : TreeRead a s 7 0 0 0 ks := by
  refine tree_of_one (c := 123) (t := txF a 1 ks ++ [125]) rfl ⟨by decide, by decide, by decide, by decide, by decide⟩ fun q l f h hf => ?_
  have h' : Rest s q (123 :: (txF a 1 ks ++ 125 :: l)) := by
    have : bodyT a 7 0 0 0 (txF a 0 ks) (txF a 1 ks) ++ l = 123 :: (txF a 1 ks ++ 125 :: l) := by
      show (123 :: (txF a 1 ks ++ [125])) ++ l = _
      simp
    rw [← this]
    exact h
  rw [List.length_append, List.length_cons, List.length_nil] at hf ⊢
  obtain ⟨f, rfl⟩ : ∃ g, f = g + 1 := ⟨f - 1, by omega⟩
  unfold pars
  simp only [h'.isB]
  have hr := S (q + 1) l f h'.next (by simp only [if_true]; omega)
  simp only [if_true] at hr
  refine (show _ = (pars a s f (.or true) (q + 1)).map (fun l => .nd 7 0 0 0 l .nil) from rfl).trans ?_
  rw [hr]
  unfold PR.map
  simp only
  congr 1
  omega
theorem tree_star {k' r' p' m' : Int} {ks' : Fo} (T : TreeRead a s k' r' p' m' ks') {k : Int} (hk : k = 8 ∨ k = 9) : TreeRead a s k 0 0 0 (.nd k' r' p' m' ks' .nil) := by
  obtain ⟨c, t, e, hs, hT⟩ := T
  have htx : txF a 0 (.nd k' r' p' m' ks' .nil) = c :: t := by
    unfold txF
    rw [if_neg (by decide), e]
    simp [txF]
  rcases hk with rfl | rfl
  · have hb : bodyT a 8 0 0 0 (txF a 0 (.nd k' r' p' m' ks' .nil)) (txF a 1 (.nd k' r' p' m' ks' .nil)) = c :: (t ++ [42]) := by
      show txF a 0 (.nd k' r' p' m' ks' .nil) ++ [42] = _
      rw [htx]
      rfl
    refine ⟨c, t ++ [42], hb, hs, fun q l f h hf => ?_⟩
    rw [hb] at h
    rw [List.length_append, List.length_cons, List.length_nil] at hf ⊢
    have h' : Rest s q ((c :: t) ++ 42 :: l) := by
      have : c :: (t ++ [42]) ++ l = (c :: t) ++ 42 :: l := by simp
      rw [← this]
      exact h
    obtain ⟨d, hd, hp⟩ := hT q (42 :: l) f (by rw [e]; exact h') (by omega)
    have h2 := h'.skip
    rw [List.length_cons] at h2
    refine ⟨d + 1, by omega, hp.trans ?_⟩
    obtain ⟨g, hg⟩ : ∃ g, f - d = g + 1 := ⟨f - d - 1, by omega⟩
    rw [hg]
    conv => lhs; unfold pars
    rw [if_pos (by rw [h2.isB]; rfl), show f - (d + 1) = g by omega]
    rfl
  · have hb : bodyT a 9 0 0 0 (txF a 0 (.nd k' r' p' m' ks' .nil)) (txF a 1 (.nd k' r' p' m' ks' .nil)) = c :: (t ++ [63]) := by
      show txF a 0 (.nd k' r' p' m' ks' .nil) ++ [63] = _
      rw [htx]
      rfl
    refine ⟨c, t ++ [63], hb, hs, fun q l f h hf => ?_⟩
    rw [hb] at h
    rw [List.length_append, List.length_cons, List.length_nil] at hf ⊢
    have h' : Rest s q ((c :: t) ++ 63 :: l) := by
      have : c :: (t ++ [63]) ++ l = (c :: t) ++ 63 :: l := by simp
      rw [← this]
      exact h
    obtain ⟨d, hd, hp⟩ := hT q (63 :: l) f (by rw [e]; exact h') (by omega)
    have h2 := h'.skip
    rw [List.length_cons] at h2
    refine ⟨d + 1, by omega, hp.trans ?_⟩
    obtain ⟨g, hg⟩ : ∃ g, f - d = g + 1 := ⟨f - d - 1, by omega⟩
    rw [hg]
    conv => lhs; unfold pars
    rw [if_neg (by rw [h2.isB]; decide), if_pos (by rw [h2.isB]; rfl), show f - (d + 1) = g by omega]
    rfl
/-- A node of a list: read, and what stands behind it is no star. -/
theorem node_read {k r p m : Int} {ks : Fo} {c : UInt8} {t : List UInt8} (e : bodyT a k r p m (txF a 0 ks) (txF a 1 ks) = c :: t)
    (hT : ∀ (q : Nat) (l : List UInt8) (f : Nat), Rest s q (bodyT a k r p m (txF a 0 ks) (txF a 1 ks) ++ l) → 3 * (t.length + 1) ≤ f → ∃ d, d ≤ t.length ∧ pars a s (f + 1) .node q = pars a s (f - d) (.stars (.nd k r p m ks .nil)) (q + (t.length + 1)))
    {q f : Nat} {l : List UInt8} (h : Rest s q ((c :: t) ++ l)) (hl : l = [] ∨ ∃ c' l', l = c' :: l' ∧ c' ≠ 42 ∧ c' ≠ 63) (hf : 3 * (t.length + 1) + 1 ≤ f) : pars a s f .node q = .ok (.nd k r p m ks .nil) (q + (t.length + 1)) := by
  obtain ⟨f, rfl⟩ : ∃ g, f = g + 1 := ⟨f - 1, by omega⟩
  obtain ⟨d, hd, hp⟩ := hT q l f (by rw [e]; exact h) (by omega)
  have h2 := h.skip
  rw [List.length_cons] at h2
  rw [hp]
  rcases hl with rfl | ⟨c', l', rfl, n1, n2⟩
  · exact stars_none h2 (by omega)
  · exact stars_end h2 n1 n2 (by omega)
theorem seq_nil : SeqRead a s .nil := fun q l f h hf => by
  have h : Rest s q (41 :: l) := h
  obtain ⟨f, rfl⟩ : ∃ g, f = g + 1 := ⟨f - 1, by omega⟩
  unfold pars
  rw [if_pos (by rw [h.isB]; rfl)]
  rfl
theorem or_nil (first : Bool) : OrRead a s first .nil := fun q l f h hf => by
  have h : Rest s q (125 :: l) := by
    have e : txF a (if first = true then 1 else 2) .nil ++ 125 :: l = 125 :: l := by unfold txF; rfl
    rw [← e]; exact h
  have e : (txF a (if first = true then 1 else 2) .nil).length = 0 := by unfold txF; rfl
  obtain ⟨f, rfl⟩ : ∃ g, f = g + 1 := ⟨f - 1, by omega⟩
  unfold pars
  rw [if_pos (by rw [h.isB]; rfl), e]
theorem fo_read (hE : alE a = 0) : ∀ F : Fo, FoOk a F → SeqRead a s F ∧ OrRead a s true F ∧ OrRead a s false F ∧ ∀ k r p m ks n, F = .nd k r p m ks n → TreeRead a s k r p m ks
  | .nil, _ => ⟨seq_nil, or_nil _, or_nil _, fun _ _ _ _ _ _ e => by cases e⟩
  | .nd k r p m ks n, h => by
    obtain ⟨hn, hks, hnn⟩ := h
    obtain ⟨S1, O1, _, T1⟩ := fo_read hE ks hks
    obtain ⟨S2, _, O2, T2⟩ := fo_read hE n hnn
    have hT : TreeRead a s k r p m ks := by
      rcases hn.cases with ⟨h1 | h1, rfl, rfl, rfl⟩ | ⟨h1, h2, rfl, rfl, rfl⟩ | ⟨h1, h2, rfl, rfl, rfl⟩ | ⟨h1, h2, rfl, rfl, h3⟩ | ⟨h1, h2, rfl, h3⟩
      · rw [h1]; exact tree_seq S1
      · rw [h1]; exact tree_or O1
      · obtain ⟨k', r', p', m', ks', rfl⟩ := count_one h2
        exact tree_star (T1 _ _ _ _ _ _ rfl) h1
      · obtain rfl := count_zero h2
        exact tree_leaf h1
      · obtain rfl := count_zero h2
        rw [h1]; exact tree_rune h3
      · obtain rfl := count_zero h2
        rw [h1]; exact tree_cls hE hn.p0 hn.m0 h3
    obtain ⟨c, t, e, hs, hT'⟩ := hT
    refine ⟨fun q l f h hf => ?_, fun q l f h hf => ?_, fun q l f h hf => ?_, fun _ _ _ _ _ _ e' => ?_⟩
    · have et : txF a 0 (.nd k r p m ks n) = (c :: t) ++ txF a 0 n := by
        conv => lhs; unfold txF
        rw [if_neg (by decide), e]
        rfl
      rw [et, List.length_append, List.length_cons] at hf ⊢
      rw [et, List.append_assoc] at h
      have hc : Rest s q (c :: (t ++ (txF a 0 n ++ 41 :: l))) := h
      obtain ⟨c', l', e1, n1, n2⟩ := fo_head T2 (z := 41) (by decide) (by decide) 0 l
      obtain ⟨f, rfl⟩ : ∃ g, f = g + 1 := ⟨f - 1, by omega⟩
      have hr := node_read e hT' (f := f) h (.inr ⟨c', l', e1, n1, n2⟩) (by omega)
      have h2 := h.skip
      rw [List.length_cons] at h2
      have hr2 := S2 (q + (t.length + 1)) l f h2 (by omega)
      unfold pars
      rw [if_neg (by rw [hc.isB]; exact decide_ne hs.1), hr]
      simp only
      rw [hr2]
      unfold PR.map
      simp only [app_one]
      congr 1
      omega
    · have et : txF a 1 (.nd k r p m ks n) = (c :: t) ++ txF a 2 n := by
        conv => lhs; unfold txF
        rw [if_neg (by decide), e]
        rfl
      simp only [if_true] at h hf ⊢
      rw [et, List.length_append, List.length_cons] at hf ⊢
      rw [et, List.append_assoc] at h
      have hc : Rest s q (c :: (t ++ (txF a 2 n ++ 125 :: l))) := h
      obtain ⟨c', l', e1, n1, n2⟩ := fo_head T2 (z := 125) (by decide) (by decide) 2 l
      obtain ⟨f, rfl⟩ : ∃ g, f = g + 1 := ⟨f - 1, by omega⟩
      have hr := node_read e hT' (f := f) h (.inr ⟨c', l', e1, n1, n2⟩) (by omega)
      have h2 := h.skip
      rw [List.length_cons] at h2
      have hr2 := O2 (q + (t.length + 1)) l f h2 (by simp only [Bool.false_eq_true, if_false]; omega)
      simp only [Bool.false_eq_true, if_false] at hr2
      unfold pars
      rw [if_neg (by rw [hc.isB]; exact decide_ne hs.2.2.2.2), if_neg (by simp)]
      simp only [if_true]
      rw [hr]
      simp only
      rw [hr2]
      unfold PR.map
      simp only [app_one]
      congr 1
      omega
    · have et : txF a 2 (.nd k r p m ks n) = 124 :: ((c :: t) ++ txF a 2 n) := by
        conv => lhs; unfold txF
        rw [if_pos rfl, e]
        rfl
      simp only [Bool.false_eq_true, if_false] at h hf ⊢
      rw [et, List.length_cons, List.length_append, List.length_cons] at hf ⊢
      rw [et] at h
      have hc : Rest s q (124 :: ((c :: t) ++ (txF a 2 n ++ 125 :: l))) := by
        rw [← List.append_assoc]
        exact h
      obtain ⟨c', l', e1, n1, n2⟩ := fo_head T2 (z := 125) (by decide) (by decide) 2 l
      obtain ⟨f, rfl⟩ : ∃ g, f = g + 1 := ⟨f - 1, by omega⟩
      have hr := node_read e hT' (f := f) hc.next (.inr ⟨c', l', e1, n1, n2⟩) (by omega)
      have h2 := hc.next.skip
      rw [List.length_cons] at h2
      have hr2 := O2 (q + 1 + (t.length + 1)) l f h2 (by simp only [Bool.false_eq_true, if_false]; omega)
      simp only [Bool.false_eq_true, if_false] at hr2
      unfold pars
      rw [if_neg (by rw [hc.isB]; decide), if_neg (by rw [hc.isB]; decide)]
      simp only [Bool.false_eq_true, if_false]
      rw [hr]
      simp only
      rw [hr2]
      unfold PR.map
      simp only [app_one]
      congr 1
      omega
    · injection e' with e1 e2 e3 e4 e5 e6
      subst e1 e2 e3 e4 e5
      exact ⟨c, t, e, hs, hT'⟩
/-- The one text of a tree is read as that tree. -/
theorem tree_back (hE : alE a = 0) {F : Fo} (hF : FoOk a F) (h1 : OneT F) (hs : s.data.toList = txF a 0 F) : readF a s = .ok F s.size := by
  obtain ⟨k, r, p, m, ks, rfl⟩ := h1
  obtain ⟨_, _, _, T⟩ := fo_read (s := s) hE _ hF
  obtain ⟨c, t, e, hst, hT⟩ := T _ _ _ _ _ _ rfl
  have et : txF a 0 (.nd k r p m ks .nil) = c :: t := by
    conv => lhs; unfold txF
    rw [if_neg (by decide), e]
    simp [txF]
  have hsz : s.size = t.length + 1 := by
    have h2 : s.data.toList.length = s.size := Array.length_toList
    rw [← h2, hs, et, List.length_cons]
  have h : Rest s 0 ((c :: t) ++ []) := by
    unfold Rest
    rw [List.drop_zero, hs, et, List.append_nil]
  have hr := node_read e hT (f := 3 * s.size + 3) h (.inl rfl) (by omega)
  unfold readF
  rw [hr]
  simp only
  rw [Nat.zero_add, if_neg (by omega), hsz]
end
end Go.Proofs.YtimhlnndobfehaaDoor
namespace Go.Proofs.YtimhlnndobfehaaDoor
set_option linter.unusedVariables false

def foK (g : Nat → Fo) : List Int → Fo
  | [] => .nil
  | k :: r => (g k.toNat).app (foK g r)
def foN (ns : List Nd) : Nat → Nat → Fo
  | 0, _ => .nil
  | f + 1, i => .nd (ns.getD i nd0).kind (ns.getD i nd0).rune (ns.getD i nd0).plus (ns.getD i nd0).minus (foK (foN ns f) (ns.getD i nd0).kids) .nil
theorem pre_app : ∀ (f g : Fo) (b : Nat), (f.app g).pre b = ((f.pre b).1 ++ (g.pre (b + f.size)).1, (f.pre b).2 ++ (g.pre (b + f.size)).2)
  | .nil, g, b => by simp [Fo.app, Fo.pre, Fo.size]
  | .nd k r p m ks n, g, b => by
    have h := pre_app n g (b + (1 + ks.size))
    rw [Nat.add_assoc b] at h
    simp only [Fo.app, Fo.pre, Fo.size, h, List.append_assoc, List.cons_append]
theorem foK_pre {g : Nat → Fo} {h : Nat → Nat → List Nd} : ∀ (l : List Int) (b : Nat), (∀ k ∈ l, ∀ b, (g k.toNat).pre b = (h b k.toNat, [(b : Int)])) → (foK g l).pre b = subs h b l
  | [], b, _ => rfl
  | k :: r, b, e => by
    have h1 := e k (by simp) b
    have h2 := (pre_len (g k.toNat) b).1
    rw [h1] at h2
    unfold foK
    rw [pre_app, h1, ← h2, foK_pre r _ (fun k hk => e k (by simp [hk]))]
    rfl
theorem foN_pre {ns : List Nd} (hr : InR ns.length 0 ns) : ∀ (f b i : Nat), i < ns.length → ns.length - i ≤ f → (foN ns f i).pre b = (sub ns false f b i, [(b : Int)])
  | 0, _, _, hi, hf => by omega
  | f + 1, b, i, hi, hf => by
    have hk : kidsT false (ns.getD i nd0) = (ns.getD i nd0).kids := by simp [kidsT]
    have h := foK_pre (g := foN ns f) (h := sub ns false f) (ns.getD i nd0).kids (b + 1) fun k hk b => by
      have := inr_at i hr hi k hk
      exact foN_pre hr f b k.toNat (by omega) (by omega)
    unfold foN sub
    simp only [Fo.pre, h, hk, List.append_nil]
theorem foN_one {ns : List Nd} {f i : Nat} (hf : 1 ≤ f) : OneT (foN ns f i) := by
  obtain ⟨f, rfl⟩ : ∃ g, f = g + 1 := ⟨f - 1, by omega⟩
  exact ⟨_, _, _, _, _, rfl⟩
theorem foN_size {ns : List Nd} (hr : InR ns.length 0 ns) {f i : Nat} (hi : i < ns.length) (hf : ns.length - i ≤ f) : (foN ns f i).size = szN ns f i := by
  rw [← (pre_len _ 0).1, foN_pre hr f 0 i hi hf]
  exact sub_length ns false f 0 i
section
variable {a : Al}
theorem txF_app : ∀ (f g : Fo), txF a 0 (f.app g) = txF a 0 f ++ txF a 0 g
  | .nil, g => rfl
  | .nd k r p m ks n, g => by
    have h := txF_app n g
    unfold Fo.app
    conv => lhs; unfold txF
    conv => rhs; lhs; unfold txF
    simp only [if_true, h, List.append_assoc]
theorem txF_bar {t : Fo} (h : OneT t) (g : Fo) : txF a 1 (t.app g) = txF a 0 t ++ txF a 2 g ∧ txF a 2 (t.app g) = 124 :: (txF a 0 t ++ txF a 2 g) := by
  obtain ⟨k, r, p, m, ks, rfl⟩ := h
  have e : (Fo.nd k r p m ks .nil).app g = .nd k r p m ks g := rfl
  have e0 : txF a 0 (.nd k r p m ks .nil) = bodyT a k r p m (txF a 0 ks) (txF a 1 ks) := by
    conv => lhs; unfold txF
    rw [if_neg (by decide)]
    simp [txF]
  rw [e, e0]
  constructor
  · conv => lhs; unfold txF
    rw [if_neg (by decide)]
    rfl
  · conv => lhs; unfold txF
    rw [if_pos rfl]
    rfl
theorem foK_cat {g : Nat → Fo} {G : Int → List UInt8} : ∀ (l : List Int), (∀ k ∈ l, txF a 0 (g k.toNat) = G k) → txF a 0 (foK g l) = catT G l
  | [], _ => by unfold foK txF; rfl
  | k :: r, h => by
    unfold foK catT
    rw [txF_app, h k (by simp), foK_cat r fun k hk => h k (by simp [hk])]
theorem foK_or {g : Nat → Fo} {G : Int → List UInt8} : ∀ (l : List Int) (i : Nat), (∀ k ∈ l, OneT (g k.toNat) ∧ txF a 0 (g k.toNat) = G k) → txF a (if i = 0 then 1 else 2) (foK g l) = orT G i l
  | [], i, _ => by unfold foK txF; rfl
  | k :: r, i, h => by
    obtain ⟨h1, h2⟩ := h k (by simp)
    have ih := foK_or r (i + 1) fun k hk => h k (by simp [hk])
    rw [if_neg (by omega)] at ih
    unfold foK orT
    by_cases hi : i = 0
    · subst hi
      rw [if_pos rfl, (txF_bar h1 _).1, h2, ih]
      simp
    · rw [if_neg hi, (txF_bar h1 _).2, h2, ih, if_pos (by omega)]
      rfl
theorem cat_one {G : Int → List UInt8} {l : List Int} (h : l.length = 1) : catT G l = oneT G l := by
  match l, h with
  | [k], _ => simp [catT, oneT]
theorem body_txt {x : Nd} (hx : nodeOk x = true) {G : Int → List UInt8} : bodyT a x.kind x.rune x.plus x.minus (catT G x.kids) (orT G 0 x.kids) = txtX a G x := by
  unfold bodyT txtX
  by_cases h8 : x.kind = 8 ∨ x.kind = 9
  · have hl : x.kids.length = 1 := by
      unfold nodeOk at hx
      simp only [Bool.and_eq_true] at hx
      have h1 := hx.1.1
      rw [if_neg (by omega), if_pos h8, decide_eq_true_eq] at h1
      exact h1
    rw [cat_one hl]
    rfl
  · repeat' split
    all_goals first | rfl | omega
theorem tree_node {ns : List Nd} (ho : ∀ x ∈ ns, nodeOk x = true) {i : Nat} (hi : i < ns.length) : nodeOk (ns.getD i nd0) = true := by
  refine ho _ ?_
  rw [List.getD_eq_getElem?_getD, List.getElem?_eq_getElem hi]
  exact List.getElem_mem hi
theorem foN_txt {ns : List Nd} (hr : InR ns.length 0 ns) (ho : ∀ x ∈ ns, nodeOk x = true) : ∀ (f i : Nat), i < ns.length → ns.length - i ≤ f → txF a 0 (foN ns f i) = txtN a ns f i
  | 0, _, hi, hf => by omega
  | f + 1, i, hi, hf => by
    have h : ∀ k ∈ (ns.getD i nd0).kids, OneT (foN ns f k.toNat) ∧ txF a 0 (foN ns f k.toNat) = txtN a ns f k.toNat := fun k hk => by
      have := inr_at i hr hi k hk
      exact ⟨foN_one (by omega), foN_txt hr ho f k.toNat (by omega) (by omega)⟩
    have h1 := foK_cat (a := a) (g := foN ns f) (G := fun k => txtN a ns f k.toNat) _ fun k hk => (h k hk).2
    have h2 := foK_or (a := a) (g := foN ns f) (G := fun k => txtN a ns f k.toNat) _ 0 h
    rw [if_pos rfl] at h2
    have h3 := body_txt (a := a) (tree_node ho hi) (G := fun k => txtN a ns f k.toNat)
    unfold foN
    conv => lhs; unfold txF
    rw [if_neg (by decide), h1, h2, h3]
    simp [txF, txtN]
theorem ok_app : ∀ {f g : Fo}, FoOk a f → FoOk a g → FoOk a (f.app g)
  | .nil, _, _, h => h
  | .nd k r p m ks n, g, h, h' => ⟨h.1, h.2.1, ok_app h.2.2 h'⟩
theorem foK_ok {g : Nat → Fo} : ∀ (l : List Int), (∀ k ∈ l, OneT (g k.toNat) ∧ FoOk a (g k.toNat)) → FoOk a (foK g l) ∧ (foK g l).count = l.length
  | [], _ => ⟨trivial, rfl⟩
  | k :: r, h => by
    obtain ⟨h1, h2⟩ := h k (by simp)
    obtain ⟨h3, h4⟩ := foK_ok r fun k hk => h k (by simp [hk])
    unfold foK
    refine ⟨ok_app h2 h3, ?_⟩
    obtain ⟨_, _, _, _, _, e⟩ := h1
    rw [count_app, h4, e]
    simp only [Fo.count, List.length_cons]
    omega
theorem node_kids (x : Nd) : nodeOk ⟨x.kind, x.rune, x.plus, x.minus, List.replicate x.kids.length 0⟩ = nodeOk x := by
  have := nodeOk_kids (x := x) (l := List.replicate x.kids.length 0) (by simp)
  exact this
theorem foN_ok {ns : List Nd} (hr : InR ns.length 0 ns) (ho : ∀ x ∈ ns, nodeOk x = true ∧ ndFit a x = true ∧ 0 ≤ x.plus ∧ 0 ≤ x.minus) : ∀ (f i : Nat), i < ns.length → ns.length - i ≤ f → FoOk a (foN ns f i)
  | 0, _, hi, hf => by omega
  | f + 1, i, hi, hf => by
    obtain ⟨h1, h2⟩ := foK_ok (a := a) (g := foN ns f) (ns.getD i nd0).kids fun k hk => by
      have := inr_at i hr hi k hk
      exact ⟨foN_one (by omega), foN_ok hr ho f k.toNat (by omega) (by omega)⟩
    have hx := ho (ns.getD i nd0) (by
      rw [List.getD_eq_getElem?_getD, List.getElem?_eq_getElem hi]
      exact List.getElem_mem hi)
    refine ⟨⟨?_, ?_, hx.2.2.1, hx.2.2.2⟩, h1, trivial⟩
    · rw [h2, node_kids]
      exact hx.1
    · have := hx.2.1
      unfold ndFit at this ⊢
      exact this
end
theorem all_fit {a : Al} {ns : List Nd} (h : patE a ns = 0) : alE a = 0 ∧ IsTree ns ∧ ∀ x ∈ ns, ndFit a x = true := by
  obtain ⟨hE, ht⟩ := pat_zero h
  refine ⟨hE, ht, ?_⟩
  unfold patE at h
  rw [if_neg (by simp [hE])] at h
  unfold patOk at h
  cases hf : ns.all (ndFit a) with
  | true => exact List.all_eq_true.1 hf
  | false => rw [hf, Bool.and_false] at h; simp at h
theorem patE_zero {a : Al} {ns : List Nd} (hE : alE a = 0) (ht : IsTree ns) (hf : ∀ x ∈ ns, ndFit a x = true) : patE a ns = 0 := by
  unfold patE patOk
  rw [if_neg (by simp [hE]), (treeB_iff _).2 ht, List.all_eq_true.2 hf]
  rfl
/-- What is written is read as the same pattern, in its one numbering. -/
theorem text_read {a : Al} {ns : List Nd} (hu : ∀ x ∈ ns, 0 ≤ x.plus ∧ 0 ≤ x.minus) (h : (ptextS a ns).2 = 0) : parseS a (ptextS a ns).1 = (sub ns false ns.length 0 0, 0, 0) ∧ patE a ns = 0 := by
  unfold ptextS at h ⊢
  by_cases hp : patE a ns = 0
  · rw [if_neg (by simp [hp])] at h ⊢
    obtain ⟨hE, ht, hf⟩ := all_fit hp
    by_cases hl : 65536 < (txtN a ns ns.length 0).length
    · rw [if_pos hl] at h; simp at h
    · rw [if_neg hl]
      refine ⟨?_, hp⟩
      have hpos := ht.pos
      have hok := foN_ok (a := a) ht.inr (fun x hx => ⟨ht.ok x hx, hf x hx, hu x hx⟩) ns.length 0 (by omega) (by omega)
      have htx := foN_txt (a := a) ht.inr ht.ok ns.length 0 (by omega) (by omega)
      have hb := tree_back (s := ⟨(txtN a ns ns.length 0).toArray⟩) hE hok (foN_one (by omega)) (by rw [htx])
      have hsz : (ByteArray.mk (txtN a ns ns.length 0).toArray).size = (txtN a ns ns.length 0).length := by simp [ByteArray.size]
      have h1 := foN_size ht.inr (f := ns.length) (i := 0) (by omega) (by omega)
      rw [tree_size ht] at h1
      unfold parseS
      rw [if_neg (by simp [hE]), if_neg (by rw [hsz]; exact hl), hb]
      simp only
      rw [if_neg (by have := ht.max; omega), foN_pre ht.inr ns.length 0 0 (by omega) (by omega)]
  · rw [if_pos hp] at h
    exact absurd h hp
theorem sub_fit {a : Al} {ns : List Nd} (ht : IsTree ns) (hf : ∀ x ∈ ns, ndFit a x = true) (tn : Bool) : ∀ (f b i : Nat), i < ns.length → ∀ x ∈ sub ns tn f b i, ndFit a x = true
  | 0, _, _, _, x, hx => by simp [sub] at hx
  | f + 1, b, i, hi, x, hx => by
    unfold sub at hx
    rcases List.mem_cons.1 hx with rfl | hx
    · have := hf (ns.getD i nd0) (by
        rw [List.getD_eq_getElem?_getD, List.getElem?_eq_getElem hi]
        exact List.getElem_mem hi)
      unfold ndFit at this ⊢
      exact this
    · have key : ∀ (l : List Int) (b : Nat), (∀ k ∈ l, k ∈ (ns.getD i nd0).kids) → ∀ x ∈ (subs (sub ns tn f) b l).1, ndFit a x = true := by
        intro l
        induction l with
        | nil => intro b _ x hx; simp [subs] at hx
        | cons k r ih =>
          intro b hl x hx
          simp only [subs] at hx
          rcases List.mem_append.1 hx with hx | hx
          · have := inr_at i ht.inr hi k (hl k (by simp))
            exact sub_fit ht hf tn f b k.toNat (by omega) x hx
          · exact ih _ (fun k hk => hl k (by simp [hk])) x hx
      exact key _ _ (fun k hk => (kidsT_mem _ _ _).1 hk) x hx
theorem text_same {a : Al} {ns : List Nd} (h : patE a ns = 0) : sameB ns (sub ns false ns.length 0 0) = true ∧ patE a (sub ns false ns.length 0 0) = 0 ∧ (sub ns false ns.length 0 0).length = ns.length := by
  obtain ⟨hE, ht, hf⟩ := all_fit h
  obtain ⟨h1, h2⟩ := sub_tree ht false
  refine ⟨?_, patE_zero hE h1 (sub_fit ht hf false _ _ _ ht.pos), h2⟩
  unfold sameB
  rw [(treeB_iff _).2 ht, (treeB_iff _).2 h1, sub_again ht false false 0]
  simp
end Go.Proofs.YtimhlnndobfehaaDoor
namespace Go.Proofs.YtimhlnndobfehaaDoor
open Go.Lib
set_option linter.unusedVariables false

def btw (s : ByteArray) (k i : Nat) : List UInt8 := (s.data.toList.drop k).take (i - k)
theorem btw_join (s : ByteArray) {k j i : Nat} (h1 : k ≤ j) (h2 : j ≤ i) : btw s k j ++ btw s j i = btw s k i := by
  obtain ⟨x, rfl⟩ : ∃ x, j = k + x := ⟨j - k, by omega⟩
  obtain ⟨y, rfl⟩ : ∃ y, i = k + x + y := ⟨i - (k + x), by omega⟩
  unfold btw
  rw [show k + x - k = x by omega, show k + x + y - (k + x) = y by omega, show k + x + y - k = x + y by omega, List.take_add, List.drop_drop]
theorem btw_none (s : ByteArray) (k : Nat) : btw s k k = [] := by unfold btw; simp
theorem btw_ext (s : ByteArray) (k e : Nat) : (s.extract k e).data.toList = btw s k e := by
  unfold btw
  rw [ext_list, List.drop_take]
theorem btw_byte {s : ByteArray} {k : Nat} (h : k < s.size) : btw s k (k + 1) = [UInt8.ofNat (bt s k)] := by
  have hl : k < s.data.toList.length := by simpa using h
  unfold btw
  rw [List.drop_eq_getElem_cons hl, show k + 1 - k = 0 + 1 by omega, List.take_succ_cons, List.take_zero]
  congr 1
  have h1 := bt_get s k h
  rw [← h1, UInt8.ofNat_toNat]
  rfl
theorem btw_is {s : ByteArray} {k b : Nat} (h : isB s k b = true) : btw s k (k + 1) = [UInt8.ofNat b] := by
  have hl := isB_lt h
  unfold isB at h
  rw [Bool.and_eq_true, decide_eq_true_eq, decide_eq_true_eq] at h
  rw [btw_byte hl, h.2]
theorem findB_byte {s : ByteArray} {b : Nat} : ∀ {f k e : Nat}, findB s b f k = some e → bt s e = b
  | 0, k, e, h => by cases h
  | f + 1, k, e, h => by
    unfold findB at h
    split at h
    · split at h
      · rename_i hb
        injection h with h
        subst h
        exact hb
      · exact findB_byte h
    · cases h
def Txt (a : Al) (s : ByteArray) (m : Md) (k : Nat) (t : Fo) (i : Nat) : Prop := match m with
  | .stars t0 => OneT t0 → FoOk a t0 → FoOk a t ∧ txF a 0 t = txF a 0 t0 ++ btw s k i
  | .seq => FoOk a t ∧ txF a 0 t ++ [41] = btw s k i
  | .or first => FoOk a t ∧ txF a (if first then 1 else 2) t ++ [125] = btw s k i
  | _ => FoOk a t ∧ txF a 0 t = btw s k i
theorem tx_leaf {a : Al} (k r p m : Int) (ks : Fo) : txF a 0 (.nd k r p m ks .nil) = bodyT a k r p m (txF a 0 ks) (txF a 1 ks) := by
  conv => lhs; unfold txF
  rw [if_neg (by decide)]
  simp [txF]
theorem leaf_ok {a : Al} {k : Int} (hk : k = 1 ∨ k = 4 ∨ k = 5) : FoOk a (leafF k 0 0 0) := by
  refine ⟨⟨?_, ?_, Int.le_refl _, Int.le_refl _⟩, trivial, trivial⟩
  · rcases hk with rfl | rfl | rfl <;> rfl
  · rcases hk with rfl | rfl | rfl <;> rfl
section
variable {a : Al} {s : ByteArray}
theorem cls_text (hE : alE a = 0) {k : Nat} {t : Fo} {i : Nat} (h : clsP a s k = .ok t i) : FoOk a t ∧ txF a 0 t = 91 :: btw s k i := by
  unfold clsP at h
  split at h
  · cases h
  · rename_i e he
    have hb := findB_byte he
    have hat := findB_at he
    split at h
    · cases h
    · rename_i x hx
      simp only [PR.ok.injEq] at h
      obtain ⟨rfl, rfl⟩ := h
      unfold classP at hx
      split at hx
      · cases hx
      · rename_i y hy
        split at hx
        · rename_i hc
          injection hx with hx
          subst hx
          obtain ⟨hc1, hc2⟩ := hc
          have hcl : classOk a.feats.length y.1 y.2 = true := by
            unfold classT at hc1
            rw [if_neg (by simp [hE])] at hc1
            cases hq : classOk a.feats.length y.1 y.2 with
            | true => rfl
            | false => rw [hq] at hc1; simp at hc1
          refine ⟨⟨⟨by unfold nodeOk; simp [Fo.count], ?_, by omega, by omega⟩, trivial, trivial⟩, ?_⟩
          · unfold ndFit
            rw [if_neg (by show ¬ ((3 : Int) = 2); decide), if_pos rfl]
            exact hcl
          · unfold leafF
            rw [tx_leaf]
            show clsT a ⟨3, 0, (y.1 : Int), (y.2 : Int), []⟩ = _
            unfold clsT
            simp only [Int.toNat_natCast]
            rw [hc2, btw_ext, ← btw_join s (k := k) (j := e) (i := e + 1) (by omega) (by omega), btw_byte (by omega), hb]
            rfl
        · cases hx
theorem rune_text {k : Nat} {t : Fo} {i : Nat} (h : runeP a s k = .ok t i) : FoOk a t ∧ txF a 0 t = btw s k i := by
  unfold runeP at h
  split at h
  · cases h
  · rename_i hr
    have hr : (ofS a ((Lib.decodeGo (s.extract k s.size)).1 : Int)).2 = 0 := by simpa using hr
    obtain ⟨d1, d2, d3⟩ := dec_went a s k hr
    have hgo : Lib.decodeGo (s.extract k s.size) = Utf8.decode s k := by
      unfold Lib.decodeGo
      rw [if_neg (by rw [ByteArray.size_extract]; omega), decode_tail s k d1]
    rw [hgo] at h hr d2 d3
    simp only [PR.ok.injEq] at h
    obtain ⟨rfl, rfl⟩ := h
    have hl := ofS_letter hr
    refine ⟨⟨⟨by unfold nodeOk; simp [Fo.count], ?_, Int.le_refl _, Int.le_refl _⟩, trivial, trivial⟩, ?_⟩
    · unfold ndFit
      rw [if_pos rfl]
      exact decide_eq_true hr
    · unfold leafF
      rw [tx_leaf]
      show encodeRune ((Utf8.decode s k).1 : Int) = _
      have hne : Utf8.decode s k ≠ (65533, 1) := fun e => by
        rw [e] at hl
        revert hl
        decide
      have := encode_sound s k d1 hne
      rw [← encode_list, this, btw_ext]
theorem star_ok {t : Fo} {k : Int} (hk : k = 8 ∨ k = 9) (h1 : OneT t) (h : FoOk a t) : FoOk a (.nd k 0 0 0 t .nil) := by
  have hc : t.count = 1 := by obtain ⟨_, _, _, _, _, rfl⟩ := h1; rfl
  refine ⟨⟨?_, ?_, Int.le_refl _, Int.le_refl _⟩, h, trivial⟩
  · rw [hc]; rcases hk with rfl | rfl <;> rfl
  · rcases hk with rfl | rfl <;> rfl
theorem list_ok {t : Fo} {k : Int} (hk : k = 6 ∨ k = 7) (h : FoOk a t) : FoOk a (.nd k 0 0 0 t .nil) := by
  refine ⟨⟨?_, ?_, Int.le_refl _, Int.le_refl _⟩, h, trivial⟩
  · unfold nodeOk; rcases hk with rfl | rfl <;> simp
  · rcases hk with rfl | rfl <;> rfl
theorem pars_text (hE : alE a = 0) : ∀ (f : Nat) (m : Md) (k : Nat) (t : Fo) (i : Nat), pars a s f m k = .ok t i → Txt a s m k t i
  | 0, m, k, t, i, h => by cases m <;> cases h
  | f + 1, .one, k, t, i, h => by
    have leafy : ∀ {b : Nat} {q : Int}, isB s k b = true → (q = 1 ∨ q = 4 ∨ q = 5) → txF a 0 (leafF q 0 0 0) = [UInt8.ofNat b] → (PR.ok (leafF q 0 0 0) (k + 1) = .ok t i) → Txt a s .one k t i := fun hb hq hx e => by
      simp only [PR.ok.injEq] at e
      obtain ⟨rfl, rfl⟩ := e
      exact ⟨leaf_ok hq, by rw [hx, btw_is hb]⟩
    unfold pars at h
    split at h
    · rename_i hb; exact leafy hb (.inl rfl) rfl h
    split at h
    · rename_i hb; exact leafy hb (.inr (.inl rfl)) rfl h
    split at h
    · rename_i hb; exact leafy hb (.inr (.inr rfl)) rfl h
    split at h
    · rename_i hb
      obtain ⟨h1, h2⟩ := cls_text hE h
      have hw := cls_went h
      refine ⟨h1, ?_⟩
      rw [h2, ← btw_join s (k := k) (j := k + 1) (i := i) (by omega) (by omega), btw_is hb]
      rfl
    split at h
    · rename_i hb
      obtain ⟨t0, h0, rfl⟩ := PR.map_ok h
      obtain ⟨h1, h2⟩ := pars_text hE f .seq (k + 1) t0 i h0
      have hw := pars_went (dec_went a s) f .seq (k + 1) t0 i h0
      refine ⟨list_ok (.inl rfl) h1, ?_⟩
      rw [tx_leaf]
      show 40 :: (txF a 0 t0 ++ [41]) = _
      rw [h2, ← btw_join s (k := k) (j := k + 1) (i := i) (by omega) (by have := hw.1; omega), btw_is hb]
      rfl
    split at h
    · rename_i hb
      obtain ⟨t0, h0, rfl⟩ := PR.map_ok h
      obtain ⟨h1, h2⟩ := pars_text hE f (.or true) (k + 1) t0 i h0
      have hw := pars_went (dec_went a s) f (.or true) (k + 1) t0 i h0
      refine ⟨list_ok (.inr rfl) h1, ?_⟩
      rw [tx_leaf]
      show 123 :: (txF a 1 t0 ++ [125]) = _
      simp only [if_true] at h2
      rw [h2, ← btw_join s (k := k) (j := k + 1) (i := i) (by omega) (by have := hw.1; omega), btw_is hb]
      rfl
    exact rune_text h
  | f + 1, .node, k, t, i, h => by
    unfold pars at h
    split at h
    · rename_i t0 j h0
      obtain ⟨h1, h2⟩ := pars_text hE f .one k t0 j h0
      have hw := pars_went (dec_went a s) f .one k t0 j h0
      have hw2 := pars_went (dec_went a s) f (.stars t0) j t i h
      obtain ⟨h3, h4⟩ := pars_text hE f (.stars t0) j t i h hw.1 h1
      refine ⟨h3, ?_⟩
      rw [h4, h2, btw_join s (by have := hw.2.1; omega) (by have := hw2.2.1; omega)]
    · cases h
  | f + 1, .stars t0, k, t, i, h => by
    intro h1 hok
    unfold pars at h
    split at h
    · rename_i hb
      have hw2 := pars_went (dec_went a s) f (.stars (.nd 8 0 0 0 t0 .nil)) (k + 1) t i h
      obtain ⟨h3, h4⟩ := pars_text hE f _ (k + 1) t i h ⟨_, _, _, _, _, rfl⟩ (star_ok (.inl rfl) h1 hok)
      refine ⟨h3, ?_⟩
      rw [h4, tx_leaf]
      show (txF a 0 t0 ++ [42]) ++ _ = _
      rw [← btw_join s (k := k) (j := k + 1) (i := i) (by omega) (by have := hw2.2.1; omega), btw_is hb, List.append_assoc]
      rfl
    split at h
    · rename_i hb
      have hw2 := pars_went (dec_went a s) f (.stars (.nd 9 0 0 0 t0 .nil)) (k + 1) t i h
      obtain ⟨h3, h4⟩ := pars_text hE f _ (k + 1) t i h ⟨_, _, _, _, _, rfl⟩ (star_ok (.inr rfl) h1 hok)
      refine ⟨h3, ?_⟩
      rw [h4, tx_leaf]
      show (txF a 0 t0 ++ [63]) ++ _ = _
      rw [← btw_join s (k := k) (j := k + 1) (i := i) (by omega) (by have := hw2.2.1; omega), btw_is hb, List.append_assoc]
      rfl
    · simp only [PR.ok.injEq] at h
      obtain ⟨rfl, rfl⟩ := h
      exact ⟨hok, by rw [btw_none, List.append_nil]⟩
  | f + 1, .seq, k, t, i, h => by
    unfold pars at h
    split at h
    · rename_i hb
      simp only [PR.ok.injEq] at h
      obtain ⟨rfl, rfl⟩ := h
      exact ⟨trivial, by rw [btw_is hb]; rfl⟩
    split at h
    · rename_i t0 j h0
      obtain ⟨h1, h2⟩ := pars_text hE f .node k t0 j h0
      have hw := pars_went (dec_went a s) f .node k t0 j h0
      obtain ⟨t1, h5, rfl⟩ := PR.map_ok h
      obtain ⟨h3, h4⟩ := pars_text hE f .seq j t1 i h5
      have hw2 := pars_went (dec_went a s) f .seq j t1 i h5
      refine ⟨ok_app h1 h3, ?_⟩
      rw [txF_app, List.append_assoc, h4, h2, btw_join s (by have := hw.2.1; omega) (by have := hw2.1; omega)]
    · cases h
  | f + 1, .or first, k, t, i, h => by
    unfold pars at h
    split at h
    · rename_i hb
      simp only [PR.ok.injEq] at h
      obtain ⟨rfl, rfl⟩ := h
      exact ⟨trivial, by rw [btw_is hb]; cases first <;> rfl⟩
    split at h
    · cases h
    · rename_i hbar
      split at h
      · rename_i t0 j h0
        obtain ⟨h1, h2⟩ := pars_text hE f .node _ t0 j h0
        have hw := pars_went (dec_went a s) f .node _ t0 j h0
        obtain ⟨t1, h5, rfl⟩ := PR.map_ok h
        obtain ⟨h3, h4⟩ := pars_text hE f (.or false) j t1 i h5
        have hw2 := pars_went (dec_went a s) f (.or false) j t1 i h5
        refine ⟨ok_app h1 h3, ?_⟩
        simp only [Bool.false_eq_true, if_false] at h4
        cases first with
        | true =>
          simp only [if_true] at h2 hw ⊢
          rw [(txF_bar hw.1 _).1, List.append_assoc, h4, h2, btw_join s (by have := hw.2.1; omega) (by have := hw2.1; omega)]
        | false =>
          simp only [Bool.false_eq_true, if_false] at h2 hw ⊢
          have hb : isB s k 124 = true := by simpa using hbar
          rw [(txF_bar hw.1 _).2, List.cons_append, List.append_assoc, h4, h2, btw_join s (by have := hw.2.1; omega) (by have := hw2.1; omega), ← btw_join s (k := k) (j := k + 1) (i := i) (by omega) (by have := hw.2.1; have := hw2.1; omega), btw_is hb]
          rfl
      · cases h
theorem pars_bad (hE : alE a = 0) : ∀ (f : Nat) (m : Md) (k q : Nat), k ≤ s.size → pars a s f m k = .bad q → q ≤ s.size
  | 0, m, k, q, hk, h => by
    unfold pars at h
    injection h with h
    omega
  | f + 1, .one, k, q, hk, h => by
    unfold pars at h
    split at h
    · cases h
    split at h
    · cases h
    split at h
    · cases h
    split at h
    · rename_i hb
      have := isB_lt hb
      unfold clsP at h
      split at h
      · injection h with h; omega
      · split at h
        · injection h with h; omega
        · cases h
    split at h
    · rename_i hb
      have := isB_lt hb
      cases hr : pars a s f .seq (k + 1) with
      | ok t i => rw [hr] at h; cases h
      | bad q' =>
        rw [hr] at h
        injection h with h
        subst h
        exact pars_bad hE f .seq (k + 1) q' (by omega) hr
    split at h
    · rename_i hb
      have := isB_lt hb
      cases hr : pars a s f (.or true) (k + 1) with
      | ok t i => rw [hr] at h; cases h
      | bad q' =>
        rw [hr] at h
        injection h with h
        subst h
        exact pars_bad hE f (.or true) (k + 1) q' (by omega) hr
    · unfold runeP at h
      split at h
      · injection h with h; omega
      · cases h
  | f + 1, .node, k, q, hk, h => by
    unfold pars at h
    split at h
    · rename_i t0 j h0
      have hw := pars_went (dec_went a s) f .one k t0 j h0
      exact pars_bad hE f _ j q hw.2.2.1 h
    · rename_i q' h0
      injection h with h
      subst h
      exact pars_bad hE f .one k q' hk h0
  | f + 1, .stars t0, k, q, hk, h => by
    unfold pars at h
    split at h
    · rename_i hb
      have := isB_lt hb
      exact pars_bad hE f _ (k + 1) q (by omega) h
    split at h
    · rename_i hb
      have := isB_lt hb
      exact pars_bad hE f _ (k + 1) q (by omega) h
    · cases h
  | f + 1, .seq, k, q, hk, h => by
    unfold pars at h
    split at h
    · cases h
    split at h
    · rename_i t0 j h0
      have hw := pars_went (dec_went a s) f .node k t0 j h0
      cases hr : pars a s f .seq j with
      | ok t i => rw [hr] at h; cases h
      | bad q' =>
        rw [hr] at h
        injection h with h
        subst h
        exact pars_bad hE f .seq j q' hw.2.2.1 hr
    · rename_i q' h0
      injection h with h
      subst h
      exact pars_bad hE f .node k q' hk h0
  | f + 1, .or first, k, q, hk, h => by
    unfold pars at h
    split at h
    · cases h
    split at h
    · injection h with h; omega
    · rename_i hbar
      have hk2 : (if first = true then k else k + 1) ≤ s.size := by
        cases first with
        | true => simpa using hk
        | false =>
          have hb : isB s k 124 = true := by simpa using hbar
          have := isB_lt hb
          simp only [Bool.false_eq_true, if_false]
          omega
      split at h
      · rename_i t0 j h0
        have hw := pars_went (dec_went a s) f .node _ t0 j h0
        cases hr : pars a s f (.or false) j with
        | ok t i => rw [hr] at h; cases h
        | bad q' =>
          rw [hr] at h
          injection h with h
          subst h
          exact pars_bad hE f (.or false) j q' hw.2.2.1 hr
      · rename_i q' h0
        injection h with h
        subst h
        exact pars_bad hE f .node _ q' hk2 h0
end
/-- What is numbered as one meets it is a tree. -/
theorem pre_ok {n : Nat} : ∀ (F : Fo) (b : Nat), SubsOk n b (F.pre b).2 (F.pre b).1
  | .nil, b => ⟨by simp [Fo.pre, allKids], fun _ => trivial⟩
  | .nd k r p m ks nx, b => by
    have h1 := pre_ok (n := n) ks (b + 1)
    have h2 := pre_ok (n := n) nx (b + (1 + ks.size))
    have l1 := (pre_len ks (b + 1)).1
    have l2 := (pre_len nx (b + (1 + ks.size))).1
    refine ⟨?_, fun hb => ?_⟩
    · simp only [Fo.pre]
      have el : ((⟨k, r, p, m, (ks.pre (b + 1)).2⟩ : Nd) :: (ks.pre (b + 1)).1 ++ (nx.pre (b + (1 + ks.size))).1).length = 1 + ((ks.pre (b + 1)).1.length + (nx.pre (b + (1 + ks.size))).1.length) := by
        simp only [List.cons_append, List.length_cons, List.length_append]; omega
      have er : ∀ L1 L2 : Nat, (List.range' b (1 + (L1 + L2))).map (fun j : Nat => (j : Int)) = (b : Int) :: ((List.range' (b + 1) L1).map (fun j : Nat => (j : Int)) ++ (List.range' (b + 1 + L1) L2).map (fun j : Nat => (j : Int))) := fun L1 L2 => by
        rw [range_split, range_split, List.map_append, List.map_append]
        rfl
      have ek : allKids ((⟨k, r, p, m, (ks.pre (b + 1)).2⟩ : Nd) :: (ks.pre (b + 1)).1 ++ (nx.pre (b + (1 + ks.size))).1) = ((ks.pre (b + 1)).2 ++ allKids (ks.pre (b + 1)).1) ++ allKids (nx.pre (b + (1 + ks.size))).1 := by
        rw [List.cons_append]
        show (ks.pre (b + 1)).2 ++ allKids ((ks.pre (b + 1)).1 ++ _) = _
        rw [allKids_append, List.append_assoc]
      rw [el, er, ek, show b + 1 + (ks.pre (b + 1)).1.length = b + (1 + ks.size) by rw [l1]; omega]
      refine List.Perm.cons _ ?_
      refine List.Perm.trans ?_ (h1.perm.append h2.perm)
      have key : ∀ N K B : List Int, (N ++ (K ++ B)).Perm (K ++ (N ++ B)) := fun N K B => by
        rw [← List.append_assoc, ← List.append_assoc]
        exact List.perm_append_comm.append_right _
      exact key _ _ _
    · simp only [Fo.pre] at hb ⊢
      have el : ((⟨k, r, p, m, (ks.pre (b + 1)).2⟩ : Nd) :: (ks.pre (b + 1)).1 ++ (nx.pre (b + (1 + ks.size))).1).length = 1 + ((ks.pre (b + 1)).1.length + (nx.pre (b + (1 + ks.size))).1.length) := by
        simp only [List.cons_append, List.length_cons, List.length_append]; omega
      rw [el] at hb
      rw [List.cons_append]
      refine ⟨fun c hc => ?_, ?_⟩
      · have := h1.perm.subset (List.mem_append_left _ hc)
        obtain ⟨j, hj, rfl⟩ := List.mem_map.1 this
        simp only [List.mem_range'_1] at hj
        omega
      · have i1 := h1.inr (by omega)
        have i2 := h2.inr (by omega)
        rw [Int.natCast_add] at i1
        refine inr_append i1 ?_
        rw [l1]
        have e : ((b + (1 + ks.size) : Nat) : Int) = (b : Int) + 1 + (ks.size : Int) := by omega
        rw [e] at i2
        exact i2
theorem pre_nodes {a : Al} : ∀ (F : Fo) (b : Nat), FoOk a F → ∀ x ∈ (F.pre b).1, nodeOk x = true ∧ ndFit a x = true
  | .nil, _, _, x, hx => by simp [Fo.pre] at hx
  | .nd k r p m ks n, b, h, x, hx => by
    simp only [Fo.pre] at hx
    rw [List.cons_append] at hx
    rcases List.mem_cons.1 hx with rfl | hx
    · have h1 := h.1.ok
      have h2 := h.1.fit
      refine ⟨?_, ?_⟩
      · rw [← h1]
        unfold nodeOk
        simp only [List.length_replicate, (pre_len ks (b + 1)).2]
      · unfold ndFit at h2 ⊢
        exact h2
    · rcases List.mem_append.1 hx with hx | hx
      · exact pre_nodes ks _ h.2.1 x hx
      · exact pre_nodes n _ h.2.2 x hx
theorem pre_tree {a : Al} {F : Fo} (h : FoOk a F) (h1 : OneT F) (hm : F.size ≤ 256) : IsTree (F.pre 0).1 := by
  have hl := (pre_len F 0).1
  have hs := pre_ok (n := F.size) F 0
  have hpos := h1.pos
  have h2 : (F.pre 0).2 = [0] := by obtain ⟨k, r, p, m, ks, rfl⟩ := h1; rfl
  refine ⟨by omega, by omega, fun x hx => (pre_nodes F 0 h x hx).1, ?_, fun j j1 j2 => ?_⟩
  · rw [hl]
    exact hs.inr (by omega)
  · have hp := hs.perm.count_eq (j : Int)
    rw [h2, List.singleton_append, List.count_cons] at hp
    have h0 : (((0 : Int) == (j : Int)) = true) = False := by simp; omega
    rw [if_neg (by rw [h0]; exact id)] at hp
    have hnd : ((List.range' 0 (F.pre 0).1.length).map fun j : Nat => (j : Int)).Nodup :=
      List.pairwise_map.2 (List.Pairwise.imp (fun {a b} hne e => hne (by omega)) (show (List.range' 0 (F.pre 0).1.length).Nodup from List.nodup_range' 1))
    have hmem : (j : Int) ∈ (List.range' 0 (F.pre 0).1.length).map fun j : Nat => (j : Int) := List.mem_map.2 ⟨j, by simp only [List.mem_range'_1]; omega, rfl⟩
    have h3 := List.nodup_iff_count.1 hnd (j : Int)
    have h4 := List.count_pos_iff.2 hmem
    omega
/-- The text of what is numbered as one meets it. -/
theorem pre_text {a : Al} {Q : List Nd} : ∀ (F : Fo) (f b : Nat), FoOk a F → StandsF Q b (F.pre b).1 → F.size ≤ f → catT (fun k => txtN a Q f k.toNat) (F.pre b).2 = txF a 0 F ∧ orT (fun k => txtN a Q f k.toNat) 0 (F.pre b).2 = txF a 1 F ∧ ∀ i, orT (fun k => txtN a Q f k.toNat) (i + 1) (F.pre b).2 = txF a 2 F
  | .nil, _, _, _, _, _ => ⟨rfl, rfl, fun _ => rfl⟩
  | .nd k r p m ks n, f, b, h, hs, hf => by
    simp only [Fo.size] at hf
    simp only [Fo.pre] at hs
    obtain ⟨g, rfl⟩ : ∃ g, f = g + 1 := ⟨f - 1, by omega⟩
    have l1 := (pre_len ks (b + 1)).1
    have h0 : Q[b]? = some ⟨k, r, p, m, (ks.pre (b + 1)).2⟩ := by
      have := hs 0 _ rfl
      rwa [Nat.add_zero] at this
    have hL := hs.left
    have hR := hs.right
    have hK : StandsF Q (b + 1) (ks.pre (b + 1)).1 := fun j x hx => by
      rw [Nat.add_assoc, Nat.add_comm 1 j]
      exact hL (j + 1) x (by rw [List.getElem?_cons_succ]; exact hx)
    rw [List.length_cons, l1, show ks.size + 1 = 1 + ks.size by omega] at hR
    obtain ⟨a1, a2, _⟩ := pre_text ks g (b + 1) h.2.1 hK (by omega)
    obtain ⟨b1, b2, b3⟩ := pre_text n (g + 1) (b + (1 + ks.size)) h.2.2 hR (by omega)
    have hbody : txtN a Q (g + 1) ((b : Int)).toNat = bodyT a k r p m (txF a 0 ks) (txF a 1 ks) := by
      rw [Int.toNat_natCast]
      show txtX a (fun k => txtN a Q g k.toNat) (Q.getD b nd0) = _
      rw [List.getD_eq_getElem?_getD, h0, Option.getD_some, ← a1, ← a2]
      have hok : nodeOk ⟨k, r, p, m, (ks.pre (b + 1)).2⟩ = true := by
        rw [← h.1.ok]
        unfold nodeOk
        simp only [List.length_replicate, (pre_len ks (b + 1)).2]
      exact (body_txt (a := a) hok).symm
    simp only [Fo.pre]
    refine ⟨?_, ?_, fun i => ?_⟩
    · unfold catT
      rw [hbody, b1]
      conv => rhs; unfold txF
      rw [if_neg (by decide)]
      rfl
    · unfold orT
      rw [hbody, b3]
      conv => rhs; unfold txF
      rw [if_neg (by decide)]
      rfl
    · unfold orT
      rw [hbody, b3]
      conv => rhs; unfold txF
      rw [if_pos rfl, if_pos (by omega)]
      rfl
theorem read_zero {a : Al} {s : ByteArray} (h : (parseS a s).2.2 = 0) : ∃ t, readF a s = .ok t s.size ∧ alE a = 0 ∧ s.size ≤ 65536 ∧ t.size ≤ 256 ∧ parseS a s = ((t.pre 0).1, 0, 0) ∧ OneT t ∧ FoOk a t ∧ txF a 0 t = s.data.toList := by
  unfold parseS at h ⊢
  by_cases hE : alE a = 0
  · rw [if_neg (by simp [hE])] at h ⊢
    by_cases hs : 65536 < s.size
    · rw [if_pos hs] at h; simp at h
    · rw [if_neg hs] at h ⊢
      cases hr : readF a s with
      | bad q => rw [hr] at h; simp at h
      | ok t i =>
        rw [hr] at h
        simp only at h ⊢
        by_cases ht : 256 < t.size
        · rw [if_pos ht] at h; simp at h
        · rw [if_neg ht]
          unfold readF at hr
          split at hr
          · rename_i t' j hp
            split at hr
            · cases hr
            · rename_i hj
              simp only [PR.ok.injEq] at hr
              obtain ⟨rfl, rfl⟩ := hr
              have hw := pars_went (dec_went a s) _ .node 0 t' j hp
              obtain ⟨h1, h2⟩ := pars_text hE _ .node 0 t' j hp
              obtain rfl : j = s.size := by have := hw.2.2.1; omega
              refine ⟨t', rfl, hE, by omega, by omega, rfl, hw.1, h1, ?_⟩
              rw [h2]
              unfold btw
              rw [List.drop_zero, Nat.sub_zero]
              exact List.take_of_length_le (by simp)
          · cases hr
  · rw [if_pos hE] at h
    exact absurd h hE
/-- What is read is written again, and may be. -/
theorem read_text {a : Al} {s : ByteArray} (h : (parseS a s).2.2 = 0) : (parseS a s).2.1 = 0 ∧ patE a (parseS a s).1 = 0 ∧ ptextS a (parseS a s).1 = (s, 0) := by
  obtain ⟨t, _, hE, hs, hm, e, h1, hok, htx⟩ := read_zero h
  rw [e]
  have ht := pre_tree hok h1 hm
  have hp : patE a (t.pre 0).1 = 0 := patE_zero hE ht fun x hx => (pre_nodes t 0 hok x hx).2
  refine ⟨rfl, hp, ?_⟩
  have hl := (pre_len t 0).1
  have h2 : (t.pre 0).2 = [0] := by obtain ⟨k, r, p, m, ks, rfl⟩ := h1; rfl
  have h3 := (pre_text (a := a) (Q := (t.pre 0).1) t (t.pre 0).1.length 0 hok (fun j x hx => by rw [Nat.zero_add]; exact hx) (by omega)).1
  rw [h2] at h3
  have h4 : txtN a (t.pre 0).1 (t.pre 0).1.length 0 = s.data.toList := by
    rw [← htx, ← h3]
    simp [catT]
  have hsz : s.data.toList.length = s.size := Array.length_toList
  unfold ptextS
  rw [if_neg (by simp [hp]), h4, if_neg (by omega)]
theorem read_wrong {a : Al} {s : ByteArray} (h : (parseS a s).2.2 ≠ 0) : (parseS a s).1 = [] ∧ (parseS a s).2.1 ≤ s.size := by
  unfold parseS at h ⊢
  by_cases hE : alE a = 0
  · rw [if_neg (by simp [hE])] at h ⊢
    by_cases hs : 65536 < s.size
    · rw [if_pos hs]; exact ⟨rfl, Nat.zero_le _⟩
    · rw [if_neg hs] at h ⊢
      cases hr : readF a s with
      | bad q =>
        refine ⟨rfl, ?_⟩
        unfold readF at hr
        split at hr
        · rename_i t' j hp
          have hw := pars_went (dec_went a s) _ .node 0 t' j hp
          split at hr
          · injection hr with hr
            have := hw.2.2.1
            simp only
            omega
          · cases hr
        · rename_i q' hp
          injection hr with hr
          subst hr
          exact pars_bad hE _ .node 0 q' (Nat.zero_le _) hp
      | ok t i =>
        rw [hr] at h
        simp only at h ⊢
        by_cases ht : 256 < t.size
        · rw [if_pos ht]; exact ⟨rfl, Nat.zero_le _⟩
        · rw [if_neg ht] at h; simp at h
  · rw [if_pos hE]
    exact ⟨rfl, Nat.zero_le _⟩
end Go.Proofs.YtimhlnndobfehaaDoor
namespace Go.Proofs.YtimhlnndobfehaaDoor
open Go.RowKit
set_option linter.unusedVariables false

theorem fits_ints {w : World} {lo hi : Nat} {news : List Value} {xs : List Int} (h : Fits 1 (vInt .i64) w lo hi news xs) : news = xs.map (Value.int .i64) := by
  have hl := h.1
  rw [Nat.mul_one] at hl
  refine List.ext_getElem? fun i => ?_
  rw [List.getElem?_map]
  by_cases hi' : i < xs.length
  · have h2 := (h.2 i _ (List.getElem?_eq_getElem hi')).1
    rw [List.getElem?_eq_getElem hi', List.getElem?_eq_getElem (by omega)]
    have e : (slot 1 news i)[0]? = some (Value.int .i64 xs[i]) := by rw [h2]; rfl
    unfold slot at e
    rw [List.getElem?_take, if_pos (by omega), List.getElem?_drop] at e
    rw [List.getElem?_eq_getElem (by omega)] at e
    simp only [Nat.mul_one, Nat.add_zero] at e
    rw [e]
    rfl
  · rw [List.getElem?_eq_none (by omega), List.getElem?_eq_none (by omega)]
    rfl
theorem ints_kin {k : IntKind} {w : World} {lo hi : Nat} {A : Option Addr} {l : List Int} (h : Sl 1 (vInt k) w lo hi A l) : ∀ n ∈ l, kin k n := by
  intro n hn
  obtain ⟨i, hi', rfl⟩ := List.getElem_of_mem hn
  obtain ⟨_, _, _, _, _, _, h2⟩ := ints_at h hi'
  exact h2
theorem int_one {k : IntKind} : ∀ {w lo hi cs x}, vInt k w lo hi cs x → ∀ u ∈ cs, u.oneCell' = true := by
  intro w lo hi cs x h u hu
  rw [h.1, List.mem_singleton] at hu
  subst hu
  rfl
end Go.Proofs.YtimhlnndobfehaaDoor
namespace Go.Proofs.YtimhlnndobfehaaDoor
open Go.RowKit
set_option linter.unusedVariables false

theorem Nodes.kid_set {w : World} {lo : Nat} {v : Value} {es : List (Nd × Value)} (h : Nodes w lo v es) {i k : Nat} {x : Nd} {u : Value} {g : Nat} (hi : es[i]? = some (x, u)) (hg : u.ownBlock = some g) (hk : k < x.kids.length) {n : Int} (hn : kin .i64 n) :
    Nodes (w.setCell ⟨g, k, none⟩ (.int .i64 n)) lo v (es.set i ({ x with kids := x.kids.set k n }, u)) := by
  have hil : i < es.length := (List.getElem?_eq_some_iff.1 hi).1
  have hold : ∀ (j : Nat) (y : Nd) (t : Value), (es.set i ({ x with kids := x.kids.set k n }, u))[j]? = some (y, t) → (j ≠ i ∧ es[j]? = some (y, t)) ∨ (j = i ∧ y = { x with kids := x.kids.set k n } ∧ t = u) := by
    intro j y t hj
    rw [List.getElem?_set] at hj
    by_cases e : i = j
    · subst e
      simp only [if_true, hil, Option.some.injEq, Prod.mk.injEq] at hj
      exact .inr ⟨rfl, hj.1.symm, hj.2.symm⟩
    · rw [if_neg e] at hj
      exact .inl ⟨fun e2 => e e2.symm, hj⟩
  have hold2 : ∀ (j : Nat) (y : Nd) (t : Value), (es.set i ({ x with kids := x.kids.set k n }, u))[j]? = some (y, t) → ∃ y', es[j]? = some (y', t) := by
    intro j y t hj
    rcases hold j y t hj with ⟨_, hj⟩ | ⟨rfl, rfl, rfl⟩
    · exact ⟨y, hj⟩
    · exact ⟨x, hi⟩
  have hout : ∀ b, b ≠ g → (w.setCell ⟨g, k, none⟩ (.int .i64 n)).heap[b]? = w.heap[b]? := fun b hb => Below.heap_setCell _ _ _ b hb
  have hflat : flat (es.set i ({ x with kids := x.kids.set k n }, u)) = flat es := by
    have h1 := flat_set (u' := u) (x.kids.set k n) hi
    rw [← h1]
    refine List.ext_getElem? fun j => ?_
    rw [List.getElem?_set]
    by_cases e : i * 5 + 4 = j
    · subst e
      rw [if_pos rfl, if_pos (by rw [flat_length]; omega), flat_get (by omega) hi]
      rfl
    · rw [if_neg e]
  refine ⟨?_, fun j y t hj => ?_, fun j y t b hj hb => ?_, fun j l y t z s b hj hl hbt hbs => ?_⟩
  · rw [List.length_set, hflat]
    exact own_same h.row fun b hb => hout b (fun e => h.far i x u g hi hg (by rw [hb, e]))
  · rcases hold j y t hj with ⟨hne, hj⟩ | ⟨rfl, rfl, rfl⟩
    · exact ⟨own_same (h.kid j y t hj).1 fun b hb => hout b (fun e => hne (h.apart j i y t x u g hj hi (by rw [hb, e]) hg)), (h.kid j y t hj).2⟩
    · obtain ⟨h1, h2, h3, h4, h5, h6⟩ := h.kid _ x _ hi
      refine ⟨?_, h2, h3, h4, h5, fun m hm => ?_⟩
      · have := own_set h1 hg (j := k) (by simpa using hk) (.int .i64 n)
        simpa [List.map_set] using this
      · rcases List.mem_or_eq_of_mem_set hm with hm | rfl
        · exact h6 m hm
        · exact hn
  · obtain ⟨y', hy⟩ := hold2 j y t hj
    exact h.far j y' t b hy hb
  · obtain ⟨y', hy⟩ := hold2 j y t hj
    obtain ⟨z', hz⟩ := hold2 l z s hl
    exact h.apart j l y' t z' s b hy hz hbt hbs
theorem flat_put {y : Nd} {t : Value} : ∀ {es : List (Nd × Value)} {i : Nat}, i < es.length →
    (((((flat es).set (i * 5) (.int .u8 y.kind)).set (i * 5 + 1) (.int .i32 y.rune)).set (i * 5 + 2) (.int .u32 y.plus)).set (i * 5 + 3) (.int .u32 y.minus)).set (i * 5 + 4) t = flat (es.set i (y, t))
  | [], i, h => by simp at h
  | e :: es, 0, h => rfl
  | e :: es, i + 1, h => by
    have key : ∀ (r : List Value) (j : Nat) (a : Value), (ndCells e.1 e.2 ++ r).set ((i + 1) * 5 + j) a = ndCells e.1 e.2 ++ r.set (i * 5 + j) a := by
      intro r j a
      rw [List.set_append_right _ _ (by simp only [ndCells, List.length_cons, List.length_nil]; omega)]
      congr 2
      simp only [ndCells, List.length_cons, List.length_nil]
      omega
    have k0 : ∀ (r : List Value) (a : Value), (ndCells e.1 e.2 ++ r).set ((i + 1) * 5) a = ndCells e.1 e.2 ++ r.set (i * 5) a := fun r a => key r 0 a
    rw [flat_cons, k0, key, key, key, key, flat_put (es := es) (i := i) (by simpa using h)]
    rfl
/-- A node written over whole. -/
theorem Nodes.node_set {w : World} {lo : Nat} {v : Value} {es : List (Nd × Value)} (h : Nodes w lo v es) {i : Nat} (hi : i < es.length) {g : Nat} (hg : v.ownBlock = some g) (y : Nd) (hy : y.kids = []) (hk : kinNd y) :
    Nodes (((((w.setCell ⟨g, i * 5, none⟩ (.int .u8 y.kind)).setCell ⟨g, i * 5 + 1, none⟩ (.int .i32 y.rune)).setCell ⟨g, i * 5 + 2, none⟩ (.int .u32 y.plus)).setCell ⟨g, i * 5 + 3, none⟩ (.int .u32 y.minus)).setCell ⟨g, i * 5 + 4, none⟩ (.slice none 0 0)) lo v (es.set i (y, .slice none 0 0)) := by
  have hold : ∀ (j : Nat) (z : Nd) (t : Value), (es.set i (y, .slice none 0 0))[j]? = some (z, t) → (j ≠ i ∧ es[j]? = some (z, t)) ∨ (j = i ∧ z = y ∧ t = .slice none 0 0) := by
    intro j z t hj
    rw [List.getElem?_set] at hj
    by_cases e : i = j
    · subst e
      simp only [if_true, hi, Option.some.injEq, Prod.mk.injEq] at hj
      exact .inr ⟨rfl, hj.1.symm, hj.2.symm⟩
    · rw [if_neg e] at hj
      exact .inl ⟨fun e2 => e e2.symm, hj⟩
  have hout : ∀ b, b ≠ g → (((((w.setCell ⟨g, i * 5, none⟩ (.int .u8 y.kind)).setCell ⟨g, i * 5 + 1, none⟩ (.int .i32 y.rune)).setCell ⟨g, i * 5 + 2, none⟩ (.int .u32 y.plus)).setCell ⟨g, i * 5 + 3, none⟩ (.int .u32 y.minus)).setCell ⟨g, i * 5 + 4, none⟩ (.slice none 0 0)).heap[b]? = w.heap[b]? := by
    intro b hb
    rw [Below.heap_setCell _ _ _ b hb, Below.heap_setCell _ _ _ b hb, Below.heap_setCell _ _ _ b hb, Below.heap_setCell _ _ _ b hb, Below.heap_setCell _ _ _ b hb]
  have hnone : ∀ b, (Value.slice none 0 0).ownBlock ≠ some b := fun b => by simp [Value.ownBlock]
  refine ⟨?_, fun j z t hj => ?_, fun j z t b hj hb => ?_, fun j l z t x s b hj hl hbt hbs => ?_⟩
  · have hf := flat_put (y := y) (t := .slice none 0 0) hi
    have hl : (flat es).length = es.length * 5 := flat_length es
    rw [List.length_set, ← hf]
    exact own_set (own_set (own_set (own_set (own_set h.row hg (by omega) _) hg (by simp only [List.length_set]; omega) _) hg (by simp only [List.length_set]; omega) _) hg (by simp only [List.length_set]; omega) _) hg (by simp only [List.length_set]; omega) _
  · rcases hold j z t hj with ⟨hne, hj⟩ | ⟨rfl, rfl, rfl⟩
    · exact ⟨own_same (h.kid j z t hj).1 fun b hb => hout b (fun e => h.far j z t b hj hb (by rw [hg, e])), (h.kid j z t hj).2⟩
    · rw [hy]
      exact ⟨World.ownsRow_nil _ _ _ _, hk⟩
  · rcases hold j z t hj with ⟨hne, hj⟩ | ⟨rfl, rfl, rfl⟩
    · exact h.far j z t b hj hb
    · exact absurd hb (hnone b)
  · rcases hold j z t hj with ⟨hne, pj⟩ | ⟨rfl, rfl, rfl⟩
    · rcases hold l x s hl with ⟨hne2, pl⟩ | ⟨rfl, rfl, rfl⟩
      · exact h.apart j l z t x s b pj pl hbt hbs
      · exact absurd hbs (hnone b)
    · exact absurd hbt (hnone b)
end Go.Proofs.YtimhlnndobfehaaDoor
namespace Go.Proofs.YtimhlnndobfehaaDoor
open Go.RowKit
set_option linter.unusedVariables false

def SpoilSt (w : World) (lo hi n g c : Nat) (es : List (Nd × Value)) (wr : World) : Prop :=
  Row wr w.heap.size 28 [.slice (some ⟨g, 0, none⟩) n c] ∧ Nodes wr lo (.slice (some ⟨g, 0, none⟩) n c) es ∧ es.length = n ∧ Fr (fun b => lo ≤ b ∧ b < hi) w wr ∧ ∀ (i : Nat) (x : Nd) (t : Value) (b : Nat), es[i]? = some (x, t) → t.ownBlock = some b → b < hi
theorem set_some {α β : Type} {es : List (α × β)} {i j : Nat} {x x' : α} {u t : β} (h : (es.set i (x', u))[j]? = some (x, t)) : (∃ y, es[j]? = some (y, t)) ∨ t = u := by
  rw [List.getElem?_set] at h
  split at h
  · split at h
    · simp only [Option.some.injEq, Prod.mk.injEq] at h
      exact .inr h.2.symm
    · cases h
  · exact .inl ⟨x, h⟩

end Go.Proofs.YtimhlnndobfehaaDoor
namespace Go.Proofs.YtimhlnndobfehaaDoor
open Go.RowKit
set_option linter.unusedVariables false

def TwinSt (w : World) (A : Option Addr) (c : Nat) (ns : List Nd) (k : Nat) (wr : World) : Prop :=
  ∃ v es, Row wr w.heap.size 28 [.slice A ns.length c] ∧ Row wr (w.heap.size + 1) 28 [.slice none 0 0] ∧ Row wr (w.heap.size + 2) 28 [v] ∧ Nodes wr w.heap.size v es ∧ es.map Prod.fst = ns.take k ∧ Below w.heap.size w wr

set_option maxHeartbeats 4000000 in
theorem plong_any (A : Option Addr) (c lo hi : Nat) (ls : List (List Nd)) (w : World) (hm : ls.length ≤ 9223372036854775807) (hhi : hi ≤ w.heap.size) (hsl : Sl 1 vPat w lo hi A ls) :
    Calls Tryd.prog 11 #[.slice A ls.length c] w fun e w' => ∃ b, e = .returned (.bool b) ∧ w = w' ∧ (b = false → ls.length ≤ 300 ∧ ∀ l ∈ ls, l.length ≤ 2000) := by
  by_cases hbig : 300 < ls.length
  · go_enter Tryd.func11, Tryd.ntmps11
    go_wp2_with fail
    go_ret
    exact ⟨true, rfl, rfl, fun h => nomatch h⟩
  · go_enter Tryd.func11, Tryd.ntmps11
    go_wp2_with fail
    go_loopw [3, 4] (fun m i wr => ∃ k N : Nat, k ≤ ls.length ∧ i = .int .i64 k ∧ m = .int .i64 N ∧ N ≤ 2000 * k ∧ Hid (∀ l ∈ ls.take k, l.length ≤ 2000) ∧ wr = w) (fun _ i _ => ls.length - (intOf i).toNat)
    case atStart => exact ⟨0, 0, by omega, rfl, rfl, by omega, by show ∀ _ ∈ _, _; simp, rfl⟩
    case round =>
      obtain ⟨k, N, hk, rfl, rfl, hN, hall, rfl⟩ := hrel
      by_cases hlt : k < ls.length
      · obtain ⟨b, off, B, cc, rfl, _, hb, ⟨c0, f0⟩, hkl, hkc, hks⟩ := pat_at hsl hlt
        have hstep : Hid (ls[k].length ≤ 2000 → ∀ l ∈ ls.take (k + 1), l.length ≤ 2000) := by
          intro h l hl
          rw [List.take_succ_eq_append_getElem hlt, List.mem_append] at hl
          rcases hl with hl | hl
          · exact hall.out l hl
          · rw [List.mem_singleton.1 hl]; exact h
        generalize ls[k] = x at *
        have hxm : x.length ≤ 9223372036854775807 := by unfold maxLen at hkc; omega
        by_cases hx : 2000 < x.length
        · go_wp2_with fail
          go_ret
          exact ⟨true, rfl, rfl, fun h => nomatch h⟩
        · have hall2 := Lib.hid (hstep.out (by omega))
          clear hall hstep
          go_wp2_with fail
          exact ⟨⟨k + 1, N + x.length, by omega, by go_num, by go_num, by omega, hall2, trivial⟩, by simp [intOf]; omega⟩
      · obtain rfl : k = ls.length := by omega
        have hfin : Hid (∀ l ∈ ls, l.length ≤ 2000) := by
          have := hall.out
          rwa [List.take_length] at this
        clear hall
        go_wp2_with fail
        go_ret
        exact ⟨decide _, rfl, rfl, fun _ => ⟨by omega, hfin.out⟩⟩
end Go.Proofs.YtimhlnndobfehaaDoor
