/- Names of features: the program's and the document's. -/
import Derived.Test.YtfjccjjdgbkbiaaDoorFeat1
import Derived.Test.YtfjccjjdgbkbiaaDoorRuneAt
import Derived.Test.YtfjccjjdgbkbiaaDoorShelf
import Derived.Shelf.Strings.SlTrimAscii
namespace Go.Proofs.YtfjccjjdgbkbiaaDoor
open Go.RowKit
set_option linter.unusedVariables false

def abcB : ByteArray := ⟨#[97, 98, 99, 100, 101, 102, 103, 104, 105, 106, 107, 108, 109, 110, 111, 112, 113, 114, 115, 116, 117, 118, 119, 120, 121, 122]⟩
theorem abc_has (b : UInt8) : abcB.data.toList.contains b = lower b := by
  have h : ∀ n : Fin 256, abcB.data.toList.contains (UInt8.ofNat n.val) = lower (UInt8.ofNat n.val) := by decide +kernel
  have := h ⟨b.toNat, b.toNat_lt⟩
  simpa using this
theorem drop_all {p : UInt8 → Bool} : ∀ l : List UInt8, (∀ x ∈ l.dropWhile p, p x = true) → ∀ x ∈ l, p x = true
  | [], _, x, hx => by cases hx
  | a :: r, h, x, hx => by
    by_cases ha : p a = true
    · rw [List.dropWhile_cons, if_pos ha] at h
      rcases List.mem_cons.1 hx with rfl | hx
      · exact ha
      · exact drop_all r h x hx
    · rw [List.dropWhile_cons, if_neg ha] at h
      exact h x hx
theorem drop_nil {p : UInt8 → Bool} : ∀ l : List UInt8, (∀ x ∈ l, p x = true) → l.dropWhile p = []
  | [], _ => rfl
  | a :: r, h => by
    rw [List.dropWhile_cons, if_pos (h a (List.mem_cons_self ..))]
    exact drop_nil r fun x hx => h x (List.mem_cons_of_mem _ hx)
theorem trim_all (l : List UInt8) : Lib.trimS l abcB.data.toList = [] ↔ l.all lower = true := by
  have e : (fun b => abcB.data.toList.contains b) = lower := funext abc_has
  unfold Lib.trimS Lib.trimLeftS Lib.trimRightS
  rw [e, List.all_eq_true]
  constructor
  · intro h x hx
    have h1 : ∀ x ∈ (List.dropWhile lower l.reverse).reverse, lower x = true := drop_all _ (by rw [h]; simp)
    exact drop_all l.reverse (fun y hy => h1 y (List.mem_reverse.2 hy)) x (List.mem_reverse.2 hx)
  · intro h
    rw [drop_nil l.reverse (fun x hx => h x (List.mem_reverse.1 hx))]
    rfl
theorem trim_any (s : ByteArray) (w : World) (hs : s.size ≤ 32) : Calls Tryd.prog 102 #[.string s, .string abcB] w fun e w' => e = .returned (.string ⟨(Lib.trimS s.data.toList abcB.data.toList).toArray⟩) ∧ Below w.heap.size w w' :=
  Any.strings_Trim_laid Tryd.laysTrim (by kernel_rfl) s abcB w (by omega) (by decide) (ascii_of_all (by decide))
theorem nameOk_eq (s : ByteArray) : nameOk s = (decide (1 ≤ s.size) && decide (s.size ≤ 32) && s.data.toList.all lower) := rfl
theorem toList_nil (s : ByteArray) (h : s.size = 0) : s.toList = [] := by
  rw [ByteArray.toList_eq]
  exact List.eq_nil_of_length_eq_zero (by simpa using h)
theorem toList_ne (s : ByteArray) (h : 0 < s.size) : ¬ s.toList = [] := by
  rw [ByteArray.toList_eq]
  intro e
  have h1 : s.data.toList.length = 0 := by rw [e]; rfl
  have h2 : s.data.toList.length = s.size := Array.length_toList
  omega
theorem toList_ne' (s : ByteArray) (h : 0 < s.size) : s.toList.isEmpty = false := by
  have := toList_ne s h
  cases hh : s.toList with
  | nil => exact absurd hh this
  | cons a l => rfl
set_option maxHeartbeats 2000000 in
theorem named_any (s : ByteArray) (w : World) (hs : s.size ≤ maxLen) : Calls Tryd.prog 83 #[.string s] w fun e w' => e = .returned (.bool (nameOk s)) ∧ Below w.heap.size w w' := by
  have hs0 := hs
  unfold maxLen at hs0
  by_cases h0 : s.size = 0
  · have HN : Hid (nameOk s = false) := by show _ = _; rw [nameOk_eq, decide_eq_false (by omega), Bool.false_and, Bool.false_and]
    have h1 := toList_nil s h0
    clear h0
    go_enter Tryd.func83, Tryd.ntmps83
    go_wp2_with fail
    go_ret
    exact ⟨by rw [HN.out]; rfl, Below.refl _ _⟩
  · by_cases h32 : 32 < s.size
    · have HN : Hid (nameOk s = false) := by show _ = _; rw [nameOk_eq, decide_eq_false (p := s.size ≤ 32) (by omega), Bool.and_false, Bool.false_and]
      go_enter Tryd.func83, Tryd.ntmps83
      have h1 := toList_ne s (by omega)
      have h1' := toList_ne' s (by omega)
      go_wp2_with fail
      go_ret
      exact ⟨by rw [HN.out]; rfl, Below.refl _ _⟩
    · have HT := Lib.hid (fun w => trim_any s w (by omega))
      have HN : Hid (nameOk s = s.data.toList.all lower) := by show _ = _; rw [nameOk_eq, decide_eq_true (by omega), decide_eq_true (by omega), Bool.true_and, Bool.true_and]
      have HA := Lib.hid (trim_all s.data.toList)
      have h1 := toList_ne s (by omega)
      have h1' := toList_ne' s (by omega)
      generalize hx : Lib.trimS s.data.toList abcB.data.toList = x at *
      have HX := Lib.hid hx
      clear hx
      unfold abcB at HT
      cases hall : s.data.toList.all lower with
      | true =>
        have hxn : x = [] := HA.out.2 hall
        subst hxn
        rw [hall] at HN
        clear hall HA
        go_enter Tryd.func83, Tryd.ntmps83
        go_wp2_with (refine (HT.out _).mono ?_; rintro e w1 ⟨rfl, hb1⟩)
        go_ret
        exact ⟨by rw [HN.out]; rfl, hb1⟩
      | false =>
        have hxn : ¬ x = [] := fun e => by
          have := HA.out.1 e
          rw [hall] at this
          cases this
        have hx2 : ¬ (⟨x.toArray⟩ : ByteArray).toList = [] := by
          rw [ByteArray.toList_eq]
          simpa using hxn
        rw [hall] at HN
        clear hall HA HX
        generalize (⟨x.toArray⟩ : ByteArray) = y at *
        have hx3 : y.toList.isEmpty = false := by
          cases hh : y.toList with
          | nil => exact absurd hh hx2
          | cons a l => rfl
        go_enter Tryd.func83, Tryd.ntmps83
        go_wp2_with (refine (HT.out _).mono ?_; rintro e w1 ⟨rfl, hb1⟩)
        go_ret
        exact ⟨by rw [HN.out]; rfl, hb1⟩

set_option maxHeartbeats 2000000 in
theorem rname_any (s : ByteArray) (w : World) (hs : s.size ≤ maxLen) : Calls Tryd.prog 69 #[.string s] w fun e w' => e = .returned (.bool (nameOk s)) ∧ w = w' := by
  have hs0 := hs
  unfold maxLen at hs0
  by_cases h0 : s.size < 1 ∨ 32 < s.size
  · have HN : Hid (nameOk s = false) := by
      show _ = _
      rw [nameOk_eq]
      rcases h0 with h | h
      · rw [decide_eq_false (by omega), Bool.false_and, Bool.false_and]
      · rw [decide_eq_false (p := s.size ≤ 32) (by omega), Bool.and_false, Bool.false_and]
    rcases h0 with h | h
    all_goals
      go_enter Tryd.func69, Tryd.ntmps69
      go_wp2_with fail
      go_ret
      exact ⟨by rw [HN.out]; rfl, rfl⟩
  · have h1 : ¬ s.size < 1 := by omega
    have h2 : s.size ≤ 32 := by omega
    have HN : Hid (nameOk s = (s.data.toList.drop 0).all lower) := by show _ = _; rw [nameOk_eq, decide_eq_true (by omega), decide_eq_true (by omega), Bool.true_and, Bool.true_and, List.drop_zero]
    clear h0
    go_enter Tryd.func69, Tryd.ntmps69
    go_wp2_with fail
    go_loop [3] (fun i => ∃ k : Nat, k ≤ s.size ∧ i = .int .i64 k ∧ Hid (nameOk s = (s.data.toList.drop k).all lower)) (fun i => s.size - (intOf i).toNat)
    case atStart => exact ⟨0, by omega, rfl, HN⟩
    case round =>
      obtain ⟨k, hk, rfl, hd⟩ := hrel
      clear HN
      by_cases hlt : k < s.size
      · have hl : k < s.data.toList.length := by simpa using hlt
        have e : s.data.toList[k] = s[k]'hlt := by simp; rfl
        have hstep : (s.data.toList.drop k).all lower = (lower (s[k]'hlt) && (s.data.toList.drop (k + 1)).all lower) := by rw [List.drop_eq_getElem_cons hl, e, List.all_cons]
        have HS := Lib.hid hstep
        clear hstep e hl
        have hlw : lower (s[k]'hlt) = (decide (97 ≤ (s[k]'hlt).toNat) && decide ((s[k]'hlt).toNat ≤ 122)) := by
          unfold lower
          rw [Bool.eq_iff_iff]
          simp [UInt8.le_iff_toNat_le]
        have HW := Lib.hid hlw
        clear hlw
        by_cases hb : 97 ≤ (s[k]'hlt).toNat ∧ (s[k]'hlt).toNat ≤ 122
        · have HF : Hid (nameOk s = (s.data.toList.drop (k + 1)).all lower) := by show _ = _; rw [hd.out, HS.out, HW.out, decide_eq_true hb.1, decide_eq_true hb.2, Bool.true_and, Bool.true_and]
          obtain ⟨hb1, hb2⟩ := hb
          have e1 : ¬ ((s[k]'hlt).toNat : Int) < 97 := by omega
          have e2 : ¬ 122 < ((s[k]'hlt).toNat : Int) := by omega
          clear hd HS HW
          go_wp2_with fail
          exact ⟨⟨k + 1, by omega, by go_num, HF⟩, by simp [intOf]; omega⟩
        · have HF : Hid (nameOk s = false) := by
            show _ = _
            rw [hd.out, HS.out, HW.out]
            by_cases h : 97 ≤ (s[k]'hlt).toNat
            · rw [decide_eq_false (p := (s[k]'hlt).toNat ≤ 122) (by omega), Bool.and_false, Bool.false_and]
            · rw [decide_eq_false h, Bool.false_and, Bool.false_and]
          rcases (show (s[k]'hlt).toNat < 97 ∨ 122 < (s[k]'hlt).toNat by omega) with h | h
          all_goals
            clear hd HS HW hb
            go_wp2_with fail
            go_ret
            exact ⟨by rw [HF.out]; rfl, rfl⟩
      · have HF : Hid (nameOk s = true) := by
          show _ = _
          rw [hd.out, List.drop_eq_nil_of_le (by simp; omega)]
          rfl
        go_wp2_with fail
        go_ret
        exact ⟨by rw [HF.out]; rfl, rfl⟩
end Go.Proofs.YtfjccjjdgbkbiaaDoor
