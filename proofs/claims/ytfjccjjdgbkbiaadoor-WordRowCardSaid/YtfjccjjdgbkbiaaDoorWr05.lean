/- Names of features: the program's and the document's. What a call owns, and what it leaves as it was. Maps of the call's own, with bools or integers for elements, as functions of keys: look-ups and stores at the operation. Alphabets in memory. -/
import Derived.Test.YtfjccjjdgbkbiaaDoorWr03
import Derived.Test.YtfjccjjdgbkbiaaDoorWr04
import Derived.Test.YtfjccjjdgbkbiaaDoorShelf
import Derived.Shelf.Strings.SlTrimAscii
import Derived.Test.YtfjccjjdgbkbiaaDoorWr02
import Derived.Maps.AppendAt
import Derived.Test.YtfjccjjdgbkbiaaDoorWr01
import Derived.Maps.OwnOps
import Derived.Maps.OwnSet
import Derived.Maps.Views
namespace Go.Proofs.YtfjccjjdgbkbiaaDoor
open Go.RowKit
set_option linter.unusedVariables false

def abcB : ByteArray := ⟨#[97, 98, 99, 100, 101, 102, 103, 104, 105, 106, 107, 108, 109, 110, 111, 112, 113, 114, 115, 116, 117, 118, 119, 120, 121, 122]⟩
theorem abc_has (b : UInt8) : abcB.data.toList.contains b = lower b := by
  have h : ∀ n : Fin 256, abcB.data.toList.contains (UInt8.ofNat n.val) = lower (UInt8.ofNat n.val) := by decide +kernel
  have := h ⟨b.toNat, b.toNat_lt⟩
  simpa using this
theorem drop_all {p : UInt8 → Bool} : ∀ l : List UInt8, (∀ x ∈ l.dropWhile p, p x = true) → ∀ x ∈ l, p x = true
  | [], _, x, hx => by cases hx
  | a :: r, h, x, hx => by
    by_cases ha : p a = true
    · rw [List.dropWhile_cons, if_pos ha] at h
      rcases List.mem_cons.1 hx with rfl | hx
      · exact ha
      · exact drop_all r h x hx
    · rw [List.dropWhile_cons, if_neg ha] at h
      exact h x hx
theorem drop_nil {p : UInt8 → Bool} : ∀ l : List UInt8, (∀ x ∈ l, p x = true) → l.dropWhile p = []
  | [], _ => rfl
  | a :: r, h => by
    rw [List.dropWhile_cons, if_pos (h a (List.mem_cons_self ..))]
    exact drop_nil r fun x hx => h x (List.mem_cons_of_mem _ hx)
theorem trim_all (l : List UInt8) : Lib.trimS l abcB.data.toList = [] ↔ l.all lower = true := by
  have e : (fun b => abcB.data.toList.contains b) = lower := funext abc_has
  unfold Lib.trimS Lib.trimLeftS Lib.trimRightS
  rw [e, List.all_eq_true]
  constructor
  · intro h x hx
    have h1 : ∀ x ∈ (List.dropWhile lower l.reverse).reverse, lower x = true := drop_all _ (by rw [h]; simp)
    exact drop_all l.reverse (fun y hy => h1 y (List.mem_reverse.2 hy)) x (List.mem_reverse.2 hx)
  · intro h
    rw [drop_nil l.reverse (fun x hx => h x (List.mem_reverse.1 hx))]
    rfl
theorem trim_any (s : ByteArray) (w : World) (hs : s.size ≤ 32) : Calls Tryd.prog 102 #[.string s, .string abcB] w fun e w' => e = .returned (.string ⟨(Lib.trimS s.data.toList abcB.data.toList).toArray⟩) ∧ Below w.heap.size w w' :=
  Any.strings_Trim_laid Tryd.laysTrim (by kernel_rfl) s abcB w (by omega) (by decide) (ascii_of_all (by decide))
theorem nameOk_eq (s : ByteArray) : nameOk s = (decide (1 ≤ s.size) && decide (s.size ≤ 32) && s.data.toList.all lower) := rfl
theorem toList_nil (s : ByteArray) (h : s.size = 0) : s.toList = [] := by
  rw [ByteArray.toList_eq]
  exact List.eq_nil_of_length_eq_zero (by simpa using h)
theorem toList_ne (s : ByteArray) (h : 0 < s.size) : ¬ s.toList = [] := by
  rw [ByteArray.toList_eq]
  intro e
  have h1 : s.data.toList.length = 0 := by rw [e]; rfl
  have h2 : s.data.toList.length = s.size := Array.length_toList
  omega
theorem toList_ne' (s : ByteArray) (h : 0 < s.size) : s.toList.isEmpty = false := by
  have := toList_ne s h
  cases hh : s.toList with
  | nil => exact absurd hh this
  | cons a l => rfl
set_option maxHeartbeats 2000000 in
theorem named_any (s : ByteArray) (w : World) (hs : s.size ≤ maxLen) : Calls Tryd.prog 83 #[.string s] w fun e w' => e = .returned (.bool (nameOk s)) ∧ Below w.heap.size w w' := by
  have hs0 := hs
  unfold maxLen at hs0
  by_cases h0 : s.size = 0
  · have HN : Hid (nameOk s = false) := by show _ = _; rw [nameOk_eq, decide_eq_false (by omega), Bool.false_and, Bool.false_and]
    have h1 := toList_nil s h0
    clear h0
    go_enter Tryd.func83, Tryd.ntmps83
    go_wp2_with fail
    go_ret
    exact ⟨by rw [HN.out]; rfl, Below.refl _ _⟩
  · by_cases h32 : 32 < s.size
    · have HN : Hid (nameOk s = false) := by show _ = _; rw [nameOk_eq, decide_eq_false (p := s.size ≤ 32) (by omega), Bool.and_false, Bool.false_and]
      go_enter Tryd.func83, Tryd.ntmps83
      have h1 := toList_ne s (by omega)
      have h1' := toList_ne' s (by omega)
      go_wp2_with fail
      go_ret
      exact ⟨by rw [HN.out]; rfl, Below.refl _ _⟩
    · have HT := Lib.hid (fun w => trim_any s w (by omega))
      have HN : Hid (nameOk s = s.data.toList.all lower) := by show _ = _; rw [nameOk_eq, decide_eq_true (by omega), decide_eq_true (by omega), Bool.true_and, Bool.true_and]
      have HA := Lib.hid (trim_all s.data.toList)
      have h1 := toList_ne s (by omega)
      have h1' := toList_ne' s (by omega)
      generalize hx : Lib.trimS s.data.toList abcB.data.toList = x at *
      have HX := Lib.hid hx
      clear hx
      unfold abcB at HT
      cases hall : s.data.toList.all lower with
      | true =>
        have hxn : x = [] := HA.out.2 hall
        subst hxn
        rw [hall] at HN
        clear hall HA
        go_enter Tryd.func83, Tryd.ntmps83
        go_wp2_with (refine (HT.out _).mono ?_; rintro e w1 ⟨rfl, hb1⟩)
        go_ret
        exact ⟨by rw [HN.out]; rfl, hb1⟩
      | false =>
        have hxn : ¬ x = [] := fun e => by
          have := HA.out.1 e
          rw [hall] at this
          cases this
        have hx2 : ¬ (⟨x.toArray⟩ : ByteArray).toList = [] := by
          rw [ByteArray.toList_eq]
          simpa using hxn
        rw [hall] at HN
        clear hall HA HX
        generalize (⟨x.toArray⟩ : ByteArray) = y at *
        have hx3 : y.toList.isEmpty = false := by
          cases hh : y.toList with
          | nil => exact absurd hh hx2
          | cons a l => rfl
        go_enter Tryd.func83, Tryd.ntmps83
        go_wp2_with (refine (HT.out _).mono ?_; rintro e w1 ⟨rfl, hb1⟩)
        go_ret
        exact ⟨by rw [HN.out]; rfl, hb1⟩

set_option maxHeartbeats 2000000 in
theorem rname_any (s : ByteArray) (w : World) (hs : s.size ≤ maxLen) : Calls Tryd.prog 69 #[.string s] w fun e w' => e = .returned (.bool (nameOk s)) ∧ w = w' := by
  have hs0 := hs
  unfold maxLen at hs0
  by_cases h0 : s.size < 1 ∨ 32 < s.size
  · have HN : Hid (nameOk s = false) := by
      show _ = _
      rw [nameOk_eq]
      rcases h0 with h | h
      · rw [decide_eq_false (by omega), Bool.false_and, Bool.false_and]
      · rw [decide_eq_false (p := s.size ≤ 32) (by omega), Bool.and_false, Bool.false_and]
    rcases h0 with h | h
    all_goals
      go_enter Tryd.func69, Tryd.ntmps69
      go_wp2_with fail
      go_ret
      exact ⟨by rw [HN.out]; rfl, rfl⟩
  · have h1 : ¬ s.size < 1 := by omega
    have h2 : s.size ≤ 32 := by omega
    have HN : Hid (nameOk s = (s.data.toList.drop 0).all lower) := by show _ = _; rw [nameOk_eq, decide_eq_true (by omega), decide_eq_true (by omega), Bool.true_and, Bool.true_and, List.drop_zero]
    clear h0
    go_enter Tryd.func69, Tryd.ntmps69
    go_wp2_with fail
    go_loop [3] (fun i => ∃ k : Nat, k ≤ s.size ∧ i = .int .i64 k ∧ Hid (nameOk s = (s.data.toList.drop k).all lower)) (fun i => s.size - (intOf i).toNat)
    case atStart => exact ⟨0, by omega, rfl, HN⟩
    case round =>
      obtain ⟨k, hk, rfl, hd⟩ := hrel
      clear HN
      by_cases hlt : k < s.size
      · have hl : k < s.data.toList.length := by simpa using hlt
        have e : s.data.toList[k] = s[k]'hlt := by simp; rfl
        have hstep : (s.data.toList.drop k).all lower = (lower (s[k]'hlt) && (s.data.toList.drop (k + 1)).all lower) := by rw [List.drop_eq_getElem_cons hl, e, List.all_cons]
        have HS := Lib.hid hstep
        clear hstep e hl
        have hlw : lower (s[k]'hlt) = (decide (97 ≤ (s[k]'hlt).toNat) && decide ((s[k]'hlt).toNat ≤ 122)) := by
          unfold lower
          rw [Bool.eq_iff_iff]
          simp [UInt8.le_iff_toNat_le]
        have HW := Lib.hid hlw
        clear hlw
        by_cases hb : 97 ≤ (s[k]'hlt).toNat ∧ (s[k]'hlt).toNat ≤ 122
        · have HF : Hid (nameOk s = (s.data.toList.drop (k + 1)).all lower) := by show _ = _; rw [hd.out, HS.out, HW.out, decide_eq_true hb.1, decide_eq_true hb.2, Bool.true_and, Bool.true_and]
          obtain ⟨hb1, hb2⟩ := hb
          have e1 : ¬ ((s[k]'hlt).toNat : Int) < 97 := by omega
          have e2 : ¬ 122 < ((s[k]'hlt).toNat : Int) := by omega
          clear hd HS HW
          go_wp2_with fail
          exact ⟨⟨k + 1, by omega, by go_num, HF⟩, by simp [intOf]; omega⟩
        · have HF : Hid (nameOk s = false) := by
            show _ = _
            rw [hd.out, HS.out, HW.out]
            by_cases h : 97 ≤ (s[k]'hlt).toNat
            · rw [decide_eq_false (p := (s[k]'hlt).toNat ≤ 122) (by omega), Bool.and_false, Bool.false_and]
            · rw [decide_eq_false h, Bool.false_and, Bool.false_and]
          rcases (show (s[k]'hlt).toNat < 97 ∨ 122 < (s[k]'hlt).toNat by omega) with h | h
          all_goals
            clear hd HS HW hb
            go_wp2_with fail
            go_ret
            exact ⟨by rw [HF.out]; rfl, rfl⟩
      · have HF : Hid (nameOk s = true) := by
          show _ = _
          rw [hd.out, List.drop_eq_nil_of_le (by simp; omega)]
          rfl
        go_wp2_with fail
        go_ret
        exact ⟨by rw [HF.out]; rfl, rfl⟩
end Go.Proofs.YtfjccjjdgbkbiaaDoor
namespace Go.Proofs.YtfjccjjdgbkbiaaDoor
open Go.RowKit
set_option linter.unusedVariables false

/-- Of the old blocks only those in S were changed. -/
structure Fr (S : Nat → Prop) (w w' : World) : Prop where
  os : w'.os = w.os
  tape : w'.tape = w.tape
  output : w'.output = w.output
  size : w.heap.size ≤ w'.heap.size
  block : ∀ k, k < w.heap.size → ¬ S k → w'.heap[k]? = w.heap[k]?

theorem Fr.refl (S : Nat → Prop) (w : World) : Fr S w w := ⟨rfl, rfl, rfl, Nat.le_refl _, fun _ _ _ => rfl⟩
theorem Fr.trans {S T : Nat → Prop} {a b c : World} (h : Fr S a b) (k : Fr T b c) (hs : ∀ k, k < a.heap.size → T k → S k) : Fr S a c :=
  ⟨k.os.trans h.os, k.tape.trans h.tape, k.output.trans h.output, Nat.le_trans h.size k.size, fun i hi hn => (k.block i (Nat.lt_of_lt_of_le hi h.size) (fun ht => hn (hs i hi ht))).trans (h.block i hi hn)⟩
theorem Fr.of_below {S : Nat → Prop} {w w' : World} (h : Below w.heap.size w w') : Fr S w w' := ⟨h.os, h.tape, h.output, h.size, fun k hk _ => h.block k hk⟩
theorem Fr.of_grown {S : Nat → Prop} {w w' : World} {row : Option Nat} (h : w.grownBy w' row) (hs : ∀ k, row = some k → S k) : Fr S w w' :=
  ⟨h.os, h.tape, h.output, h.size, fun k hk hn => h.block k hk (fun e => hn (hs k e.symm))⟩
theorem Fr.set_ {S : Nat → Prop} (w : World) (p : Addr) (u : Value) (hs : S p.block) : Fr S w (w.setCell p u) :=
  ⟨rfl, rfl, rfl, by simp, fun k _ hn => Below.heap_setCell w p u k (fun e => hn (e ▸ hs))⟩
theorem Fr.alloc {S : Nat → Prop} {w w' : World} (h : Fr S w w') (o : Obj) : Fr S w (w'.alloc o) :=
  h.trans (T := fun _ => False) (Fr.of_below ((Below.refl _ _).alloc (Nat.le_refl _) _)) (fun _ _ h => h.elim)
theorem Fr.setc {S : Nat → Prop} {w w' : World} (h : Fr S w w') (p : Addr) (u : Value) (hs : p.block < w.heap.size → S p.block) : Fr S w (w'.setCell p u) :=
  h.trans (Fr.set_ (S := fun k => k = p.block) w' p u rfl) (fun k hk e => by subst e; exact hs hk)
theorem Fr.weak {S T : Nat → Prop} {w w' : World} (h : Fr S w w') (hs : ∀ k, k < w.heap.size → S k → T k) : Fr T w w' :=
  ⟨h.os, h.tape, h.output, h.size, fun k hk hn => h.block k hk (fun e => hn (hs k hk e))⟩
theorem Fr.below {S : Nat → Prop} {w w' : World} (h : Fr S w w') {B : Nat} (hs : ∀ k, S k → B ≤ k) (hB : B ≤ w.heap.size) : Below B w w' :=
  ⟨h.os, h.tape, h.output, h.size, fun k hk => h.block k (by omega) (fun e => by have := hs k e; omega)⟩
theorem Fr.drewN {S : Nat → Prop} {w w' : World} (h : Fr S w w') (n : Nat) : Fr S w (w'.drewN n) := ⟨h.os, h.tape, h.output, h.size, h.block⟩

section
variable {w w' : World} {base sz n : Nat} {e : TypeId} {v : Value} {xs : List Value}
theorem own_same (h : w.ownsRow base e sz v n xs) (hb : ∀ g, v.ownBlock = some g → w'.heap[g]? = w.heap[g]?) : w'.ownsRow base e sz v n xs := by
  refine ⟨h.1, ?_⟩
  rcases h.2 with hn | ⟨g, cap, cur, rfl, hbg, hgg, rest⟩
  · exact .inl hn
  · exact .inr ⟨g, cap, cur, rfl, hbg, (hb g rfl).trans hgg, rest⟩
theorem own_below (h : w.ownsRow base e sz v n xs) (hb : Below w.heap.size w w') : w'.ownsRow base e sz v n xs := own_same h fun g hg => hb.block g (h.lt g hg).2
theorem own_fr {S : Nat → Prop} (h : w.ownsRow base e sz v n xs) (hf : Fr S w w') (hs : ∀ g, v.ownBlock = some g → ¬ S g) : w'.ownsRow base e sz v n xs :=
  own_same h fun g hg => hf.block g (h.lt g hg).2 (hs g hg)
theorem own_low {lo : Nat} (h : w.ownsRow base e sz v n xs) (hl : lo ≤ base) : w.ownsRow lo e sz v n xs := by
  refine ⟨h.1, ?_⟩
  rcases h.2 with hn | ⟨g, cap, cur, rfl, hbg, hgg, rest⟩
  · exact .inl hn
  · exact .inr ⟨g, cap, cur, rfl, by omega, hgg, rest⟩
theorem own_form (h : w.ownsRow base e sz v n xs) : ∃ A c, v = .slice A n c ∧ n ≤ c ∧ c ≤ maxLen := by
  rcases h.2 with ⟨rfl, rfl⟩ | ⟨g, cap, cur, rfl, hbg, hgg, h1, h2, _⟩
  · exact ⟨none, 0, rfl, Nat.le_refl _, by unfold maxLen; omega⟩
  · exact ⟨_, cap, rfl, h1, h2⟩
theorem own_pos (h : w.ownsRow base e sz v n xs) (hn : 0 < n) : ∃ g c, v = .slice (some ⟨g, 0, none⟩) n c ∧ n ≤ c ∧ c ≤ maxLen ∧ base ≤ g ∧ g < w.heap.size := by
  rcases h.2 with ⟨rfl, rfl⟩ | ⟨g, cap, cur, rfl, hbg, hgg, h1, h2, _⟩
  · omega
  · exact ⟨g, cap, rfl, h1, h2, hbg, (Array.getElem?_eq_some_iff.1 hgg).1⟩
theorem own_cel {g c : Nat} (h : w.ownsRow base e sz (.slice (some ⟨g, 0, none⟩) n c) n xs) {j : Nat} {u : Value} (hj : xs[j]? = some u) : Cel w g j u := by
  have h1 := h.cells (g := g) rfl j u hj
  rw [Addr.add_lit, Nat.zero_add] at h1
  refine ⟨h1, ?_⟩
  rcases h.2 with ⟨hv, _⟩ | ⟨g', cap, cur, hv, _, hh, _⟩
  · cases hv
  · injection hv with h1 h2 h3
    injection h1 with h1
    injection h1 with h1
    subst h1
    unfold World.frozen?
    rw [hh]
    simp
theorem own_set {g : Nat} (h : w.ownsRow base e sz v n xs) (hg : v.ownBlock = some g) {j : Nat} (hj : j < xs.length) (u : Value) : (w.setCell ⟨g, j, none⟩ u).ownsRow base e sz v n (xs.set j u) := by
  refine ⟨by rw [List.length_set]; exact h.1, ?_⟩
  rcases h.2 with ⟨rfl, rfl⟩ | ⟨g', cap, cur, rfl, hbg, hgg, h1, h2, h3, h4⟩
  · simp [Value.ownBlock] at hg
  · simp only [Value.ownBlock, Option.some.injEq] at hg
    subst hg
    have hjn : j < n * sz := by rw [← h.1]; exact hj
    refine .inr ⟨g', cap, cur.setIfInBounds j u, rfl, hbg, ?_, h1, h2, by simpa using h3, ?_⟩
    · simp only [World.setCell, Array.getElem?_modify, hgg]; simp
    · rw [← h4]
      refine List.ext_getElem? fun k => ?_
      rw [List.getElem?_set, List.getElem?_take, List.getElem?_take]
      simp only [List.length_take, Array.length_toList, Array.getElem?_toList, Array.getElem?_setIfInBounds]
      have hjc : j < cur.size := by
        have : n * sz ≤ cap * sz := Nat.mul_le_mul_right _ h1
        omega
      by_cases hk : k < n * sz
      · simp only [hk, if_true]
        by_cases hjk : j = k
        · subst hjk
          simp only [if_true]
          rw [if_pos (by omega), if_pos (by omega)]
        · simp [hjk]
      · simp only [hk, if_false]
        by_cases hjk : j = k
        · omega
        · simp [hjk]
theorem Row.news {w : World} {g : Nat} {t : TypeId} {l : List Value} (h : Row w g t l) : ∀ j u, l[j]? = some u → w.cell? ((⟨g, 0, none⟩ : Addr).add j) = some u := fun j u hj => by
  rw [Addr.add_lit, Nat.zero_add]
  exact (h.cel hj).1
theorem row_ne_own {g : Nat} {t : TypeId} {l : List Value} (hr : Row w g t l) (h : w.ownsRow base e sz v n xs) (hte : t ≠ e) : v.ownBlock ≠ some g := fun hg => by
  rcases h.2 with ⟨rfl, _⟩ | ⟨g', cap, cur, rfl, _, hh, _⟩
  · simp [Value.ownBlock] at hg
  · simp only [Value.ownBlock, Option.some.injEq] at hg
    subst hg
    unfold Row at hr
    rw [hr] at hh
    simp only [Option.some.injEq, Obj.cells.injEq] at hh
    exact hte hh.2.1
theorem own_ne_own {base' sz' n' : Nat} {e' : TypeId} {v' : Value} {xs' : List Value} (h : w.ownsRow base e sz v n xs) (h' : w.ownsRow base' e' sz' v' n' xs') (hte : e ≠ e') : ∀ g, v.ownBlock = some g → v'.ownBlock ≠ some g := fun g hg hg' => by
  rcases h.2 with ⟨rfl, _⟩ | ⟨g1, cap, cur, rfl, _, hh, _⟩
  · simp [Value.ownBlock] at hg
  · rcases h'.2 with ⟨rfl, _⟩ | ⟨g2, cap2, cur2, rfl, _, hh2, _⟩
    · simp [Value.ownBlock] at hg'
    · simp only [Value.ownBlock, Option.some.injEq] at hg hg'
      subst hg hg'
      rw [hh] at hh2
      simp only [Option.some.injEq, Obj.cells.injEq] at hh2
      exact hte hh2.2.1
end
end Go.Proofs.YtfjccjjdgbkbiaaDoor
namespace Go.Proofs.YtfjccjjdgbkbiaaDoor
open Go.RowKit Go.Maps
set_option linter.unusedVariables false

/-- The map in block b, of keys k and bools e: at each key what S says (false where there is none). -/
def MapB (P : Program) (k e : TypeId) (w : World) (b n : Nat) (S : Lit → Bool) : Prop :=
  ∃ D : DataW Unit, w.ownsMap P k (plainElem P e) b n D ∧ IsMap D ∧ ∀ kl, D.atKey kl (.lit (.bool false)) = .lit (.bool (S kl))
/-- The map in block b, of keys k and integers e. -/
def MapI (P : Program) (k e : TypeId) (q : IntKind) (w : World) (b n : Nat) (F : Lit → Option Int) : Prop :=
  ∃ D : DataW Unit, w.ownsMap P k (plainElem P e) b n D ∧ IsMap D ∧ ∀ kl, Maps.has D kl = (F kl).isSome ∧ D.atKey kl (.lit (.int q 0)) = .lit (.int q ((F kl).getD 0))
open Classical in
noncomputable def setAt {α : Type} (S : Lit → α) (kl : Lit) (x : α) : Lit → α := fun l => if l = kl then x else S l

section
variable {P : Program} {k e : TypeId} {q : IntKind} {w w' : World} {b n : Nat}
theorem ownsMap_same {R : Value → Option (DataW Unit × List MemPlace)} {D : DataW Unit} (h : w.ownsMap P k R b n D) (hb : w'.heap[b]? = w.heap[b]?) : w'.ownsMap P k R b n D := by
  obtain ⟨es, clock, h1, h2⟩ := h
  exact ⟨es, clock, hb.trans h1, h2⟩
theorem MapB.lt {S : Lit → Bool} (h : MapB P k e w b n S) : b < w.heap.size := let ⟨_, h1, _⟩ := h; h1.lt
theorem MapI.lt {F : Lit → Option Int} (h : MapI P k e q w b n F) : b < w.heap.size := let ⟨_, h1, _⟩ := h; h1.lt
theorem MapB.same {S : Lit → Bool} (h : MapB P k e w b n S) (hb : w'.heap[b]? = w.heap[b]?) : MapB P k e w' b n S := let ⟨D, h1, h2⟩ := h; ⟨D, ownsMap_same h1 hb, h2⟩
theorem MapI.same {F : Lit → Option Int} (h : MapI P k e q w b n F) (hb : w'.heap[b]? = w.heap[b]?) : MapI P k e q w' b n F := let ⟨D, h1, h2⟩ := h; ⟨D, ownsMap_same h1 hb, h2⟩
theorem MapB.below {S : Lit → Bool} (h : MapB P k e w b n S) {B : Nat} (hb : Below B w w') (hB : b < B) : MapB P k e w' b n S := h.same (hb.block b hB)
theorem MapI.below {F : Lit → Option Int} (h : MapI P k e q w b n F) {B : Nat} (hb : Below B w w') (hB : b < B) : MapI P k e q w' b n F := h.same (hb.block b hB)
theorem MapB.made (w : World) (P : Program) (k e : TypeId) : MapB P k e (w.alloc (.map #[] 0)) w.heap.size 0 fun _ => false :=
  ⟨.map [], World.ownsMap_made _ _ _ _, isMap_empty, fun _ => rfl⟩
theorem MapI.made (w : World) (P : Program) (k e : TypeId) (q : IntKind) : MapI P k e q (w.alloc (.map #[] 0)) w.heap.size 0 fun _ => none :=
  ⟨.map [], World.ownsMap_made _ _ _ _, isMap_empty, fun _ => ⟨rfl, rfl⟩⟩
theorem plainElem_bool_inv (he : P.underlying e = some .bool) {v : Value} {z : DataW Unit × List MemPlace} (h : plainElem P e v = some z) : ∃ x, v = .bool x ∧ z.1 = .lit (.bool x) := by
  unfold plainElem at h
  rw [he] at h
  cases v <;> simp at h
  subst h
  exact ⟨_, rfl, rfl⟩
theorem isKey_of {key : Value} {kl : Lit} (hk : (∃ s, kl = .string s) ∨ (∃ q n, kl = .int q n)) : WideAt.IsKeyLit kl := by
  rcases hk with ⟨s, rfl⟩ | ⟨q, n, rfl⟩ <;> trivial

variable {ops : Array Oper} {rest : List Oper} {o : Oper} {a : Act} {Q : Exit → Act → World → Prop}
theorem wpList_wanted (hw : Region.wanted o (yielded ops a.tmps) = true)
    (h : ∀ K : Act → World → Prop, (∀ a w, wpList P ops Q rest a w → K a w) → o.wp P a w K Q) : wpList P ops Q (o :: rest) a w :=
  wpList_step fun K hK => by rw [if_pos hw]; exact h K hK
theorem wpList_lookup_mapB (hw : Region.wanted o (yielded ops a.tmps) = true) (m x : Operand) (t : TypeId) (hop : o.op = Op.lookup t m x false)
    (k e : TypeId) (K : Keyed P k) (ht : P.underlying t = some (.map k e)) (he : P.underlying e = some .bool) (hz : (zeroValue e).run P w = .ok (.bool false) w) (b n : Nat) (S : Lit → Bool)
    (hm : a.eval m = .map (some b)) (hown : MapB P k e w b n S) (key : Value) (kl : Lit) (hx : a.eval x = key) (hkey : keyOf P k key = some kl)
    (hK : wpList P ops Q rest (a.put o.dst (.bool (S kl))) w) : wpList P ops Q (o :: rest) a w := by
  refine wpList_wanted hw fun K' hK' => ?_
  obtain ⟨D, h1, h2, h3⟩ := hown
  obtain ⟨v, ps, hrun, hv⟩ := h1.lookup K ht hz (plainElem_bool he false) hkey
  obtain ⟨y, rfl, hy⟩ := plainElem_bool_inv he hv
  have e := (h3 kl).symm.trans hy
  injection e with e
  injection e with e
  subst e
  unfold Oper.wp
  simp [execOp, hop, hm, hx, hrun, Result.andThen]
  exact hK' _ _ hK
theorem wpList_update_mapB (hw : Region.wanted o (yielded ops a.tmps) = true) (m x v : Operand) (t : TypeId) (hop : o.op = Op.mapUpdate t m x v)
    (k e : TypeId) (K : Keyed P k) (ht : P.underlying t = some (.map k e)) (he : P.underlying e = some .bool) (b n : Nat) (S : Lit → Bool)
    (hm : a.eval m = .map (some b)) (hown : MapB P k e w b n S) (hn : n < maxLen) (key : Value) (y : Bool) (kl : Lit) (hx : a.eval x = key) (hv : a.eval v = .bool y) (hkey : keyOf P k key = some kl) (hik : WideAt.IsKeyLit kl)
    (hK : ∀ w', MapB P k e w' b (n + 1) (setAt S kl y) → w.grownBy w' (some b) → wpList P ops Q rest (a.put o.dst undef) w') : wpList P ops Q (o :: rest) a w := by
  refine wpList_wanted hw fun K' hK' => ?_
  obtain ⟨D, h1, h2, h3⟩ := hown
  obtain ⟨w', hrun, r1, r2⟩ := h1.update K ht hn hkey (plainElem_bool he y)
  unfold Oper.wp
  simp [execOp, hop, hm, hx, hv, hrun, Result.andThen]
  refine hK' _ _ (hK w' ⟨_, r1, h2.put _ _, fun l => ?_⟩ r2)
  unfold setAt
  by_cases hl : l = kl
  · subst hl
    rw [if_pos rfl, atKey_put_same h2 hik]
  · rw [if_neg hl, atKey_put_other hl]
    exact h3 l
theorem wpList_lookup_ok_mapI (hw : Region.wanted o (yielded ops a.tmps) = true) (m x : Operand) (t : TypeId) (hop : o.op = Op.lookup t m x true)
    (k e : TypeId) (q : IntKind) (K : Keyed P k) (ht : P.underlying t = some (.map k e)) (he : P.underlying e = some (.int q)) (hz : (zeroValue e).run P w = .ok (.int q 0) w) (b n : Nat) (F : Lit → Option Int)
    (hm : a.eval m = .map (some b)) (hown : MapI P k e q w b n F) (key : Value) (kl : Lit) (hx : a.eval x = key) (hkey : keyOf P k key = some kl)
    (hK : wpList P ops Q rest (a.put o.dst (.tuple #[.int q ((F kl).getD 0), .bool (F kl).isSome])) w) : wpList P ops Q (o :: rest) a w := by
  refine wpList_wanted hw fun K' hK' => ?_
  obtain ⟨D, h1, h2, h3⟩ := hown
  obtain ⟨v, ps, hrun, hv⟩ := h1.look_ok K ht hz (plainElem_int he (by cases q <;> decide)) hkey
  obtain ⟨c, rfl, hc, hwc⟩ := plainElem_int_inv he hv
  have e := (h3 kl).2.symm.trans (congrArg Prod.fst hc)
  injection e with e
  injection e with _ e
  rw [(h3 kl).1] at hrun
  subst e
  unfold Oper.wp
  simp [execOp, hop, hm, hx, hrun, Result.andThen]
  exact hK' _ _ hK
theorem wpList_lookup_mapI (hw : Region.wanted o (yielded ops a.tmps) = true) (m x : Operand) (t : TypeId) (hop : o.op = Op.lookup t m x false)
    (k e : TypeId) (q : IntKind) (K : Keyed P k) (ht : P.underlying t = some (.map k e)) (he : P.underlying e = some (.int q)) (hz : (zeroValue e).run P w = .ok (.int q 0) w) (b n : Nat) (F : Lit → Option Int)
    (hm : a.eval m = .map (some b)) (hown : MapI P k e q w b n F) (key : Value) (kl : Lit) (hx : a.eval x = key) (hkey : keyOf P k key = some kl)
    (hK : wpList P ops Q rest (a.put o.dst (.int q ((F kl).getD 0))) w) : wpList P ops Q (o :: rest) a w := by
  refine wpList_wanted hw fun K' hK' => ?_
  obtain ⟨D, h1, h2, h3⟩ := hown
  obtain ⟨c, hrun, hat, hwc⟩ := h1.lookup_int K ht he hz hkey
  have e := (h3 kl).2.symm.trans hat
  injection e with e
  injection e with _ e
  subst e
  unfold Oper.wp
  simp [execOp, hop, hm, hx, hrun, Result.andThen]
  exact hK' _ _ hK
theorem wpList_update_mapI (hw : Region.wanted o (yielded ops a.tmps) = true) (m x v : Operand) (t : TypeId) (hop : o.op = Op.mapUpdate t m x v)
    (k e : TypeId) (q : IntKind) (K : Keyed P k) (ht : P.underlying t = some (.map k e)) (he : P.underlying e = some (.int q)) (b n : Nat) (F : Lit → Option Int)
    (hm : a.eval m = .map (some b)) (hown : MapI P k e q w b n F) (hn : n < maxLen) (key : Value) (y : Int) (hy : (Lit.int q y).wf = true) (kl : Lit) (hx : a.eval x = key) (hv : a.eval v = .int q y) (hkey : keyOf P k key = some kl) (hik : WideAt.IsKeyLit kl)
    (hK : ∀ w', MapI P k e q w' b (n + 1) (setAt F kl (some y)) → w.grownBy w' (some b) → wpList P ops Q rest (a.put o.dst undef) w') : wpList P ops Q (o :: rest) a w := by
  refine wpList_wanted hw fun K' hK' => ?_
  obtain ⟨D, h1, h2, h3⟩ := hown
  obtain ⟨w', hrun, r1, r2⟩ := h1.update K ht hn hkey (plainElem_int he hy)
  unfold Oper.wp
  simp [execOp, hop, hm, hx, hv, hrun, Result.andThen]
  refine hK' _ _ (hK w' ⟨_, r1, h2.put _ _, fun l => ?_⟩ r2)
  unfold setAt
  by_cases hl : l = kl
  · subst hl
    rw [if_pos rfl, atKey_put_same h2 hik, has_put_same h2 hik]
    exact ⟨rfl, rfl⟩
  · rw [if_neg hl, atKey_put_other hl, has_put_other hl]
    exact h3 l
end
end Go.Proofs.YtfjccjjdgbkbiaaDoor
namespace Go.Proofs.YtfjccjjdgbkbiaaDoor
open Go.RowKit
set_option linter.unusedVariables false

def vLt : Rep Lt := fun _ _ _ cs l => cs = [.int .i32 l.rune, .int .u32 (l.plus : Int), .int .u32 (l.minus : Int)] ∧ kin .i32 l.rune ∧ l.plus < 4294967296 ∧ l.minus < 4294967296
theorem vLt_good : vLt.Good := ⟨fun _ h => h, fun _ _ h => h⟩
theorem lt_at {w : World} {lo hi k : Nat} {A : Option Addr} {l : List Lt} (h : Sl 3 vLt w lo hi A l) (hk : k < l.length) :
    ∃ b off, A = some ⟨b, off, none⟩ ∧ lo ≤ b ∧ b < hi ∧ Cel w b (off + k * 3) (.int .i32 l[k].rune) ∧ Cel w b (off + k * 3 + 1) (.int .u32 (l[k].plus : Int)) ∧ Cel w b (off + k * 3 + 2) (.int .u32 (l[k].minus : Int)) ∧
      (-2147483648 ≤ l[k].rune ∧ l[k].rune ≤ 2147483647) ∧ l[k].plus < 4294967296 ∧ l[k].minus < 4294967296 := by
  obtain ⟨b, off, cs, e, h1, h2, _, h4, rfl, h5, h6, h7⟩ := h.at_ hk
  exact ⟨b, off, e, h1, h2, h4 0 _ rfl, h4 1 _ rfl, h4 2 _ rfl, kin_i32 h5, h6, h7⟩
/-- An alphabet's features and letters lie in blocks from lo on and below hi. -/
structure AlIn (w : World) (lo hi : Nat) (A1 A2 : Option Addr) (a : Al) : Prop where
  f : Sl 1 vStr w lo hi A1 a.feats
  l : Sl 3 vLt w lo hi A2 a.lets
  n1 : a.feats.length ≤ 9223372036854775807
  n2 : a.lets.length ≤ 9223372036854775807
section
variable {w w' : World} {lo hi lo' hi' : Nat} {A1 A2 : Option Addr} {a : Al}
theorem AlIn.below (h : AlIn w lo hi A1 A2 a) {B : Nat} (hb : Below B w w') (hB : hi ≤ B) : AlIn w' lo hi A1 A2 a := ⟨h.f.below vStr_good hb hB, h.l.below vLt_good hb hB, h.n1, h.n2⟩
theorem AlIn.wide (h : AlIn w lo hi A1 A2 a) (h1 : lo' ≤ lo) (h2 : hi ≤ hi') : AlIn w lo' hi' A1 A2 a := ⟨h.f.wide vStr_good h1 h2, h.l.wide vLt_good h1 h2, h.n1, h.n2⟩
theorem AlIn.keep (h : AlIn w lo hi A1 A2 a) (hk : Kp lo hi w w') : AlIn w' lo hi A1 A2 a := ⟨h.f.keep vStr_good hk, h.l.keep vLt_good hk, h.n1, h.n2⟩
end
/-- The same from a world on. -/
theorem AlIn.on {w w' : World} {lo : Nat} {A1 A2 : Option Addr} {a : Al} (h : AlIn w lo w.heap.size A1 A2 a) (hb : Below w.heap.size w w') : AlIn w' lo w'.heap.size A1 A2 a := (h.below hb (Nat.le_refl _)).wide (Nat.le_refl _) hb.size

/-! ### what was seen -/
def seenS (seen : List (List UInt8)) : Lit → Bool := fun kl => seen.any fun f => kl.sameKey (.string f)
def seenR (seen : List Int) : Lit → Bool := fun kl => seen.any fun r => kl.sameKey (.int .i32 r)
theorem sameKey_str (l : Lit) (s : List UInt8) : l.sameKey (.string s) = true ↔ l = .string s := ⟨WideAt.sameKey_eq, fun h => by subst h; simp [Lit.sameKey]⟩
theorem sameKey_int (l : Lit) (r : Int) : l.sameKey (.int .i32 r) = true ↔ l = .int .i32 r := ⟨WideAt.sameKey_eq, fun h => by subst h; simp [Lit.sameKey]⟩
theorem seenS_cons (seen : List (List UInt8)) (f : List UInt8) : setAt (seenS seen) (.string f) true = seenS (f :: seen) := by
  funext l
  unfold setAt seenS
  rw [List.any_cons]
  by_cases h : l = .string f
  · rw [if_pos h, (sameKey_str _ _).2 h, Bool.true_or]
  · rw [if_neg h]
    have : l.sameKey (.string f) = false := by
      rw [← Bool.not_eq_true]
      exact fun hh => h ((sameKey_str _ _).1 hh)
    rw [this, Bool.false_or]
theorem seenR_cons (seen : List Int) (r : Int) : setAt (seenR seen) (.int .i32 r) true = seenR (r :: seen) := by
  funext l
  unfold setAt seenR
  rw [List.any_cons]
  by_cases h : l = .int .i32 r
  · rw [if_pos h, (sameKey_int _ _).2 h, Bool.true_or]
  · rw [if_neg h]
    have : l.sameKey (.int .i32 r) = false := by
      rw [← Bool.not_eq_true]
      exact fun hh => h ((sameKey_int _ _).1 hh)
    rw [this, Bool.false_or]
theorem seenS_eq (seen : List (List UInt8)) (f : List UInt8) : seenS seen (.string f) = decide (f ∈ seen) := by
  unfold seenS
  rw [Bool.eq_iff_iff, List.any_eq_true, decide_eq_true_eq]
  constructor
  · rintro ⟨g, hg, h⟩
    have := (sameKey_str _ _).1 h
    injection this with this
    rw [this]
    exact hg
  · intro h
    exact ⟨f, h, (sameKey_str _ _).2 rfl⟩
theorem seenR_eq (seen : List Int) (r : Int) : seenR seen (.int .i32 r) = decide (r ∈ seen) := by
  unfold seenR
  rw [Bool.eq_iff_iff, List.any_eq_true, decide_eq_true_eq]
  constructor
  · rintro ⟨g, hg, h⟩
    have := (sameKey_int _ _).1 h
    injection this with _ this
    rw [this]
    exact hg
  · intro h
    exact ⟨r, h, (sameKey_int _ _).2 rfl⟩
theorem seenS_nil : (fun _ => false) = seenS [] := rfl
theorem seenR_nil : (fun _ => false) = seenR [] := rfl
end Go.Proofs.YtfjccjjdgbkbiaaDoor
