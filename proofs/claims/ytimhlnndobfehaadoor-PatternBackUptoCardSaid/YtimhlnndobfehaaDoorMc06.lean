/- Names of features: the program's and the document's. What a call owns, and what it leaves as it was. Alphabets in memory. The keys of what is known: a node and a place. Patterns as lists of nodes: which are trees, how a tree is put in its one numbering. Plain Lean. Has a letter a class: the program's like, the document's Like. -/
import Derived.Test.YtimhlnndobfehaaDoorMc04
import Derived.Test.YtimhlnndobfehaaDoorMc05
import Derived.Test.YtimhlnndobfehaaDoorShelf
import Derived.Shelf.Strings.SlTrimAscii
import Derived.Test.YtimhlnndobfehaaDoorMc03
import Derived.Maps.AppendAt
import Derived.Test.YtimhlnndobfehaaDoorMc02
import Derived.DeepKeys5
namespace Go.Proofs.YtimhlnndobfehaaDoor
open Go.RowKit
set_option linter.unusedVariables false

def abcB : ByteArray := ⟨#[97, 98, 99, 100, 101, 102, 103, 104, 105, 106, 107, 108, 109, 110, 111, 112, 113, 114, 115, 116, 117, 118, 119, 120, 121, 122]⟩
theorem abc_has (b : UInt8) : abcB.data.toList.contains b = lower b := by
  have h : ∀ n : Fin 256, abcB.data.toList.contains (UInt8.ofNat n.val) = lower (UInt8.ofNat n.val) := by decide +kernel
  have := h ⟨b.toNat, b.toNat_lt⟩
  simpa using this
theorem drop_all {p : UInt8 → Bool} : ∀ l : List UInt8, (∀ x ∈ l.dropWhile p, p x = true) → ∀ x ∈ l, p x = true
  | [], _, x, hx => by cases hx
  | a :: r, h, x, hx => by
    by_cases ha : p a = true
    · rw [List.dropWhile_cons, if_pos ha] at h
      rcases List.mem_cons.1 hx with rfl | hx
      · exact ha
      · exact drop_all r h x hx
    · rw [List.dropWhile_cons, if_neg ha] at h
      exact h x hx
theorem drop_nil {p : UInt8 → Bool} : ∀ l : List UInt8, (∀ x ∈ l, p x = true) → l.dropWhile p = []
  | [], _ => rfl
  | a :: r, h => by
    rw [List.dropWhile_cons, if_pos (h a (List.mem_cons_self ..))]
    exact drop_nil r fun x hx => h x (List.mem_cons_of_mem _ hx)
theorem trim_all (l : List UInt8) : Lib.trimS l abcB.data.toList = [] ↔ l.all lower = true := by
  have e : (fun b => abcB.data.toList.contains b) = lower := funext abc_has
  unfold Lib.trimS Lib.trimLeftS Lib.trimRightS
  rw [e, List.all_eq_true]
  constructor
  · intro h x hx
    have h1 : ∀ x ∈ (List.dropWhile lower l.reverse).reverse, lower x = true := drop_all _ (by rw [h]; simp)
    exact drop_all l.reverse (fun y hy => h1 y (List.mem_reverse.2 hy)) x (List.mem_reverse.2 hx)
  · intro h
    rw [drop_nil l.reverse (fun x hx => h x (List.mem_reverse.1 hx))]
    rfl
theorem trim_any (s : ByteArray) (w : World) (hs : s.size ≤ 32) : Calls Tryd.prog 83 #[.string s, .string abcB] w fun e w' => e = .returned (.string ⟨(Lib.trimS s.data.toList abcB.data.toList).toArray⟩) ∧ Below w.heap.size w w' :=
  Any.strings_Trim_laid Tryd.laysTrim (by kernel_rfl) s abcB w (by omega) (by decide) (ascii_of_all (by decide))
theorem nameOk_eq (s : ByteArray) : nameOk s = (decide (1 ≤ s.size) && decide (s.size ≤ 32) && s.data.toList.all lower) := rfl
theorem toList_nil (s : ByteArray) (h : s.size = 0) : s.toList = [] := by
  rw [ByteArray.toList_eq]
  exact List.eq_nil_of_length_eq_zero (by simpa using h)
theorem toList_ne (s : ByteArray) (h : 0 < s.size) : ¬ s.toList = [] := by
  rw [ByteArray.toList_eq]
  intro e
  have h1 : s.data.toList.length = 0 := by rw [e]; rfl
  have h2 : s.data.toList.length = s.size := Array.length_toList
  omega
theorem toList_ne' (s : ByteArray) (h : 0 < s.size) : s.toList.isEmpty = false := by
  have := toList_ne s h
  cases hh : s.toList with
  | nil => exact absurd hh this
  | cons a l => rfl
set_option maxHeartbeats 2000000 in
theorem named_any (s : ByteArray) (w : World) (hs : s.size ≤ maxLen) : Calls Tryd.prog 66 #[.string s] w fun e w' => e = .returned (.bool (nameOk s)) ∧ Below w.heap.size w w' := by
  have hs0 := hs
  unfold maxLen at hs0
  by_cases h0 : s.size = 0
  · have HN : Hid (nameOk s = false) := by show _ = _; rw [nameOk_eq, decide_eq_false (by omega), Bool.false_and, Bool.false_and]
    have h1 := toList_nil s h0
    clear h0
    go_enter Tryd.func66, Tryd.ntmps66
    go_wp2_with fail
    go_ret
    exact ⟨by rw [HN.out]; rfl, Below.refl _ _⟩
  · by_cases h32 : 32 < s.size
    · have HN : Hid (nameOk s = false) := by show _ = _; rw [nameOk_eq, decide_eq_false (p := s.size ≤ 32) (by omega), Bool.and_false, Bool.false_and]
      go_enter Tryd.func66, Tryd.ntmps66
      have h1 := toList_ne s (by omega)
      have h1' := toList_ne' s (by omega)
      go_wp2_with fail
      go_ret
      exact ⟨by rw [HN.out]; rfl, Below.refl _ _⟩
    · have HT := Lib.hid (fun w => trim_any s w (by omega))
      have HN : Hid (nameOk s = s.data.toList.all lower) := by show _ = _; rw [nameOk_eq, decide_eq_true (by omega), decide_eq_true (by omega), Bool.true_and, Bool.true_and]
      have HA := Lib.hid (trim_all s.data.toList)
      have h1 := toList_ne s (by omega)
      have h1' := toList_ne' s (by omega)
      generalize hx : Lib.trimS s.data.toList abcB.data.toList = x at *
      have HX := Lib.hid hx
      clear hx
      unfold abcB at HT
      cases hall : s.data.toList.all lower with
      | true =>
        have hxn : x = [] := HA.out.2 hall
        subst hxn
        rw [hall] at HN
        clear hall HA
        go_enter Tryd.func66, Tryd.ntmps66
        go_wp2_with (refine (HT.out _).mono ?_; rintro e w1 ⟨rfl, hb1⟩)
        go_ret
        exact ⟨by rw [HN.out]; rfl, hb1⟩
      | false =>
        have hxn : ¬ x = [] := fun e => by
          have := HA.out.1 e
          rw [hall] at this
          cases this
        have hx2 : ¬ (⟨x.toArray⟩ : ByteArray).toList = [] := by
          rw [ByteArray.toList_eq]
          simpa using hxn
        rw [hall] at HN
        clear hall HA HX
        generalize (⟨x.toArray⟩ : ByteArray) = y at *
        have hx3 : y.toList.isEmpty = false := by
          cases hh : y.toList with
          | nil => exact absurd hh hx2
          | cons a l => rfl
        go_enter Tryd.func66, Tryd.ntmps66
        go_wp2_with (refine (HT.out _).mono ?_; rintro e w1 ⟨rfl, hb1⟩)
        go_ret
        exact ⟨by rw [HN.out]; rfl, hb1⟩

end Go.Proofs.YtimhlnndobfehaaDoor
namespace Go.Proofs.YtimhlnndobfehaaDoor
open Go.RowKit
set_option linter.unusedVariables false

/-- Of the old blocks only those in S were changed. -/
structure Fr (S : Nat → Prop) (w w' : World) : Prop where
  os : w'.os = w.os
  tape : w'.tape = w.tape
  output : w'.output = w.output
  size : w.heap.size ≤ w'.heap.size
  block : ∀ k, k < w.heap.size → ¬ S k → w'.heap[k]? = w.heap[k]?

theorem Fr.refl (S : Nat → Prop) (w : World) : Fr S w w := ⟨rfl, rfl, rfl, Nat.le_refl _, fun _ _ _ => rfl⟩
theorem Fr.trans {S T : Nat → Prop} {a b c : World} (h : Fr S a b) (k : Fr T b c) (hs : ∀ k, k < a.heap.size → T k → S k) : Fr S a c :=
  ⟨k.os.trans h.os, k.tape.trans h.tape, k.output.trans h.output, Nat.le_trans h.size k.size, fun i hi hn => (k.block i (Nat.lt_of_lt_of_le hi h.size) (fun ht => hn (hs i hi ht))).trans (h.block i hi hn)⟩
theorem Fr.of_below {S : Nat → Prop} {w w' : World} (h : Below w.heap.size w w') : Fr S w w' := ⟨h.os, h.tape, h.output, h.size, fun k hk _ => h.block k hk⟩
theorem Fr.of_grown {S : Nat → Prop} {w w' : World} {row : Option Nat} (h : w.grownBy w' row) (hs : ∀ k, row = some k → S k) : Fr S w w' :=
  ⟨h.os, h.tape, h.output, h.size, fun k hk hn => h.block k hk (fun e => hn (hs k e.symm))⟩
theorem Fr.set_ {S : Nat → Prop} (w : World) (p : Addr) (u : Value) (hs : S p.block) : Fr S w (w.setCell p u) :=
  ⟨rfl, rfl, rfl, by simp, fun k _ hn => Below.heap_setCell w p u k (fun e => hn (e ▸ hs))⟩
theorem Fr.alloc {S : Nat → Prop} {w w' : World} (h : Fr S w w') (o : Obj) : Fr S w (w'.alloc o) :=
  h.trans (T := fun _ => False) (Fr.of_below ((Below.refl _ _).alloc (Nat.le_refl _) _)) (fun _ _ h => h.elim)
theorem Fr.setc {S : Nat → Prop} {w w' : World} (h : Fr S w w') (p : Addr) (u : Value) (hs : p.block < w.heap.size → S p.block) : Fr S w (w'.setCell p u) :=
  h.trans (Fr.set_ (S := fun k => k = p.block) w' p u rfl) (fun k hk e => by subst e; exact hs hk)
theorem Fr.weak {S T : Nat → Prop} {w w' : World} (h : Fr S w w') (hs : ∀ k, k < w.heap.size → S k → T k) : Fr T w w' :=
  ⟨h.os, h.tape, h.output, h.size, fun k hk hn => h.block k hk (fun e => hn (hs k hk e))⟩
theorem Fr.below {S : Nat → Prop} {w w' : World} (h : Fr S w w') {B : Nat} (hs : ∀ k, S k → B ≤ k) (hB : B ≤ w.heap.size) : Below B w w' :=
  ⟨h.os, h.tape, h.output, h.size, fun k hk => h.block k (by omega) (fun e => by have := hs k e; omega)⟩
theorem Fr.drewN {S : Nat → Prop} {w w' : World} (h : Fr S w w') (n : Nat) : Fr S w (w'.drewN n) := ⟨h.os, h.tape, h.output, h.size, h.block⟩

section
variable {w w' : World} {base sz n : Nat} {e : TypeId} {v : Value} {xs : List Value}
theorem own_same (h : w.ownsRow base e sz v n xs) (hb : ∀ g, v.ownBlock = some g → w'.heap[g]? = w.heap[g]?) : w'.ownsRow base e sz v n xs := by
  refine ⟨h.1, ?_⟩
  rcases h.2 with hn | ⟨g, cap, cur, rfl, hbg, hgg, rest⟩
  · exact .inl hn
  · exact .inr ⟨g, cap, cur, rfl, hbg, (hb g rfl).trans hgg, rest⟩
theorem own_below (h : w.ownsRow base e sz v n xs) (hb : Below w.heap.size w w') : w'.ownsRow base e sz v n xs := own_same h fun g hg => hb.block g (h.lt g hg).2
theorem own_fr {S : Nat → Prop} (h : w.ownsRow base e sz v n xs) (hf : Fr S w w') (hs : ∀ g, v.ownBlock = some g → ¬ S g) : w'.ownsRow base e sz v n xs :=
  own_same h fun g hg => hf.block g (h.lt g hg).2 (hs g hg)
theorem own_low {lo : Nat} (h : w.ownsRow base e sz v n xs) (hl : lo ≤ base) : w.ownsRow lo e sz v n xs := by
  refine ⟨h.1, ?_⟩
  rcases h.2 with hn | ⟨g, cap, cur, rfl, hbg, hgg, rest⟩
  · exact .inl hn
  · exact .inr ⟨g, cap, cur, rfl, by omega, hgg, rest⟩
theorem own_form (h : w.ownsRow base e sz v n xs) : ∃ A c, v = .slice A n c ∧ n ≤ c ∧ c ≤ maxLen := by
  rcases h.2 with ⟨rfl, rfl⟩ | ⟨g, cap, cur, rfl, hbg, hgg, h1, h2, _⟩
  · exact ⟨none, 0, rfl, Nat.le_refl _, by unfold maxLen; omega⟩
  · exact ⟨_, cap, rfl, h1, h2⟩
theorem own_pos (h : w.ownsRow base e sz v n xs) (hn : 0 < n) : ∃ g c, v = .slice (some ⟨g, 0, none⟩) n c ∧ n ≤ c ∧ c ≤ maxLen ∧ base ≤ g ∧ g < w.heap.size := by
  rcases h.2 with ⟨rfl, rfl⟩ | ⟨g, cap, cur, rfl, hbg, hgg, h1, h2, _⟩
  · omega
  · exact ⟨g, cap, rfl, h1, h2, hbg, (Array.getElem?_eq_some_iff.1 hgg).1⟩
theorem own_cel {g c : Nat} (h : w.ownsRow base e sz (.slice (some ⟨g, 0, none⟩) n c) n xs) {j : Nat} {u : Value} (hj : xs[j]? = some u) : Cel w g j u := by
  have h1 := h.cells (g := g) rfl j u hj
  rw [Addr.add_lit, Nat.zero_add] at h1
  refine ⟨h1, ?_⟩
  rcases h.2 with ⟨hv, _⟩ | ⟨g', cap, cur, hv, _, hh, _⟩
  · cases hv
  · injection hv with h1 h2 h3
    injection h1 with h1
    injection h1 with h1
    subst h1
    unfold World.frozen?
    rw [hh]
    simp
theorem own_set {g : Nat} (h : w.ownsRow base e sz v n xs) (hg : v.ownBlock = some g) {j : Nat} (hj : j < xs.length) (u : Value) : (w.setCell ⟨g, j, none⟩ u).ownsRow base e sz v n (xs.set j u) := by
  refine ⟨by rw [List.length_set]; exact h.1, ?_⟩
  rcases h.2 with ⟨rfl, rfl⟩ | ⟨g', cap, cur, rfl, hbg, hgg, h1, h2, h3, h4⟩
  · simp [Value.ownBlock] at hg
  · simp only [Value.ownBlock, Option.some.injEq] at hg
    subst hg
    have hjn : j < n * sz := by rw [← h.1]; exact hj
    refine .inr ⟨g', cap, cur.setIfInBounds j u, rfl, hbg, ?_, h1, h2, by simpa using h3, ?_⟩
    · simp only [World.setCell, Array.getElem?_modify, hgg]; simp
    · rw [← h4]
      refine List.ext_getElem? fun k => ?_
      rw [List.getElem?_set, List.getElem?_take, List.getElem?_take]
      simp only [List.length_take, Array.length_toList, Array.getElem?_toList, Array.getElem?_setIfInBounds]
      have hjc : j < cur.size := by
        have : n * sz ≤ cap * sz := Nat.mul_le_mul_right _ h1
        omega
      by_cases hk : k < n * sz
      · simp only [hk, if_true]
        by_cases hjk : j = k
        · subst hjk
          simp only [if_true]
          rw [if_pos (by omega), if_pos (by omega)]
        · simp [hjk]
      · simp only [hk, if_false]
        by_cases hjk : j = k
        · omega
        · simp [hjk]
theorem Row.news {w : World} {g : Nat} {t : TypeId} {l : List Value} (h : Row w g t l) : ∀ j u, l[j]? = some u → w.cell? ((⟨g, 0, none⟩ : Addr).add j) = some u := fun j u hj => by
  rw [Addr.add_lit, Nat.zero_add]
  exact (h.cel hj).1
theorem row_ne_own {g : Nat} {t : TypeId} {l : List Value} (hr : Row w g t l) (h : w.ownsRow base e sz v n xs) (hte : t ≠ e) : v.ownBlock ≠ some g := fun hg => by
  rcases h.2 with ⟨rfl, _⟩ | ⟨g', cap, cur, rfl, _, hh, _⟩
  · simp [Value.ownBlock] at hg
  · simp only [Value.ownBlock, Option.some.injEq] at hg
    subst hg
    unfold Row at hr
    rw [hr] at hh
    simp only [Option.some.injEq, Obj.cells.injEq] at hh
    exact hte hh.2.1
theorem own_ne_own {base' sz' n' : Nat} {e' : TypeId} {v' : Value} {xs' : List Value} (h : w.ownsRow base e sz v n xs) (h' : w.ownsRow base' e' sz' v' n' xs') (hte : e ≠ e') : ∀ g, v.ownBlock = some g → v'.ownBlock ≠ some g := fun g hg hg' => by
  rcases h.2 with ⟨rfl, _⟩ | ⟨g1, cap, cur, rfl, _, hh, _⟩
  · simp [Value.ownBlock] at hg
  · rcases h'.2 with ⟨rfl, _⟩ | ⟨g2, cap2, cur2, rfl, _, hh2, _⟩
    · simp [Value.ownBlock] at hg'
    · simp only [Value.ownBlock, Option.some.injEq] at hg hg'
      subst hg hg'
      rw [hh] at hh2
      simp only [Option.some.injEq, Obj.cells.injEq] at hh2
      exact hte hh2.2.1
end
end Go.Proofs.YtimhlnndobfehaaDoor
namespace Go.Proofs.YtimhlnndobfehaaDoor
open Go.RowKit
set_option linter.unusedVariables false

def vLt : Rep Lt := fun _ _ _ cs l => cs = [.int .i32 l.rune, .int .u32 (l.plus : Int), .int .u32 (l.minus : Int)] ∧ kin .i32 l.rune ∧ l.plus < 4294967296 ∧ l.minus < 4294967296
theorem vLt_good : vLt.Good := ⟨fun _ h => h, fun _ _ h => h⟩
theorem lt_at {w : World} {lo hi k : Nat} {A : Option Addr} {l : List Lt} (h : Sl 3 vLt w lo hi A l) (hk : k < l.length) :
    ∃ b off, A = some ⟨b, off, none⟩ ∧ lo ≤ b ∧ b < hi ∧ Cel w b (off + k * 3) (.int .i32 l[k].rune) ∧ Cel w b (off + k * 3 + 1) (.int .u32 (l[k].plus : Int)) ∧ Cel w b (off + k * 3 + 2) (.int .u32 (l[k].minus : Int)) ∧
      (-2147483648 ≤ l[k].rune ∧ l[k].rune ≤ 2147483647) ∧ l[k].plus < 4294967296 ∧ l[k].minus < 4294967296 := by
  obtain ⟨b, off, cs, e, h1, h2, _, h4, rfl, h5, h6, h7⟩ := h.at_ hk
  exact ⟨b, off, e, h1, h2, h4 0 _ rfl, h4 1 _ rfl, h4 2 _ rfl, kin_i32 h5, h6, h7⟩
/-- An alphabet's features and letters lie in blocks from lo on and below hi. -/
structure AlIn (w : World) (lo hi : Nat) (A1 A2 : Option Addr) (a : Al) : Prop where
  f : Sl 1 vStr w lo hi A1 a.feats
  l : Sl 3 vLt w lo hi A2 a.lets
  n1 : a.feats.length ≤ 9223372036854775807
  n2 : a.lets.length ≤ 9223372036854775807
section
variable {w w' : World} {lo hi lo' hi' : Nat} {A1 A2 : Option Addr} {a : Al}
theorem AlIn.below (h : AlIn w lo hi A1 A2 a) {B : Nat} (hb : Below B w w') (hB : hi ≤ B) : AlIn w' lo hi A1 A2 a := ⟨h.f.below vStr_good hb hB, h.l.below vLt_good hb hB, h.n1, h.n2⟩
theorem AlIn.wide (h : AlIn w lo hi A1 A2 a) (h1 : lo' ≤ lo) (h2 : hi ≤ hi') : AlIn w lo' hi' A1 A2 a := ⟨h.f.wide vStr_good h1 h2, h.l.wide vLt_good h1 h2, h.n1, h.n2⟩
theorem AlIn.keep (h : AlIn w lo hi A1 A2 a) (hk : Kp lo hi w w') : AlIn w' lo hi A1 A2 a := ⟨h.f.keep vStr_good hk, h.l.keep vLt_good hk, h.n1, h.n2⟩
end
/-- The same from a world on. -/
theorem AlIn.on {w w' : World} {lo : Nat} {A1 A2 : Option Addr} {a : Al} (h : AlIn w lo w.heap.size A1 A2 a) (hb : Below w.heap.size w w') : AlIn w' lo w'.heap.size A1 A2 a := (h.below hb (Nat.le_refl _)).wide (Nat.le_refl _) hb.size

/-! ### what was seen -/
def seenS (seen : List (List UInt8)) : Lit → Bool := fun kl => seen.any fun f => kl.sameKey (.string f)
def seenR (seen : List Int) : Lit → Bool := fun kl => seen.any fun r => kl.sameKey (.int .i32 r)
theorem sameKey_str (l : Lit) (s : List UInt8) : l.sameKey (.string s) = true ↔ l = .string s := ⟨WideAt.sameKey_eq, fun h => by subst h; simp [Lit.sameKey]⟩
theorem sameKey_int (l : Lit) (r : Int) : l.sameKey (.int .i32 r) = true ↔ l = .int .i32 r := ⟨WideAt.sameKey_eq, fun h => by subst h; simp [Lit.sameKey]⟩
theorem seenS_cons (seen : List (List UInt8)) (f : List UInt8) : setAt (seenS seen) (.string f) true = seenS (f :: seen) := by
  funext l
  unfold setAt seenS
  rw [List.any_cons]
  by_cases h : l = .string f
  · rw [if_pos h, (sameKey_str _ _).2 h, Bool.true_or]
  · rw [if_neg h]
    have : l.sameKey (.string f) = false := by
      rw [← Bool.not_eq_true]
      exact fun hh => h ((sameKey_str _ _).1 hh)
    rw [this, Bool.false_or]
theorem seenR_cons (seen : List Int) (r : Int) : setAt (seenR seen) (.int .i32 r) true = seenR (r :: seen) := by
  funext l
  unfold setAt seenR
  rw [List.any_cons]
  by_cases h : l = .int .i32 r
  · rw [if_pos h, (sameKey_int _ _).2 h, Bool.true_or]
  · rw [if_neg h]
    have : l.sameKey (.int .i32 r) = false := by
      rw [← Bool.not_eq_true]
      exact fun hh => h ((sameKey_int _ _).1 hh)
    rw [this, Bool.false_or]
theorem seenS_eq (seen : List (List UInt8)) (f : List UInt8) : seenS seen (.string f) = decide (f ∈ seen) := by
  unfold seenS
  rw [Bool.eq_iff_iff, List.any_eq_true, decide_eq_true_eq]
  constructor
  · rintro ⟨g, hg, h⟩
    have := (sameKey_str _ _).1 h
    injection this with this
    rw [this]
    exact hg
  · intro h
    exact ⟨f, h, (sameKey_str _ _).2 rfl⟩
theorem seenR_eq (seen : List Int) (r : Int) : seenR seen (.int .i32 r) = decide (r ∈ seen) := by
  unfold seenR
  rw [Bool.eq_iff_iff, List.any_eq_true, decide_eq_true_eq]
  constructor
  · rintro ⟨g, hg, h⟩
    have := (sameKey_int _ _).1 h
    injection this with _ this
    rw [this]
    exact hg
  · intro h
    exact ⟨r, h, (sameKey_int _ _).2 rfl⟩
theorem seenS_nil : (fun _ => false) = seenS [] := rfl
theorem seenR_nil : (fun _ => false) = seenR [] := rfl
end Go.Proofs.YtimhlnndobfehaaDoor
namespace Go.Proofs.YtimhlnndobfehaaDoor
open Go.RowKit Go.Maps Go.WideMaps
set_option linter.unusedVariables false

theorem keyLaw : KeyLaw Tryd.prog 128 := deep_law_laid (by kernel_rfl) (m := 3) (by omega) (of_decide_eq_true (by kernel_rfl)) (by kernel_rfl) (by kernel_rfl)
theorem keyed_key : Keyed Tryd.prog 128 := Keyed.of_law keyLaw
theorem keyed_int : Keyed Tryd.prog 3 := int_keyed Tryd.underlying3
theorem keyed_rune : Keyed Tryd.prog 21 := int_keyed Tryd.underlying21
/-- The key of a node and a place. -/
noncomputable def K2 (n i : Nat) : Lit := .string (keyBytes [.int .i64 (n : Int), .int .i64 (i : Int)])
theorem key_cells : Tryd.prog.cellsOf 128 = 2 := by kernel_rfl
theorem int_cells : Tryd.prog.cellsOf 3 = 1 := by kernel_rfl
theorem lits_int {n : Int} (h : (Lit.int .i64 n).wf = true) (d : Nat) : Tryd.prog.keyLits (d + 1) 3 [.int .i64 n] = some [.int .i64 n] := by
  simp [Program.keyLits, Tryd.underlying3, h]
theorem lits_key {n i : Int} (hn : (Lit.int .i64 n).wf = true) (hi : (Lit.int .i64 i).wf = true) (d : Nat) : Tryd.prog.keyLits (d + 2) 128 [.int .i64 n, .int .i64 i] = some [.int .i64 n, .int .i64 i] := by
  unfold Program.keyLits
  simp [Tryd.underlying128, key_cells, int_cells, lits_int hn, lits_int hi]
theorem key2 {n i : Nat} (hn : n ≤ 9223372036854775807) (hi : i ≤ 9223372036854775807) : keyOf Tryd.prog 128 (.agg #[.int .i64 (n : Int), .int .i64 (i : Int)]) = some (K2 n i) := by
  have wn : (Lit.int .i64 (n : Int)).wf = true := kin_mk64 (by omega)
  have wi : (Lit.int .i64 (i : Int)).wf = true := kin_mk64 (by omega)
  obtain ⟨d, hd⟩ : ∃ d, Tryd.prog.types.size + 1 = d + 2 := ⟨Tryd.prog.types.size - 1, by have : 1 ≤ Tryd.prog.types.size := of_decide_eq_true (by kernel_rfl); omega⟩
  unfold keyOf
  rw [Tryd.underlying128, hd]
  have h1 : Tryd.prog.keyType 128 = true := by kernel_rfl
  have h2 : (Value.agg #[.int .i64 (n : Int), .int .i64 (i : Int)]).formed Tryd.prog 128 = true := by simp [Value.formed, Tryd.underlying128, key_cells]
  have h3 : (Value.agg #[.int .i64 (n : Int), .int .i64 (i : Int)]).cells.toList = [.int .i64 (n : Int), .int .i64 (i : Int)] := rfl
  simp only [h1, h2, h3, lits_key wn wi d, Bool.and_self, if_true, Option.map_some]
  rfl
theorem key2_inj {n i m j : Nat} (hn : n ≤ 9223372036854775807) (hi : i ≤ 9223372036854775807) (hm : m ≤ 9223372036854775807) (hj : j ≤ 9223372036854775807) (h : K2 n i = K2 m j) : n = m ∧ i = j := by
  have := keyed_key.inj (key2 hn hi) (h ▸ key2 hm hj)
  simp at this
  omega
end Go.Proofs.YtimhlnndobfehaaDoor
namespace Go.Proofs.YtimhlnndobfehaaDoor

structure Nd where
  kind : Int
  rune : Int
  plus : Int
  minus : Int
  kids : List Int
  deriving DecidableEq

/-- A node by its kind, the kids' numbers aside. -/
def nodeOk (x : Nd) : Bool :=
  (if x.kind = 6 ∨ x.kind = 7 then true else if x.kind = 8 ∨ x.kind = 9 then decide (x.kids.length = 1)
    else if 1 ≤ x.kind ∧ x.kind ≤ 5 then decide (x.kids.length = 0) else false) &&
  (decide (x.rune = 0) || decide (x.kind = 2)) && ((decide (x.plus = 0) && decide (x.minus = 0)) || decide (x.kind = 3))

def arOk (x : Nd) : Bool :=
  if x.kind = 6 ∨ x.kind = 7 then true else if x.kind = 8 ∨ x.kind = 9 then decide (x.kids.length = 1)
    else if 1 ≤ x.kind ∧ x.kind ≤ 5 then decide (x.kids.length = 0) else false
def fdOk (x : Nd) : Bool := (decide (x.rune = 0) || decide (x.kind = 2)) && ((decide (x.plus = 0) && decide (x.minus = 0)) || decide (x.kind = 3))
theorem nodeOk_eq (x : Nd) : nodeOk x = (arOk x && fdOk x) := by unfold nodeOk arOk fdOk; rw [Bool.and_assoc]
/-- The program's way: marks. -/
def kidsOk (i n : Int) : List Bool → List Int → Option (List Bool)
  | seen, [] => some seen
  | seen, k :: r => if k ≤ i ∨ n ≤ k ∨ seen[k.toNat]? = some true then none else kidsOk i n (seen.set k.toNat true) r
def nodesOk (n : Int) : Int → List Bool → List Nd → Option (List Bool)
  | _, seen, [] => some seen
  | i, seen, x :: r => if nodeOk x then (match kidsOk i n seen x.kids with | some s => nodesOk n (i + 1) s r | none => none) else none
def treeB (ns : List Nd) : Bool :=
  if ns.length < 1 ∨ 256 < ns.length then false else
    match nodesOk ns.length 0 (List.replicate ns.length false) ns with
    | none => false
    | some seen => !(seen.tail.contains false)

/-- The document's way: counts. -/
def kidsIn (i n : Int) : List Nat → List Int → Option (List Nat)
  | c, [] => some c
  | c, k :: r => if k ≤ i ∨ n ≤ k then none else kidsIn i n (c.set k.toNat (c.getD k.toNat 0 + 1)) r
def nodesIn (n : Int) : Int → List Nat → List Nd → Option (List Nat)
  | _, c, [] => some c
  | i, c, x :: r => if nodeOk x = true ∧ (x.kids.length : Int) < n then (match kidsIn i n c x.kids with | some s => nodesIn n (i + 1) s r | none => none) else none
def treeR (ns : List Nd) : Bool :=
  if ns.length < 1 ∨ 256 < ns.length then false else
    match nodesIn ns.length 0 (List.replicate ns.length 0) ns with
    | none => false
    | some c => c.tail.all (· == 1)

/-- All kids, in the nodes' order. -/
def allKids (ns : List Nd) : List Int := ns.flatMap (·.kids)
/-- Kids lie between their node and the end. -/
def InR (n : Int) : Int → List Nd → Prop
  | _, [] => True
  | i, x :: r => (∀ k ∈ x.kids, i < k ∧ k < n) ∧ InR n (i + 1) r

structure IsTree (ns : List Nd) : Prop where
  pos : 1 ≤ ns.length
  max : ns.length ≤ 256
  ok : ∀ x ∈ ns, nodeOk x = true
  inr : InR ns.length 0 ns
  once : ∀ j : Nat, 1 ≤ j → j < ns.length → (allKids ns).count (j : Int) = 1

theorem kidsOk_some {i n : Int} : ∀ {l : List Int} {seen s : List Bool}, 0 ≤ i → n = seen.length → kidsOk i n seen l = some s →
    (∀ k ∈ l, i < k ∧ k < n) ∧ s.length = seen.length ∧ (∀ j : Nat, s[j]? = some true ↔ (seen[j]? = some true ∨ (j : Int) ∈ l)) ∧ (∀ j : Nat, (j : Int) ∈ l → seen[j]? ≠ some true) ∧ l.Nodup
  | [], seen, s, _, _, h => by
    simp only [kidsOk, Option.some.injEq] at h
    subst h
    simp
  | k :: r, seen, s, h0, hn, h => by
    unfold kidsOk at h
    by_cases hb : k ≤ i ∨ n ≤ k ∨ seen[k.toNat]? = some true
    · rw [if_pos hb] at h; cases h
    · rw [if_neg hb] at h
      have hk : i < k ∧ k < n ∧ seen[k.toNat]? ≠ some true := ⟨by omega, by omega, fun e => hb (.inr (.inr e))⟩
      obtain ⟨h1, h2, h3, h4, h5⟩ := kidsOk_some (l := r) h0 (by rw [List.length_set]; exact hn) h
      rw [List.length_set] at h2
      have hlt : k.toNat < seen.length := by omega
      refine ⟨fun x hx => ?_, h2, fun j => ?_, fun j hj => ?_, ?_⟩
      · rcases List.mem_cons.1 hx with rfl | hx
        · exact ⟨hk.1, hk.2.1⟩
        · exact h1 x hx
      · rw [h3 j, List.getElem?_set]
        by_cases e : k.toNat = j
        · subst e
          simp only [if_true, hlt, List.mem_cons]
          constructor
          · intro _; exact .inr (.inl (by omega))
          · intro _; exact .inl trivial
        · rw [if_neg e]
          simp only [List.mem_cons]
          have : ¬ (j : Int) = k := by omega
          simp [this]
      · rcases List.mem_cons.1 hj with e | hj
        · rw [show j = k.toNat by omega]; exact hk.2.2
        · have := h4 j hj
          rw [List.getElem?_set] at this
          by_cases e : k.toNat = j
          · subst e; simp [hlt] at this
          · rwa [if_neg e] at this
      · refine List.nodup_cons.2 ⟨fun hm => ?_, h5⟩
        have hkk : ((k.toNat : Nat) : Int) = k := by omega
        have := h4 k.toNat (by rw [hkk]; exact hm)
        rw [List.getElem?_set] at this
        simp [hlt] at this
theorem kidsOk_none {i n : Int} : ∀ {l : List Int} {seen : List Bool}, 0 ≤ i → n = seen.length → (∀ k ∈ l, i < k ∧ k < n) → l.Nodup → (∀ j : Nat, (j : Int) ∈ l → seen[j]? ≠ some true) → ∃ s, kidsOk i n seen l = some s
  | [], seen, _, _, _, _, _ => ⟨seen, rfl⟩
  | k :: r, seen, h0, hn, h1, h2, h3 => by
    have hk := h1 k (by simp)
    have hkk : ((k.toNat : Nat) : Int) = k := by omega
    have hs := h3 k.toNat (by rw [hkk]; simp)
    have hlt : k.toNat < seen.length := by omega
    unfold kidsOk
    rw [if_neg (by rintro (h | h | h) <;> first | omega | exact hs h)]
    refine kidsOk_none (l := r) h0 (by rw [List.length_set]; exact hn) (fun x hx => h1 x (by simp [hx])) (List.nodup_cons.1 h2).2 (fun j hj => ?_)
    rw [List.getElem?_set]
    by_cases e : k.toNat = j
    · subst e
      rw [hkk] at hj
      exact absurd hj (List.nodup_cons.1 h2).1
    · rw [if_neg e]
      exact h3 j (by simp [hj])

theorem nodesOk_some {n : Int} : ∀ {ns : List Nd} {i : Int} {seen s : List Bool}, 0 ≤ i → n = seen.length → nodesOk n i seen ns = some s →
    (∀ x ∈ ns, nodeOk x = true) ∧ InR n i ns ∧ s.length = seen.length ∧ (∀ j : Nat, s[j]? = some true ↔ (seen[j]? = some true ∨ (j : Int) ∈ allKids ns)) ∧ (∀ j : Nat, (j : Int) ∈ allKids ns → seen[j]? ≠ some true) ∧ (allKids ns).Nodup
  | [], i, seen, s, _, _, h => by
    simp only [nodesOk, Option.some.injEq] at h
    subst h
    simp [InR, allKids]
  | x :: r, i, seen, s, h0, hn, h => by
    unfold nodesOk at h
    by_cases hx : nodeOk x = true
    · rw [if_pos hx] at h
      cases hk : kidsOk i n seen x.kids with
      | none => rw [hk] at h; cases h
      | some t =>
        rw [hk] at h
        obtain ⟨a1, a2, a3, a4, a5⟩ := kidsOk_some h0 hn hk
        obtain ⟨b1, b2, b3, b4, b5, b6⟩ := nodesOk_some (ns := r) (i := i + 1) (by omega) (by rw [a2]; exact hn) h
        have hall : allKids (x :: r) = x.kids ++ allKids r := rfl
        rw [hall]
        refine ⟨fun y hy => ?_, ⟨a1, b2⟩, by omega, fun j => ?_, fun j hj => ?_, ?_⟩
        · rcases List.mem_cons.1 hy with rfl | hy
          · exact hx
          · exact b1 y hy
        · rw [b4 j, a3 j, List.mem_append, or_assoc]
        · rcases List.mem_append.1 hj with hj | hj
          · exact a4 j hj
          · exact fun e => b5 j hj ((a3 j).2 (.inl e))
        · refine List.nodup_append.2 ⟨a5, b6, fun y hy z hz e => ?_⟩
          subst e
          have hy0 := a1 y hy
          have hyy : ((y.toNat : Nat) : Int) = y := by omega
          exact b5 y.toNat (by rw [hyy]; exact hz) ((a3 y.toNat).2 (.inr (by rw [hyy]; exact hy)))
    · rw [if_neg hx] at h; cases h
theorem nodesOk_none {n : Int} : ∀ {ns : List Nd} {i : Int} {seen : List Bool}, 0 ≤ i → n = seen.length → (∀ x ∈ ns, nodeOk x = true) → InR n i ns → (allKids ns).Nodup → (∀ j : Nat, (j : Int) ∈ allKids ns → seen[j]? ≠ some true) → ∃ s, nodesOk n i seen ns = some s
  | [], i, seen, _, _, _, _, _, _ => ⟨seen, rfl⟩
  | x :: r, i, seen, h0, hn, h1, h2, h3, h4 => by
    have hall : allKids (x :: r) = x.kids ++ allKids r := rfl
    rw [hall] at h3 h4
    obtain ⟨k1, k2, k3⟩ := List.nodup_append.1 h3
    obtain ⟨t, ht⟩ := kidsOk_none h0 hn h2.1 k1 (fun j hj => h4 j (by simp [hj]))
    obtain ⟨_, a2, a3, _, _⟩ := kidsOk_some h0 hn ht
    unfold nodesOk
    rw [if_pos (h1 x (by simp)), ht]
    refine nodesOk_none (ns := r) (by omega) (by rw [a2]; exact hn) (fun y hy => h1 y (by simp [hy])) h2.2 k2 (fun j hj e => ?_)
    rcases (a3 j).1 e with e | e
    · exact h4 j (by simp [hj]) e
    · exact k3 _ e _ hj rfl

theorem inr_mem {n : Int} : ∀ {ns : List Nd} {i : Int} {k : Int}, InR n i ns → k ∈ allKids ns → i < k ∧ k < n
  | x :: r, i, k, h, hk => by
    rcases List.mem_append.1 (show k ∈ x.kids ++ allKids r from hk) with hk | hk
    · exact h.1 k hk
    · have := inr_mem h.2 hk; omega

theorem treeB_iff (ns : List Nd) : treeB ns = true ↔ IsTree ns := by
  unfold treeB
  by_cases hl : ns.length < 1 ∨ 256 < ns.length
  · rw [if_pos hl]
    constructor
    · intro h; cases h
    · intro h; have := h.pos; have := h.max; omega
  · rw [if_neg hl]
    have hr : ∀ j : Nat, (List.replicate ns.length false)[j]? ≠ some true := by
      intro j h
      rw [List.getElem?_replicate] at h
      split at h <;> simp at h
    cases hs : nodesOk ns.length 0 (List.replicate ns.length false) ns with
    | none =>
      simp only [Bool.false_eq_true, false_iff]
      intro h
      have hnd : (allKids ns).Nodup := by
        rw [List.nodup_iff_count]
        intro k
        by_cases hk : k ∈ allKids ns
        · have h1 := inr_mem h.inr hk
          have := h.once k.toNat (by omega) (by omega)
          rw [show ((k.toNat : Nat) : Int) = k by omega] at this
          omega
        · rw [List.count_eq_zero_of_not_mem hk]; omega
      obtain ⟨s, e⟩ := nodesOk_none (n := ns.length) (i := 0) (seen := List.replicate ns.length false) (by omega) (by simp) h.ok h.inr hnd (fun j _ => hr j)
      rw [hs] at e
      cases e
    | some s =>
      obtain ⟨b1, b2, b3, b4, b5, b6⟩ := nodesOk_some (by omega) (by simp) hs
      rw [List.length_replicate] at b3
      have key : (!(s.tail.contains false)) = true ↔ ∀ j : Nat, 1 ≤ j → j < ns.length → s[j]? = some true := by
        simp only [Bool.not_eq_true', List.contains_eq_mem, decide_eq_false_iff_not]
        constructor
        · intro h j h1 h2
          have hj : j < s.length := by omega
          rw [List.getElem?_eq_getElem hj]
          cases hv : s[j] with
          | true => rfl
          | false =>
            refine absurd ?_ h
            rw [List.mem_iff_getElem?]
            exact ⟨j - 1, by rw [List.getElem?_tail, show j - 1 + 1 = j by omega, List.getElem?_eq_getElem hj, hv]⟩
        · intro h hm
          obtain ⟨i, hi⟩ := List.mem_iff_getElem?.1 hm
          rw [List.getElem?_tail] at hi
          have hlt : i + 1 < s.length := (List.getElem?_eq_some_iff.1 hi).1
          have := h (i + 1) (by omega) (by omega)
          rw [this] at hi
          cases hi
      show (!(s.tail.contains false)) = true ↔ _
      rw [key]
      constructor
      · intro h
        refine ⟨by omega, by omega, b1, b2, fun j h1 h2 => ?_⟩
        rcases (b4 j).1 (h j h1 h2) with e | e
        · exact absurd e (hr j)
        · have h3 := List.nodup_iff_count.1 b6 (j : Int)
          have h4 := List.count_pos_iff.2 e
          omega
      · intro h j h1 h2
        refine (b4 j).2 (.inr (List.count_pos_iff.1 ?_))
        have := h.once j h1 h2
        omega

theorem kidsIn_some {i n : Int} : ∀ {l : List Int} {c s : List Nat}, 0 ≤ i → n = c.length → kidsIn i n c l = some s →
    (∀ k ∈ l, i < k ∧ k < n) ∧ s.length = c.length ∧ (∀ j : Nat, j < c.length → s.getD j 0 = c.getD j 0 + l.count (j : Int))
  | [], c, s, _, _, h => by
    simp only [kidsIn, Option.some.injEq] at h
    subst h
    simp
  | k :: r, c, s, h0, hn, h => by
    unfold kidsIn at h
    by_cases hb : k ≤ i ∨ n ≤ k
    · rw [if_pos hb] at h; cases h
    · rw [if_neg hb] at h
      obtain ⟨h1, h2, h3⟩ := kidsIn_some (l := r) h0 (by rw [List.length_set]; exact hn) h
      rw [List.length_set] at h2 h3
      refine ⟨fun x hx => ?_, h2, fun j hj => ?_⟩
      · rcases List.mem_cons.1 hx with rfl | hx
        · omega
        · exact h1 x hx
      · rw [h3 j hj]
        simp only [List.getD_eq_getElem?_getD, List.getElem?_set, List.count_cons]
        by_cases e : k.toNat = j
        · subst e
          have : (k == ((k.toNat : Nat) : Int)) = true := by simp; omega
          simp only [if_true, hj, this, Option.getD_some]
          omega
        · rw [if_neg e]
          have : (k == (j : Int)) = false := by simp; omega
          simp only [this, Bool.false_eq_true, if_false]
          omega
theorem kidsIn_none {i n : Int} : ∀ {l : List Int} {c : List Nat}, (∀ k ∈ l, i < k ∧ k < n) → ∃ s, kidsIn i n c l = some s
  | [], c, _ => ⟨c, rfl⟩
  | k :: r, c, h => by
    have := h k (by simp)
    unfold kidsIn
    rw [if_neg (by omega)]
    exact kidsIn_none (fun x hx => h x (by simp [hx]))

theorem nodesIn_some {n : Int} : ∀ {ns : List Nd} {i : Int} {c s : List Nat}, 0 ≤ i → n = c.length → nodesIn n i c ns = some s →
    (∀ x ∈ ns, nodeOk x = true) ∧ InR n i ns ∧ s.length = c.length ∧ (∀ j : Nat, j < c.length → s.getD j 0 = c.getD j 0 + (allKids ns).count (j : Int))
  | [], i, c, s, _, _, h => by
    simp only [nodesIn, Option.some.injEq] at h
    subst h
    simp [InR, allKids]
  | x :: r, i, c, s, h0, hn, h => by
    unfold nodesIn at h
    by_cases hx : nodeOk x = true ∧ (x.kids.length : Int) < n
    · rw [if_pos hx] at h
      cases hk : kidsIn i n c x.kids with
      | none => rw [hk] at h; cases h
      | some t =>
        rw [hk] at h
        obtain ⟨a1, a2, a3⟩ := kidsIn_some h0 hn hk
        obtain ⟨b1, b2, b3, b4⟩ := nodesIn_some (ns := r) (i := i + 1) (by omega) (by rw [a2]; exact hn) h
        refine ⟨fun y hy => ?_, ⟨a1, b2⟩, by omega, fun j hj => ?_⟩
        · rcases List.mem_cons.1 hy with rfl | hy
          · exact hx.1
          · exact b1 y hy
        · rw [b4 j (by omega), a3 j hj, show allKids (x :: r) = x.kids ++ allKids r from rfl, List.count_append]
          omega
    · rw [if_neg hx] at h; cases h
theorem nodesIn_none {n : Int} : ∀ {ns : List Nd} {i : Int} {c : List Nat}, (∀ x ∈ ns, nodeOk x = true ∧ (x.kids.length : Int) < n) → InR n i ns → ∃ s, nodesIn n i c ns = some s
  | [], i, c, _, _ => ⟨c, rfl⟩
  | x :: r, i, c, h1, h2 => by
    obtain ⟨t, ht⟩ := kidsIn_none (c := c) h2.1
    unfold nodesIn
    rw [if_pos (h1 x (by simp)), ht]
    exact nodesIn_none (fun y hy => h1 y (by simp [hy])) h2.2

theorem nodup_below : ∀ (n : Nat) (l : List Nat), l.Nodup → (∀ k ∈ l, k < n) → l.length ≤ n
  | 0, l, _, h => by
    match l, h with
    | [], _ => simp
    | k :: _, h => have := h k (by simp); omega
  | n + 1, l, hn, h => by
    by_cases hm : n ∈ l
    · have h1 := nodup_below n (l.erase n) (hn.erase n) (fun k hk => by
        have h2 := h k (List.mem_of_mem_erase hk)
        have h3 : k ≠ n := fun e => by subst e; exact (hn.not_mem_erase) hk
        omega)
      have h2 := List.length_erase_of_mem hm
      have h3 := List.length_pos_of_mem hm
      omega
    · have := nodup_below n l hn (fun k hk => by
        have h2 := h k hk
        have h3 : k ≠ n := fun e => by subst e; exact hm hk
        omega)
      omega
theorem nodup_range_length {l : List Int} {n : Int} (h : l.Nodup) (hr : ∀ k ∈ l, 0 < k ∧ k < n) : (l.length : Int) < n ∨ l = [] := by
  rcases Nat.eq_zero_or_pos l.length with h0 | h0
  · exact .inr (List.eq_nil_of_length_eq_zero h0)
  · left
    obtain ⟨k, hk⟩ := List.exists_mem_of_length_pos h0
    have hn := hr k hk
    have hnd : (l.map fun k => k.toNat - 1).Nodup := by
      refine List.pairwise_map.2 (h.imp_of_mem fun {a b} ha hb hne e => hne ?_)
      have := hr a ha; have := hr b hb
      omega
    have := nodup_below (n.toNat - 1) _ hnd (fun j hj => by
      obtain ⟨i, hi, rfl⟩ := List.mem_map.1 hj
      have := hr i hi
      omega)
    rw [List.length_map] at this
    omega

theorem treeR_iff (ns : List Nd) : treeR ns = true ↔ IsTree ns := by
  unfold treeR
  by_cases hl : ns.length < 1 ∨ 256 < ns.length
  · rw [if_pos hl]
    constructor
    · intro h; cases h
    · intro h; have := h.pos; have := h.max; omega
  · rw [if_neg hl]
    cases hs : nodesIn ns.length 0 (List.replicate ns.length 0) ns with
    | none =>
      simp only [Bool.false_eq_true, false_iff]
      intro h
      have hnd : (allKids ns).Nodup := by
        rw [List.nodup_iff_count]
        intro k
        by_cases hk : k ∈ allKids ns
        · have h1 := inr_mem h.inr hk
          have := h.once k.toNat (by omega) (by omega)
          rw [show ((k.toNat : Nat) : Int) = k by omega] at this
          omega
        · rw [List.count_eq_zero_of_not_mem hk]; omega
      have hlen : ∀ x ∈ ns, nodeOk x = true ∧ (x.kids.length : Int) < ns.length := by
        intro x hx
        refine ⟨h.ok x hx, ?_⟩
        have hsl : x.kids.Sublist (allKids ns) := by unfold allKids; rw [List.flatMap_def]; exact List.sublist_flatten_of_mem (List.mem_map.2 ⟨x, hx, rfl⟩)
        rcases nodup_range_length (hsl.nodup hnd) (n := ns.length) (fun k hk => by
          have := inr_mem h.inr (hsl.mem hk); omega) with h1 | h1
        · exact h1
        · rw [h1]; have := h.pos; simp; omega
      obtain ⟨s, e⟩ := nodesIn_none (n := ns.length) (i := 0) (c := List.replicate ns.length 0) hlen h.inr
      rw [hs] at e
      cases e
    | some s =>
      obtain ⟨b1, b2, b3, b4⟩ := nodesIn_some (by omega) (by simp) hs
      rw [List.length_replicate] at b3 b4
      have key : (s.tail.all (· == 1)) = true ↔ ∀ j : Nat, 1 ≤ j → j < ns.length → s.getD j 0 = 1 := by
        rw [List.all_eq_true]
        constructor
        · intro h j h1 h2
          have hj : j < s.length := by omega
          have hm : s[j] ∈ s.tail := by
            rw [List.mem_iff_getElem?]
            exact ⟨j - 1, by rw [List.getElem?_tail, show j - 1 + 1 = j by omega, List.getElem?_eq_getElem hj]⟩
          have := h _ hm
          rw [List.getD_eq_getElem?_getD, List.getElem?_eq_getElem hj]
          simpa using this
        · intro h x hx
          obtain ⟨i, hi⟩ := List.mem_iff_getElem?.1 hx
          rw [List.getElem?_tail] at hi
          have hlt : i + 1 < s.length := (List.getElem?_eq_some_iff.1 hi).1
          have := h (i + 1) (by omega) (by omega)
          rw [List.getD_eq_getElem?_getD, hi] at this
          simpa using this
      show (s.tail.all (· == 1)) = true ↔ _
      rw [key]
      have hz : ∀ j : Nat, (List.replicate ns.length 0).getD j 0 = 0 := by
        intro j
        rw [List.getD_eq_getElem?_getD, List.getElem?_replicate]
        split <;> rfl
      constructor
      · intro h
        refine ⟨by omega, by omega, b1, b2, fun j h1 h2 => ?_⟩
        have e := b4 j h2
        rw [h j h1 h2, hz] at e
        omega
      · intro h j h1 h2
        rw [b4 j h2, hz, h.once j h1 h2]
theorem tree_eq (ns : List Nd) : treeB ns = treeR ns := by
  rw [Bool.eq_iff_iff, treeB_iff, treeR_iff]
end Go.Proofs.YtimhlnndobfehaaDoor
namespace Go.Proofs.YtimhlnndobfehaaDoor
open Go.RowKit
set_option linter.unusedVariables false

/-- Has a letter a class? -/
def likeL (x : Lt) (p m : Nat) : Bool := decide (x.plus &&& p = p) && decide (x.minus &&& m = m)
theorem bits_andNot {x y : Nat} (hx : x < 4294967296) (hy : y < 4294967296) : ∃ q : Nat, bits .andNot .u32 (x : Int) (y : Int) = (q : Int) ∧ (((q : Int) == 0) = decide (y &&& x = x)) ∧ q < 4294967296 := by
  have hlt := (BitVec.ofNat 32 x &&& ~~~ BitVec.ofNat 32 y).isLt
  refine ⟨(BitVec.ofNat 32 x &&& ~~~ BitVec.ofNat 32 y).toNat, ?_, ?_, hlt⟩
  · show IntKind.u32.wrap ((BitVec.ofInt 32 (x : Int) &&& ~~~ BitVec.ofInt 32 (y : Int)).toNat : Int) = _
    rw [BitVec.ofInt_natCast, BitVec.ofInt_natCast]
    exact IntWalk.u32_in _ (by omega)
  · rw [Bool.eq_iff_iff, beq_iff_eq, decide_eq_true_eq]
    have key : (BitVec.ofNat 32 x &&& ~~~ BitVec.ofNat 32 y) = 0#32 ↔ BitVec.ofNat 32 y &&& BitVec.ofNat 32 x = BitVec.ofNat 32 x := by
      generalize BitVec.ofNat 32 x = a
      generalize BitVec.ofNat 32 y = b
      constructor
      · intro h
        apply BitVec.eq_of_getLsbD_eq
        intro i hi
        have := congrArg (fun v => v.getLsbD i) h
        simp [hi] at this ⊢
        cases h1 : a.getLsbD i <;> cases h2 : b.getLsbD i <;> simp_all
      · intro h
        apply BitVec.eq_of_getLsbD_eq
        intro i hi
        have := congrArg (fun v => v.getLsbD i) h
        simp [hi] at this ⊢
        cases h1 : a.getLsbD i <;> cases h2 : b.getLsbD i <;> simp_all
    have e1 : (BitVec.ofNat 32 x &&& ~~~ BitVec.ofNat 32 y) = 0#32 ↔ (((BitVec.ofNat 32 x &&& ~~~ BitVec.ofNat 32 y).toNat : Nat) : Int) = 0 := by
      rw [← BitVec.toNat_inj]
      simp only [BitVec.toNat_ofNat, Nat.zero_mod]
      omega
    have e2 : BitVec.ofNat 32 y &&& BitVec.ofNat 32 x = BitVec.ofNat 32 x ↔ y &&& x = x := by
      rw [← BitVec.toNat_inj, BitVec.toNat_and, BitVec.toNat_ofNat, BitVec.toNat_ofNat, Nat.mod_eq_of_lt hx, Nat.mod_eq_of_lt hy]
    rw [← e1, key, e2]
theorem bits_has {x y : Nat} (hx : x < 4294967296) (hy : y < 4294967296) : ∃ q : Nat, bits .and .u32 (y : Int) (x : Int) = (q : Int) ∧ (((q : Int) == (x : Int)) = decide (y &&& x = x)) ∧ q < 4294967296 := by
  refine ⟨y &&& x, bits_and hy hx, ?_, Nat.and_lt_two_pow (n := 32) y hx⟩
  rw [Bool.eq_iff_iff, beq_iff_eq, decide_eq_true_eq]
  omega
def LtOk (x : Lt) : Prop := (-2147483648 ≤ x.rune ∧ x.rune ≤ 2147483647) ∧ x.plus < 4294967296 ∧ x.minus < 4294967296
def ltV (x : Lt) : Value := .agg #[.int .i32 x.rune, .int .u32 (x.plus : Int), .int .u32 (x.minus : Int)]

end Go.Proofs.YtimhlnndobfehaaDoor
