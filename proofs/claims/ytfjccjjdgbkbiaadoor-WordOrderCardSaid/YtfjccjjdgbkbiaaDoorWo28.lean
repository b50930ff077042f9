/- word.Common. The letters of a list of words: plain law, and rows of rows in memory. -/
import Derived.Test.YtfjccjjdgbkbiaaDoorWo21
namespace Go.Proofs.YtfjccjjdgbkbiaaDoor
open Go.RowKit
open Go.Lib (Utf8Tabs)
set_option linter.unusedVariables false

def commonN : List Int → List Int → Nat
  | x :: l, y :: k => if x = y then commonN l k + 1 else 0
  | _, _ => 0
theorem commonN_nil (l : List Int) : commonN l [] = 0 := by cases l <;> rfl
theorem commonN_le : ∀ l k : List Int, commonN l k ≤ l.length ∧ commonN l k ≤ k.length
  | [], k => ⟨Nat.zero_le _, Nat.zero_le _⟩
  | x :: l, [] => ⟨Nat.zero_le _, Nat.zero_le _⟩
  | x :: l, y :: k => by
    have := commonN_le l k
    unfold commonN
    split
    · simp only [List.length_cons]; omega
    · exact ⟨Nat.zero_le _, Nat.zero_le _⟩
theorem commonN_take : ∀ l k : List Int, l.take (commonN l k) = k.take (commonN l k)
  | [], k => by simp [commonN]
  | x :: l, [] => by simp [commonN]
  | x :: l, y :: k => by
    unfold commonN
    split
    · rename_i h
      rw [List.take_succ_cons, List.take_succ_cons, commonN_take l k, h]
    · rfl
theorem commonN_stop : ∀ (l k : List Int) (h1 : commonN l k < l.length) (h2 : commonN l k < k.length), l[commonN l k] ≠ k[commonN l k]
  | [], k, h1, _ => by simp at h1
  | x :: l, [], _, h2 => by simp at h2
  | x :: l, y :: k, h1, h2 => by
    by_cases h : x = y
    · have e : commonN (x :: l) (y :: k) = commonN l k + 1 := by rw [commonN, if_pos h]
      simp only [e] at h1 h2 ⊢
      simp only [List.getElem_cons_succ]
      exact commonN_stop l k (by simpa using h1) (by simpa using h2)
    · have e : commonN (x :: l) (y :: k) = 0 := by rw [commonN, if_neg h]
      simp only [e]
      exact h
theorem commonN_step {l k : List Int} {n : Nat} (h1 : n < l.length) (h2 : n < k.length) : commonN (l.drop n) (k.drop n) = if l[n] = k[n] then commonN (l.drop (n + 1)) (k.drop (n + 1)) + 1 else 0 := by
  rw [List.drop_eq_getElem_cons h1, List.drop_eq_getElem_cons h2, commonN]
theorem commonN_end {l k : List Int} {n : Nat} (h : l.length ≤ n ∨ k.length ≤ n) : commonN (l.drop n) (k.drop n) = 0 := by
  rcases h with h | h
  · rw [List.drop_eq_nil_of_le h]; rfl
  · rw [List.drop_eq_nil_of_le h, commonN_nil]
/-- How many letters two words begin with alike, and the error. -/
def commonS (a : Al) (x y : ByteArray) : Nat × Int := if (bothS a x y).2.2 ≠ 0 then (0, (bothS a x y).2.2) else (commonN (bothS a x y).1 (bothS a x y).2.1, 0)
theorem both_facts (a : Al) (x y : ByteArray) : (bothS a x y).1.length ≤ 64 ∧ (bothS a x y).2.1.length ≤ 64 ∧ (bothS a x y).2.2 ≤ 7 ∧ 0 ≤ (bothS a x y).2.2 := by
  have h1 := letters_len a x
  have h2 := letters_len a y
  have h3 := letters_err a x
  have h4 := letters_err a y
  unfold bothS
  split
  · exact ⟨by simp, by simp, by simp only; omega, by simp only; omega⟩
  · split
    · exact ⟨by simp, by simp, by simp only; omega, by simp only; omega⟩
    · exact ⟨h1, h2, by simp, by simp⟩

set_option maxHeartbeats 4000000 in
theorem common_any (A1 A2 : Option Addr) (c1 c2 lo : Nat) (a : Al) (x y : ByteArray) (w : World) (hin : AlIn w lo w.heap.size A1 A2 a) (hT : Utf8Tabs 0 1 w) (hx : x.size ≤ maxLen) (hy : y.size ≤ maxLen) :
    Calls Tryd.prog 27 #[.agg #[.slice A1 a.feats.length c1, .slice A2 a.lets.length c2], .string x, .string y] w fun e w' => e = .returned (.tuple #[.int .i64 ((commonS a x y).1 : Int), .int .i64 (commonS a x y).2]) ∧ Below w.heap.size w w' := by
  have hal : Below w.heap.size w (w.alloc (.cells #[.slice A1 a.feats.length c1, .slice A2 a.lets.length c2] 25)) := (Below.refl _ _).alloc (Nat.le_refl _) _
  have hcall := Lib.hid (both_any A1 A2 c1 c2 lo a x y _ (hin.on hal) (Utf8Tabs_below hT hal) hx hy)
  have HL : Hid (commonS a x y = if (bothS a x y).2.2 ≠ 0 then (0, (bothS a x y).2.2) else (commonN (bothS a x y).1 (bothS a x y).2.1, 0)) := rfl
  have hbf := both_facts a x y
  generalize bothS a x y = R at *
  generalize commonS a x y = C at *
  obtain ⟨l, k, E⟩ := R
  simp only at hbf HL
  go_enter Tryd.func27, Tryd.ntmps27
  go_wp2_with fail
  refine hcall.out.mono ?_
  rintro e w1 ⟨mv, A, c, B, d, rfl, hA, hB, _, hb1⟩
  have hbw := hal.trans (hb1.mono (by simp))
  clear hcall hal hb1
  simp only at hA hB
  by_cases hE : E = 0
  · subst hE
    have HF : Hid (C = (commonN l k, 0)) := by show _ = _; rw [HL.out]; simp
    clear HL
    simp only
    go_wp2_with fail
    go_loopw [12] (fun i wr => ∃ n : Nat, n ≤ l.length ∧ n ≤ k.length ∧ i = .int .i64 (n : Int) ∧ Hid (commonN l k = n + commonN (l.drop n) (k.drop n)) ∧ Below w1.heap.size w1 wr) (fun i _ => l.length - (intOf i).toNat)
    case atStart => exact ⟨0, by omega, by omega, rfl, (by show _ = _; rw [List.drop_zero, List.drop_zero, Nat.zero_add]), Below.refl _ _⟩
    case round =>
      obtain ⟨n, hn1, hn2, rfl, hc, hb⟩ := hrel
      have HD := Lib.hid (below_drewN hb 1 : Below w1.heap.size w1 wr.drew)
      by_cases hlt : n < l.length ∧ n < k.length
      · obtain ⟨hl1, hl2⟩ := hlt
        obtain ⟨g, rfl, _, hg, ⟨x0, y0⟩⟩ := own_rune (own_below hA hb) hl1
        obtain ⟨g', rfl, _, hg', ⟨x1, y1⟩⟩ := own_rune (own_below hB hb) hl2
        have hst := commonN_step hl1 hl2
        generalize l[n] = u at *
        generalize k[n] = v at *
        have HS := Lib.hid hst
        clear hst
        have j0 : (n : Int) < min (l.length : Int) (k.length : Int) := by omega
        have j1 : 0 ≤ (n : Int) := by omega
        have j2 : (n : Int) < (l.length : Int) := by omega
        have j3 : (n : Int) < (k.length : Int) := by omega
        have hd : decide ((n : Int) < min (l.length : Int) (k.length : Int)) = true := decide_eq_true j0
        clear hA hB hb
        by_cases he : u = v
        · subst he
          have HN : Hid (commonN l k = (n + 1) + commonN (l.drop (n + 1)) (k.drop (n + 1))) := by show _ = _; rw [hc.out, HS.out, if_pos rfl]; omega
          have he : (u == u) = true := by simp
          clear HS hc
          go_wp2_with fail
          go_region
          all_goals go_wp2_with fail
          exact ⟨⟨n + 1, by omega, by omega, by go_num, HN, HD.out⟩, by simp [intOf]; omega⟩
        · have HN : Hid (C = (n, 0)) := by show _ = _; rw [HF.out, hc.out, HS.out, if_neg he]; rfl
          have he' : (u == v) = false := by simpa using he
          have HBB := Lib.hid (hbw.trans (HD.out.mono hbw.size))
          clear HS hc he
          go_wp2_with fail
          go_region
          all_goals go_wp2_with fail
          go_ret2
          exact ⟨by rw [HN.out]; rfl, HBB.out⟩
      · have hce := commonN_end (l := l) (k := k) (n := n) (by omega)
        have HN : Hid (C = (n, 0)) := by show _ = _; rw [HF.out, hc.out, hce]; rfl
        have j0 : ¬ (n : Int) < min (l.length : Int) (k.length : Int) := by omega
        have hd : decide ((n : Int) < min (l.length : Int) (k.length : Int)) = false := decide_eq_false j0
        have HBB := Lib.hid (hbw.trans (HD.out.mono hbw.size))
        clear hA hB hb hce hc
        go_wp2_with fail
        go_region
        all_goals go_wp2_with fail
        go_ret2
        exact ⟨by rw [HN.out]; rfl, HBB.out⟩
  · have HF : Hid (C = (0, E)) := by show _ = _; rw [HL.out, if_pos hE]
    have hne : (E != 0) = true := by rw [bne_iff_ne]; exact hE
    have HBB := Lib.hid hbw
    clear hA hB hbw HL hE
    simp only
    go_wp2_with fail
    go_ret2
    exact ⟨by rw [HF.out]; rfl, HBB.out⟩
end Go.Proofs.YtfjccjjdgbkbiaaDoor
namespace Go.Proofs.YtfjccjjdgbkbiaaDoor
open Go.RowKit
set_option linter.unusedVariables false

def allF (a : Al) : List ByteArray → List (List Int) × Int
  | [] => ([], 0)
  | s :: r => if (lettersS a s).2 ≠ 0 then ([], (lettersS a s).2) else if (allF a r).2 ≠ 0 then ([], (allF a r).2) else ((lettersS a s).1 :: (allF a r).1, 0)
/-- The letters of a list of words, and the error. -/
def allS (a : Al) (l : List ByteArray) : List (List Int) × Int := if alOk a = false then ([], 7) else if 4096 < l.length then ([], 4) else allF a l
/-- So far all words are words. -/
def AllTo (a : Al) (l : List ByteArray) (k : Nat) : Prop := ∀ i (h : i < l.length), i < k → (lettersS a l[i]).2 = 0
theorem allF_ok (a : Al) : ∀ l : List ByteArray, (∀ s ∈ l, (lettersS a s).2 = 0) → allF a l = (l.map fun s => (lettersS a s).1, 0)
  | [], _ => rfl
  | s :: r, h => by
    have h1 := h s (List.mem_cons_self ..)
    have h2 := allF_ok a r fun x hx => h x (List.mem_cons_of_mem _ hx)
    unfold allF
    rw [h1, h2]
    simp
theorem allF_bad (a : Al) : ∀ (l : List ByteArray) (k : Nat) (hk : k < l.length), AllTo a l k → (lettersS a l[k]).2 ≠ 0 → allF a l = ([], (lettersS a l[k]).2)
  | [], k, hk, _, _ => by simp at hk
  | s :: r, 0, hk, _, h => by
    have h : (lettersS a s).2 ≠ 0 := h
    unfold allF
    rw [if_pos h]
    rfl
  | s :: r, k + 1, hk, ht, h => by
    have h1 : (lettersS a s).2 = 0 := ht 0 (by simp) (by omega)
    have h2 := allF_bad a r k (by simpa using hk) (fun i hi hik => by
      have := ht (i + 1) (by simpa using hi) (by omega)
      simpa using this) (by simpa using h)
    unfold allF
    simp only [List.getElem_cons_succ] at h ⊢
    rw [h1, h2, if_neg (by simp), if_pos h]
/-- Rows of letters, by their slices. -/
def RowsAt (w : World) (base : Nat) (vs : List Value) (ls : List (List Int)) : Prop :=
  vs.length = ls.length ∧ ∀ (i : Nat) (h : i < ls.length), ∃ A c, vs[i]? = some (.slice A ls[i].length c) ∧ w.ownsRow base 21 1 (.slice A ls[i].length c) ls[i].length (runeVs ls[i])
theorem RowsAt.same {w w' : World} {base : Nat} {vs : List Value} {ls : List (List Int)} (h : RowsAt w base vs ls) (hb : ∀ (i : Nat) (v : Value) (g : Nat), vs[i]? = some v → v.ownBlock = some g → w'.heap[g]? = w.heap[g]?) : RowsAt w' base vs ls := by
  refine ⟨h.1, fun i hi => ?_⟩
  obtain ⟨A, c, e, ho⟩ := h.2 i hi
  exact ⟨A, c, e, own_same ho fun g hg => hb i _ g e hg⟩
theorem RowsAt.below {w w' : World} {base : Nat} {vs : List Value} {ls : List (List Int)} (h : RowsAt w base vs ls) (hb : Below w.heap.size w w') : RowsAt w' base vs ls := by
  refine ⟨h.1, fun i hi => ?_⟩
  obtain ⟨A, c, e, ho⟩ := h.2 i hi
  exact ⟨A, c, e, own_below ho hb⟩
theorem RowsAt.nil (w : World) (base : Nat) : RowsAt w base [] [] := ⟨rfl, fun i h => by simp at h⟩
theorem RowsAt.snoc {w : World} {base c : Nat} {vs : List Value} {ls : List (List Int)} {A : Option Addr} {l : List Int} (h : RowsAt w base vs ls) (ho : w.ownsRow base 21 1 (.slice A l.length c) l.length (runeVs l)) : RowsAt w base (vs ++ [.slice A l.length c]) (ls ++ [l]) := by
  refine ⟨by simp [h.1], fun i hi => ?_⟩
  by_cases hlt : i < ls.length
  · obtain ⟨B, d, e, hr⟩ := h.2 i hlt
    refine ⟨B, d, ?_, ?_⟩
    · rw [List.getElem?_append_left (by rw [h.1]; exact hlt), List.getElem_append_left hlt]
      exact e
    · rw [List.getElem_append_left hlt]
      exact hr
  · have hi' : i = ls.length := by simp at hi; omega
    subst hi'
    refine ⟨A, c, ?_, ?_⟩
    · rw [List.getElem?_append_right (by rw [h.1]; exact Nat.le_refl _), h.1]
      simp
    · simpa using ho
theorem RowsAt.low {w : World} {lo base : Nat} {vs : List Value} {ls : List (List Int)} (h : RowsAt w base vs ls) (hl : lo ≤ base) : RowsAt w lo vs ls := by
  refine ⟨h.1, fun i hi => ?_⟩
  obtain ⟨A, c, e, ho⟩ := h.2 i hi
  exact ⟨A, c, e, own_low ho hl⟩
end Go.Proofs.YtfjccjjdgbkbiaaDoor
