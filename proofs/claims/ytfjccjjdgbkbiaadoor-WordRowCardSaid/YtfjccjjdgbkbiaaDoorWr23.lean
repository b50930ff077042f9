/- word.Common. The letters of a list of words: plain law, and rows of rows in memory. word.all: the letters of a list of words. -/
import Derived.Test.YtfjccjjdgbkbiaaDoorWr22
import Derived.Test.YtfjccjjdgbkbiaaDoorWr18
namespace Go.Proofs.YtfjccjjdgbkbiaaDoor
open Go.RowKit
open Go.Lib (Utf8Tabs)
set_option linter.unusedVariables false

def commonN : List Int → List Int → Nat
  | x :: l, y :: k => if x = y then commonN l k + 1 else 0
  | _, _ => 0
theorem commonN_nil (l : List Int) : commonN l [] = 0 := by cases l <;> rfl
theorem commonN_le : ∀ l k : List Int, commonN l k ≤ l.length ∧ commonN l k ≤ k.length
  | [], k => ⟨Nat.zero_le _, Nat.zero_le _⟩
  | x :: l, [] => ⟨Nat.zero_le _, Nat.zero_le _⟩
  | x :: l, y :: k => by
    have := commonN_le l k
    unfold commonN
    split
    · simp only [List.length_cons]; omega
    · exact ⟨Nat.zero_le _, Nat.zero_le _⟩
theorem commonN_take : ∀ l k : List Int, l.take (commonN l k) = k.take (commonN l k)
  | [], k => by simp [commonN]
  | x :: l, [] => by simp [commonN]
  | x :: l, y :: k => by
    unfold commonN
    split
    · rename_i h
      rw [List.take_succ_cons, List.take_succ_cons, commonN_take l k, h]
    · rfl
theorem commonN_stop : ∀ (l k : List Int) (h1 : commonN l k < l.length) (h2 : commonN l k < k.length), l[commonN l k] ≠ k[commonN l k]
  | [], k, h1, _ => by simp at h1
  | x :: l, [], _, h2 => by simp at h2
  | x :: l, y :: k, h1, h2 => by
    by_cases h : x = y
    · have e : commonN (x :: l) (y :: k) = commonN l k + 1 := by rw [commonN, if_pos h]
      simp only [e] at h1 h2 ⊢
      simp only [List.getElem_cons_succ]
      exact commonN_stop l k (by simpa using h1) (by simpa using h2)
    · have e : commonN (x :: l) (y :: k) = 0 := by rw [commonN, if_neg h]
      simp only [e]
      exact h
theorem commonN_step {l k : List Int} {n : Nat} (h1 : n < l.length) (h2 : n < k.length) : commonN (l.drop n) (k.drop n) = if l[n] = k[n] then commonN (l.drop (n + 1)) (k.drop (n + 1)) + 1 else 0 := by
  rw [List.drop_eq_getElem_cons h1, List.drop_eq_getElem_cons h2, commonN]
theorem commonN_end {l k : List Int} {n : Nat} (h : l.length ≤ n ∨ k.length ≤ n) : commonN (l.drop n) (k.drop n) = 0 := by
  rcases h with h | h
  · rw [List.drop_eq_nil_of_le h]; rfl
  · rw [List.drop_eq_nil_of_le h, commonN_nil]
/-- How many letters two words begin with alike, and the error. -/
def commonS (a : Al) (x y : ByteArray) : Nat × Int := if (bothS a x y).2.2 ≠ 0 then (0, (bothS a x y).2.2) else (commonN (bothS a x y).1 (bothS a x y).2.1, 0)
theorem both_facts (a : Al) (x y : ByteArray) : (bothS a x y).1.length ≤ 64 ∧ (bothS a x y).2.1.length ≤ 64 ∧ (bothS a x y).2.2 ≤ 7 ∧ 0 ≤ (bothS a x y).2.2 := by
  have h1 := letters_len a x
  have h2 := letters_len a y
  have h3 := letters_err a x
  have h4 := letters_err a y
  unfold bothS
  split
  · exact ⟨by simp, by simp, by simp only; omega, by simp only; omega⟩
  · split
    · exact ⟨by simp, by simp, by simp only; omega, by simp only; omega⟩
    · exact ⟨h1, h2, by simp, by simp⟩

set_option maxHeartbeats 4000000 in
theorem common_any (A1 A2 : Option Addr) (c1 c2 lo : Nat) (a : Al) (x y : ByteArray) (w : World) (hin : AlIn w lo w.heap.size A1 A2 a) (hT : Utf8Tabs 0 1 w) (hx : x.size ≤ maxLen) (hy : y.size ≤ maxLen) :
    Calls Tryd.prog 27 #[.agg #[.slice A1 a.feats.length c1, .slice A2 a.lets.length c2], .string x, .string y] w fun e w' => e = .returned (.tuple #[.int .i64 ((commonS a x y).1 : Int), .int .i64 (commonS a x y).2]) ∧ Below w.heap.size w w' := by
  have hal : Below w.heap.size w (w.alloc (.cells #[.slice A1 a.feats.length c1, .slice A2 a.lets.length c2] 25)) := (Below.refl _ _).alloc (Nat.le_refl _) _
  have hcall := Lib.hid (both_any A1 A2 c1 c2 lo a x y _ (hin.on hal) (Utf8Tabs_below hT hal) hx hy)
  have HL : Hid (commonS a x y = if (bothS a x y).2.2 ≠ 0 then (0, (bothS a x y).2.2) else (commonN (bothS a x y).1 (bothS a x y).2.1, 0)) := rfl
  have hbf := both_facts a x y
  generalize bothS a x y = R at *
  generalize commonS a x y = C at *
  obtain ⟨l, k, E⟩ := R
  simp only at hbf HL
  go_enter Tryd.func27, Tryd.ntmps27
  go_wp2_with fail
  refine hcall.out.mono ?_
  rintro e w1 ⟨mv, A, c, B, d, rfl, hA, hB, _, hb1⟩
  have hbw := hal.trans (hb1.mono (by simp))
  clear hcall hal hb1
  simp only at hA hB
  by_cases hE : E = 0
  · subst hE
    have HF : Hid (C = (commonN l k, 0)) := by show _ = _; rw [HL.out]; simp
    clear HL
    simp only
    go_wp2_with fail
    go_loopw [12] (fun i wr => ∃ n : Nat, n ≤ l.length ∧ n ≤ k.length ∧ i = .int .i64 (n : Int) ∧ Hid (commonN l k = n + commonN (l.drop n) (k.drop n)) ∧ Below w1.heap.size w1 wr) (fun i _ => l.length - (intOf i).toNat)
    case atStart => exact ⟨0, by omega, by omega, rfl, (by show _ = _; rw [List.drop_zero, List.drop_zero, Nat.zero_add]), Below.refl _ _⟩
    case round =>
      obtain ⟨n, hn1, hn2, rfl, hc, hb⟩ := hrel
      have HD := Lib.hid (below_drewN hb 1 : Below w1.heap.size w1 wr.drew)
      by_cases hlt : n < l.length ∧ n < k.length
      · obtain ⟨hl1, hl2⟩ := hlt
        obtain ⟨g, rfl, _, hg, ⟨x0, y0⟩⟩ := own_rune (own_below hA hb) hl1
        obtain ⟨g', rfl, _, hg', ⟨x1, y1⟩⟩ := own_rune (own_below hB hb) hl2
        have hst := commonN_step hl1 hl2
        generalize l[n] = u at *
        generalize k[n] = v at *
        have HS := Lib.hid hst
        clear hst
        have j0 : (n : Int) < min (l.length : Int) (k.length : Int) := by omega
        have j1 : 0 ≤ (n : Int) := by omega
        have j2 : (n : Int) < (l.length : Int) := by omega
        have j3 : (n : Int) < (k.length : Int) := by omega
        have hd : decide ((n : Int) < min (l.length : Int) (k.length : Int)) = true := decide_eq_true j0
        clear hA hB hb
        by_cases he : u = v
        · subst he
          have HN : Hid (commonN l k = (n + 1) + commonN (l.drop (n + 1)) (k.drop (n + 1))) := by show _ = _; rw [hc.out, HS.out, if_pos rfl]; omega
          have he : (u == u) = true := by simp
          clear HS hc
          go_wp2_with fail
          go_region
          all_goals go_wp2_with fail
          exact ⟨⟨n + 1, by omega, by omega, by go_num, HN, HD.out⟩, by simp [intOf]; omega⟩
        · have HN : Hid (C = (n, 0)) := by show _ = _; rw [HF.out, hc.out, HS.out, if_neg he]; rfl
          have he' : (u == v) = false := by simpa using he
          have HBB := Lib.hid (hbw.trans (HD.out.mono hbw.size))
          clear HS hc he
          go_wp2_with fail
          go_region
          all_goals go_wp2_with fail
          go_ret2
          exact ⟨by rw [HN.out]; rfl, HBB.out⟩
      · have hce := commonN_end (l := l) (k := k) (n := n) (by omega)
        have HN : Hid (C = (n, 0)) := by show _ = _; rw [HF.out, hc.out, hce]; rfl
        have j0 : ¬ (n : Int) < min (l.length : Int) (k.length : Int) := by omega
        have hd : decide ((n : Int) < min (l.length : Int) (k.length : Int)) = false := decide_eq_false j0
        have HBB := Lib.hid (hbw.trans (HD.out.mono hbw.size))
        clear hA hB hb hce hc
        go_wp2_with fail
        go_region
        all_goals go_wp2_with fail
        go_ret2
        exact ⟨by rw [HN.out]; rfl, HBB.out⟩
  · have HF : Hid (C = (0, E)) := by show _ = _; rw [HL.out, if_pos hE]
    have hne : (E != 0) = true := by rw [bne_iff_ne]; exact hE
    have HBB := Lib.hid hbw
    clear hA hB hbw HL hE
    simp only
    go_wp2_with fail
    go_ret2
    exact ⟨by rw [HF.out]; rfl, HBB.out⟩
end Go.Proofs.YtfjccjjdgbkbiaaDoor
namespace Go.Proofs.YtfjccjjdgbkbiaaDoor
open Go.RowKit
set_option linter.unusedVariables false

def allF (a : Al) : List ByteArray → List (List Int) × Int
  | [] => ([], 0)
  | s :: r => if (lettersS a s).2 ≠ 0 then ([], (lettersS a s).2) else if (allF a r).2 ≠ 0 then ([], (allF a r).2) else ((lettersS a s).1 :: (allF a r).1, 0)
/-- The letters of a list of words, and the error. -/
def allS (a : Al) (l : List ByteArray) : List (List Int) × Int := if alOk a = false then ([], 7) else if 4096 < l.length then ([], 4) else allF a l
/-- So far all words are words. -/
def AllTo (a : Al) (l : List ByteArray) (k : Nat) : Prop := ∀ i (h : i < l.length), i < k → (lettersS a l[i]).2 = 0
theorem allF_ok (a : Al) : ∀ l : List ByteArray, (∀ s ∈ l, (lettersS a s).2 = 0) → allF a l = (l.map fun s => (lettersS a s).1, 0)
  | [], _ => rfl
  | s :: r, h => by
    have h1 := h s (List.mem_cons_self ..)
    have h2 := allF_ok a r fun x hx => h x (List.mem_cons_of_mem _ hx)
    unfold allF
    rw [h1, h2]
    simp
theorem allF_bad (a : Al) : ∀ (l : List ByteArray) (k : Nat) (hk : k < l.length), AllTo a l k → (lettersS a l[k]).2 ≠ 0 → allF a l = ([], (lettersS a l[k]).2)
  | [], k, hk, _, _ => by simp at hk
  | s :: r, 0, hk, _, h => by
    have h : (lettersS a s).2 ≠ 0 := h
    unfold allF
    rw [if_pos h]
    rfl
  | s :: r, k + 1, hk, ht, h => by
    have h1 : (lettersS a s).2 = 0 := ht 0 (by simp) (by omega)
    have h2 := allF_bad a r k (by simpa using hk) (fun i hi hik => by
      have := ht (i + 1) (by simpa using hi) (by omega)
      simpa using this) (by simpa using h)
    unfold allF
    simp only [List.getElem_cons_succ] at h ⊢
    rw [h1, h2, if_neg (by simp), if_pos h]
/-- Rows of letters, by their slices. -/
def RowsAt (w : World) (base : Nat) (vs : List Value) (ls : List (List Int)) : Prop :=
  vs.length = ls.length ∧ ∀ (i : Nat) (h : i < ls.length), ∃ A c, vs[i]? = some (.slice A ls[i].length c) ∧ w.ownsRow base 21 1 (.slice A ls[i].length c) ls[i].length (runeVs ls[i])
theorem RowsAt.same {w w' : World} {base : Nat} {vs : List Value} {ls : List (List Int)} (h : RowsAt w base vs ls) (hb : ∀ (i : Nat) (v : Value) (g : Nat), vs[i]? = some v → v.ownBlock = some g → w'.heap[g]? = w.heap[g]?) : RowsAt w' base vs ls := by
  refine ⟨h.1, fun i hi => ?_⟩
  obtain ⟨A, c, e, ho⟩ := h.2 i hi
  exact ⟨A, c, e, own_same ho fun g hg => hb i _ g e hg⟩
theorem RowsAt.below {w w' : World} {base : Nat} {vs : List Value} {ls : List (List Int)} (h : RowsAt w base vs ls) (hb : Below w.heap.size w w') : RowsAt w' base vs ls := by
  refine ⟨h.1, fun i hi => ?_⟩
  obtain ⟨A, c, e, ho⟩ := h.2 i hi
  exact ⟨A, c, e, own_below ho hb⟩
theorem RowsAt.nil (w : World) (base : Nat) : RowsAt w base [] [] := ⟨rfl, fun i h => by simp at h⟩
theorem RowsAt.snoc {w : World} {base c : Nat} {vs : List Value} {ls : List (List Int)} {A : Option Addr} {l : List Int} (h : RowsAt w base vs ls) (ho : w.ownsRow base 21 1 (.slice A l.length c) l.length (runeVs l)) : RowsAt w base (vs ++ [.slice A l.length c]) (ls ++ [l]) := by
  refine ⟨by simp [h.1], fun i hi => ?_⟩
  by_cases hlt : i < ls.length
  · obtain ⟨B, d, e, hr⟩ := h.2 i hlt
    refine ⟨B, d, ?_, ?_⟩
    · rw [List.getElem?_append_left (by rw [h.1]; exact hlt), List.getElem_append_left hlt]
      exact e
    · rw [List.getElem_append_left hlt]
      exact hr
  · have hi' : i = ls.length := by simp at hi; omega
    subst hi'
    refine ⟨A, c, ?_, ?_⟩
    · rw [List.getElem?_append_right (by rw [h.1]; exact Nat.le_refl _), h.1]
      simp
    · simpa using ho
theorem RowsAt.low {w : World} {lo base : Nat} {vs : List Value} {ls : List (List Int)} (h : RowsAt w base vs ls) (hl : lo ≤ base) : RowsAt w lo vs ls := by
  refine ⟨h.1, fun i hi => ?_⟩
  obtain ⟨A, c, e, ho⟩ := h.2 i hi
  exact ⟨A, c, e, own_low ho hl⟩
end Go.Proofs.YtfjccjjdgbkbiaaDoor
namespace Go.Proofs.YtfjccjjdgbkbiaaDoor
open Go.RowKit
open Go.Lib (Utf8Tabs)
set_option linter.unusedVariables false

theorem runes_info : (Tryd.prog.info? 26).map (fun i => (i.zero, i.size, i.bytes)) = some (some (.slice none 0 0), 1, 24) := by kernel_rfl
def AllOut (a : Al) (r : List (List Int) × Int) (W : World) (e : Ending) (w' : World) : Prop :=
  ∃ mv v vs, e = .returned (.tuple #[.map mv, v, .int .i64 r.2]) ∧ w'.ownsRow W.heap.size 26 1 v r.1.length vs ∧ RowsAt w' W.heap.size vs r.1 ∧
    (r.2 = 0 → (∃ bm n, mv = some bm ∧ W.heap.size ≤ bm ∧ MapI Tryd.prog 21 3 .i64 w' bm n (rankF a.lets a.lets.length)) ∧ ∃ g c, v = .slice (some ⟨g, 0, none⟩) r.1.length c) ∧ Below W.heap.size W w'
theorem AllOut.no {a : Al} {r : List (List Int) × Int} {E : Int} {W w' : World} (h : r = ([], E)) (hE : E ≠ 0) (hb : Below W.heap.size W w') : AllOut a r W (.returned (.tuple #[.map none, .slice none 0 0, .int .i64 E])) w' := by
  subst h
  exact ⟨none, .slice none 0 0, [], rfl, World.ownsRow_nil _ _ _ _, RowsAt.nil _ _, fun h => absurd h hE, hb⟩
def AllSt (a : Al) (l : List ByteArray) (W : World) (g bm n : Nat) (e i : Value) (wr : World) : Prop :=
  ∃ (k : Nat) (vs rest : List Value), e = .int .i64 0 ∧ i = .int .i64 (k : Int) ∧ k ≤ l.length ∧ AllTo a l k ∧ wr.ownsRow W.heap.size 26 1 (.slice (some ⟨g, 0, none⟩) l.length l.length) l.length (vs ++ rest) ∧ vs.length + rest.length = l.length ∧ RowsAt wr W.heap.size vs ((l.take k).map fun s => (lettersS a s).1) ∧
    MapI Tryd.prog 21 3 .i64 wr bm n (rankF a.lets a.lets.length) ∧ Below W.heap.size W wr

set_option maxHeartbeats 4000000 in
set_option maxRecDepth 100000 in
theorem all_words (A1 A2 AL : Option Addr) (c1 c2 cl lo : Nat) (a : Al) (l : List ByteArray) (w : World) (hin : AlIn w lo w.heap.size A1 A2 a) (hT : Utf8Tabs 0 1 w) (hsl : Sl 1 vStr w lo w.heap.size AL l) (hn : l.length ≤ 9223372036854775807) :
    Calls Tryd.prog 53 #[.agg #[.slice A1 a.feats.length c1, .slice A2 a.lets.length c2], .slice AL l.length cl] w (AllOut a (allS a l) w) := by
  obtain ⟨i0, hi0, hz0, hz1, hz2⟩ := info_parts runes_info
  have hal : Below w.heap.size w (w.alloc (.cells #[.slice A1 a.feats.length c1, .slice A2 a.lets.length c2] 25)) := (Below.refl _ _).alloc (Nat.le_refl _) _
  have hcall := Lib.hid (ranks_any A1 A2 c1 c2 lo a _ (hin.on hal))
  have HL : Hid (allS a l = if alOk a = false then ([], 7) else if 4096 < l.length then ([], 4) else allF a l) := rfl
  go_enter Tryd.func53, Tryd.ntmps53
  go_wp2_with fail
  refine hcall.out.mono ?_
  rintro e w1 (⟨hok, rfl, hb1⟩ | ⟨hok, bm, n, rfl, hmap, hbm, hb1⟩)
  · have hfin := AllOut.no (a := a) (r := allS a l) (E := 7) (by rw [HL.out, if_pos hok]) (by decide) (hal.trans (hb1.mono (by simp)))
    have HF := Lib.hid hfin
    clear hfin hcall hok
    go_wp2_with fail
    go_ret3
    exact HF.out
  · have hbw := hal.trans (hb1.mono (by simp))
    have hz := hbw.size
    have hbmw : w.heap.size ≤ bm := by simp at hbm; omega
    clear hcall
    by_cases hc : 4096 < l.length
    · have hfin := AllOut.no (a := a) (r := allS a l) (E := 4) (by rw [HL.out, if_neg (by rw [hok]; simp), if_pos hc]) (by decide) hbw
      have HF := Lib.hid hfin
      clear hfin hok hmap
      go_wp2_with fail
      go_ret3
      exact HF.out
    · have HF : Hid (allS a l = allF a l) := by show _ = _; rw [HL.out, if_neg (by rw [hok]; simp), if_neg hc]
      have HR := Lib.hid (fun (x : ByteArray) (hx : x.size ≤ maxLen) (m : Nat) (w2 : World) (hm : MapI Tryd.prog 21 3 .i64 w2 bm m (rankF a.lets a.lets.length)) (hb : Below w.heap.size w w2) => by
        have h := read_any x bm m _ a w2 hm (rank_let hok) (Utf8Tabs_below hT hb) hx
        rw [show readS a x = lettersS a x by unfold lettersS; rw [if_pos hok]] at h
        exact h)
      have hm1 : i0.bytes * l.length ≤ 281474976710656 := by rw [hz2]; omega
      have hm2 : l.length ≤ maxLen := by unfold maxLen; omega
      have hml := hmap.lt
      have HM := Lib.hid hmap
      clear hmap HL hok
      go_wp2_with (refine wpList_make_full _ rfl (.tmp 24) (.tmp 24) 80 rfl w1.heap.size 26 i0 (.slice none 0 0) 1 Tryd.underlying80 hi0 hz0 hz1 .i64 .i64 (l.length : Int) (l.length : Int) l.length rfl rfl rfl rfl hm1 hm2 (by simp) ?_)
      intro w2 hown2 hgr2
      have hb2 : Below w1.heap.size w1 w2 := (Below.refl _ _).grown hgr2 (by simp) (by simp)
      have hml2 := HM.out.below hb2 hml
      have hlen0 : (madeCells #[Value.slice none 0 0] l.length).toList.length = l.length := by rw [toList_madeCells_one, List.length_replicate]
      generalize (madeCells #[Value.slice none 0 0] l.length).toList = cells0 at *
      have hst : AllSt a l w1 w1.heap.size bm n (.int .i64 0) (.int .i64 0) w2 := ⟨0, [], cells0, rfl, rfl, by omega, fun i h h0 => absurd h0 (by omega), hown2, by simpa using hlen0, RowsAt.nil _ _, hml2, hb2⟩
      have HST := Lib.hid hst
      clear hst hown2 hgr2 hlen0 hml2 HM
      generalize hg1 : w1.heap.size = g1 at *
      go_wp2_with fail
      go_loopw [8, 28] (fun e i wr => AllSt a l w1 g1 bm n e i wr) (fun _ i _ => l.length - (intOf i).toNat)
      case atStart => exact HST.out
      case round =>
        clear HST
        obtain ⟨k, vs, rest, rfl, rfl, hk, hto, hown, hvr, hrows, hmapr, hb⟩ := hrel
        have hbs := hb.size
        by_cases hlt : k < l.length
        · have hlen : vs.length = k := by
            rw [hrows.1, List.length_map, List.length_take]
            omega
          have hg1w : g1 < wr.heap.size := by
            obtain ⟨g', c', e, _, _, _, h2⟩ := own_pos hown (by omega)
            injection e with e
            injection e with e
            injection e with e
            omega
          have hbwr : Below w.heap.size w wr := hbw.trans (hb.mono (by omega))
          obtain ⟨b, off, rfl, _, hbb, ⟨x0, y0⟩, hsz⟩ := strs_at (hsl.below vStr_good hbwr (Nat.le_refl _)) hlt
          have hbl : b < wr.heap.size := by have := hbwr.size; omega
          have hcall := Lib.hid (HR.out l[k] hsz n wr hmapr hbwr)
          have hgood : (lettersS a l[k]).2 = 0 → AllTo a l (k + 1) := fun h i hi hik => by
            by_cases hh : i < k
            · exact hto i hi hh
            · have : i = k := by omega
              subst this
              exact h
          have hbad : (lettersS a l[k]).2 ≠ 0 → allS a l = ([], (lettersS a l[k]).2) := fun h => by rw [HF.out]; exact allF_bad a l k hlt hto h
          have hmap' : (l.take (k + 1)).map (fun s => (lettersS a s).1) = (l.take k).map (fun s => (lettersS a s).1) ++ [(lettersS a l[k]).1] := by
            rw [List.take_succ_eq_append_getElem hlt, List.map_append]
            rfl
          have herr := letters_err a l[k]
          generalize l[k] = x at *
          generalize lettersS a x = R at *
          obtain ⟨lx, E⟩ := R
          simp only at hgood hbad hmap' herr
          have HGOOD := Lib.hid hgood
          have HBAD := Lib.hid hbad
          have HMAP := Lib.hid hmap'
          have HG := Lib.hid hg1
          have HSL := Lib.hid hsl
          clear hgood hbad hmap' hg1 hsl
          go_wp2_with fail
          refine hcall.out.mono ?_
          rintro e w3 ⟨A, c, rfl, hownw, hb3⟩
          have hown3 := own_below hown hb3
          obtain ⟨v0, hv0⟩ : ∃ v0, (vs ++ rest)[k]? = some v0 := ⟨_, List.getElem?_eq_getElem (by rw [List.length_append]; omega)⟩
          obtain ⟨z0, z1⟩ := own_cel hown3 hv0
          have hset := own_set hown3 (g := g1) rfl (j := k) (by rw [List.length_append]; omega) (.slice A lx.length c)
          have hrest : (vs ++ rest).set k (.slice A lx.length c) = (vs ++ [.slice A lx.length c]) ++ rest.tail := by
            rw [List.set_append_right _ _ (by omega), hlen, Nat.sub_self]
            cases rest with
            | nil => simp only [List.length_nil] at hvr; omega
            | cons r rest => simp
          rw [hrest] at hset
          have hownw' : w3.ownsRow w1.heap.size 21 1 (.slice A lx.length c) lx.length (runeVs lx) := own_low hownw hbs
          have hrows3 := (hrows.below hb3).snoc hownw'
          have hrows4 : RowsAt (w3.setCell ⟨g1, k, none⟩ (.slice A lx.length c)) w1.heap.size (vs ++ [.slice A lx.length c]) ((l.take (k + 1)).map fun s => (lettersS a s).1) := by
            rw [HMAP.out]
            refine hrows3.same fun i v g hv hg => Below.heap_setCell _ _ _ g fun e => ?_
            subst e
            have hil : i < (vs ++ [Value.slice A lx.length c]).length := (List.getElem?_eq_some_iff.1 hv).1
            obtain ⟨B, d, e1, e2⟩ := hrows3.2 i (by rw [← hrows3.1]; exact hil)
            rw [hv] at e1
            injection e1 with e1
            subst e1
            exact own_ne_own e2 hown3 (by decide) _ hg rfl
          have hmap4 : MapI Tryd.prog 21 3 .i64 (w3.setCell ⟨g1, k, none⟩ (.slice A lx.length c)) bm n (rankF a.lets a.lets.length) := (hmapr.below hb3 hmapr.lt).same (Below.heap_setCell _ _ _ bm (by show bm ≠ g1; omega))
          have hb4 : Below w1.heap.size w1 (w3.setCell ⟨g1, k, none⟩ (.slice A lx.length c)) := (hb.trans (hb3.mono hbs)).setCell (by rw [HG.out]; exact Nat.le_refl _) _
          have hbw4 : Below w.heap.size w (w3.setCell ⟨g1, k, none⟩ (.slice A lx.length c)) := hbw.trans (hb4.mono (by rw [HG.out]; exact hz))
          have hg3 : g1 < w3.heap.size := by have := hb3.size; omega
          clear hownw hownw' hrows3 hown3 hown hrows hrest hmapr x0 y0 hcall hv0
          rcases herr with h0 | ⟨h1, h2, h3⟩
          · subst h0
            have hfin : AllSt a l w1 g1 bm n (.int .i64 0) (.int .i64 ((k : Int) + 1)) (w3.setCell ⟨g1, k, none⟩ (.slice A lx.length c)) := ⟨k + 1, _, rest.tail, rfl, by simp, by omega, HGOOD.out rfl, hset, by rw [List.length_append, List.length_tail, List.length_singleton]; omega, hrows4, hmap4, hb4⟩
            have HFIN := Lib.hid hfin
            clear hfin hset hrows4 hmap4 hb4 hbw4
            go_wp2_with fail
            exact ⟨HFIN.out, by simp [intOf]; omega⟩
          · have hne : (E != 0) = true := by rw [bne_iff_ne]; omega
            have HFIN := Lib.hid (AllOut.no (a := a) (HBAD.out (by omega)) (by omega) hbw4)
            clear hset hrows4 hmap4 hb4 hbw4 h3
            go_wp2_with fail
            go_ret3
            exact HFIN.out
        · obtain rfl : k = l.length := by omega
          have hok := allF_ok a l fun s hs => by
            obtain ⟨i, hi, rfl⟩ := List.getElem_of_mem hs
            exact hto i hi hi
          have hfin : AllOut a (allS a l) w (.returned (.tuple #[.map (some bm), .slice (some ⟨g1, 0, none⟩) l.length l.length, .int .i64 0])) wr := by
            rw [HF.out, hok]
            rw [List.take_length] at hrows
            have hr : rest = [] := by
              have := hrows.1
              rw [List.length_map] at this
              exact List.eq_nil_of_length_eq_zero (by omega)
            subst hr
            rw [List.append_nil] at hown
            refine ⟨_, _, vs, rfl, ?_, hrows.low (by omega), fun _ => ⟨⟨bm, n, rfl, hbmw, hmapr⟩, g1, l.length, by simp only [List.length_map]⟩, hbw.trans (hb.mono (by omega))⟩
            simp only [List.length_map]
            exact own_low hown (by omega)
          have HFIN := Lib.hid hfin
          clear hfin hown hrows hmapr hok hg1
          go_wp2_with fail
          go_ret3
          exact HFIN.out
end Go.Proofs.YtfjccjjdgbkbiaaDoor
