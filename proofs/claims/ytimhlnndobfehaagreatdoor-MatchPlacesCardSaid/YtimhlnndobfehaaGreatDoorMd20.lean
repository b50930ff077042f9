/- A class's letters: the program's Class. slices.Contains of letters, walked. word.Peaks. A class's letters: the document's Class. The document's Read, Letters, Check of a word. The document's Has and Peaks. -/
import Derived.Test.YtimhlnndobfehaaGreatDoorMd04
import Derived.Test.YtimhlnndobfehaaGreatDoorMd13
import Derived.Test.YtimhlnndobfehaaGreatDoorMd19
import Derived.Test.YtimhlnndobfehaaGreatDoorMd14
import Derived.Test.YtimhlnndobfehaaGreatDoorMd08
import Derived.BigRegion
import Derived.Deep.DeepCutAuto
import Derived.Deep.CutBlock
namespace Go.Proofs.YtimhlnndobfehaaGreatDoor
open Go.RowKit
open Go.Lib (Utf8Tabs)
set_option linter.unusedVariables false

def clsL (l : List Lt) (p m : Nat) : List Int := (l.filter fun x => likeL x p m).map (·.rune)
/-- A class's letters, and the error. -/
def classS (a : Al) (p m : Nat) : List Int × Int := if alOk a = false then ([], 7) else if classOk a.feats.length p m then (clsL a.lets p m, 0) else ([], 20)
theorem clsL_snoc {l : List Lt} {p m k : Nat} (hk : k < l.length) : clsL (l.take (k + 1)) p m = if likeL l[k] p m then clsL (l.take k) p m ++ [l[k].rune] else clsL (l.take k) p m := by
  unfold clsL
  rw [List.take_succ_eq_append_getElem hk, List.filter_append, List.map_append]
  cases h : likeL l[k] p m <;> simp [h]
theorem clsL_len (l : List Lt) (p m : Nat) : (clsL l p m).length ≤ l.length := by
  unfold clsL
  rw [List.length_map]
  exact List.length_filter_le _ _

def ClassSt (l : List Lt) (p m : Nat) (W : World) (v i : Value) (wr : World) : Prop :=
  ∃ (k : Nat) (acc : List Int) (A : Option Addr) (c : Nat), v = .slice A acc.length c ∧ i = .int .i64 (k : Int) ∧ k ≤ l.length ∧ acc = clsL (l.take k) p m ∧ wr.ownsRow W.heap.size 21 1 (.slice A acc.length c) acc.length (runeVs acc) ∧ Below W.heap.size W wr

end Go.Proofs.YtimhlnndobfehaaGreatDoor
namespace Go.Proofs.YtimhlnndobfehaaGreatDoor
open Go.RowKit
set_option linter.unusedVariables false

def idxR (v : Int) (l : List Int) : Int := if l.contains v then (l.findIdx (· == v) : Int) else -1
theorem idxR_hit {v : Int} {l : List Int} {k : Nat} (hk : k < l.length) (h1 : ∀ j, j < k → l[j]? ≠ some v) (h2 : l[k] = v) : idxR v l = k := by
  have hm : l.contains v = true := by
    rw [List.contains_iff_mem, ← h2]; exact List.getElem_mem hk
  unfold idxR
  rw [if_pos hm]
  have : l.findIdx (· == v) = k := by
    rw [List.findIdx_eq hk]
    refine ⟨by simp [h2], fun j hj => ?_⟩
    have := h1 j hj
    rw [List.getElem?_eq_getElem (by omega)] at this
    simpa using this
  rw [this]
theorem idxR_miss {v : Int} {l : List Int} (h1 : ∀ j, j < l.length → l[j]? ≠ some v) : idxR v l = -1 := by
  unfold idxR
  rw [if_neg]
  intro h
  rw [List.contains_iff_mem] at h
  obtain ⟨j, hj⟩ := List.mem_iff_getElem?.1 h
  exact h1 j (List.getElem?_eq_some_iff.1 hj).1 hj
theorem idxR_pos (v : Int) (l : List Int) : decide (0 ≤ idxR v l) = l.contains v := by
  unfold idxR
  by_cases h : l.contains v = true
  · rw [if_pos h, h]; simp
  · rw [if_neg h]
    have : l.contains v = false := by simpa using h
    rw [this]; rfl
/-- A letter of a row of the call's own. -/
theorem own_rune {w : World} {base c k : Nat} {A : Option Addr} {l : List Int} (h : w.ownsRow base 21 1 (.slice A l.length c) l.length (runeVs l)) (hk : k < l.length) :
    ∃ g, A = some ⟨g, 0, none⟩ ∧ base ≤ g ∧ g < w.heap.size ∧ Cel w g k (.int .i32 l[k]) := by
  obtain ⟨g, c', e, _, _, h1, h2⟩ := own_pos h (by omega)
  injection e with e1 _ e2
  subst e1 e2
  exact ⟨g, rfl, h1, h2, own_cel h (by unfold runeVs; rw [List.getElem?_map, List.getElem?_eq_getElem hk]; rfl)⟩

end Go.Proofs.YtimhlnndobfehaaGreatDoor
namespace Go.Proofs.YtimhlnndobfehaaGreatDoor
open Go.RowKit
open Go.Lib (Utf8Tabs)
set_option linter.unusedVariables false

def intVs (l : List Nat) : List Value := l.map fun (n : Nat) => Value.int .i64 (n : Int)
/-- A row of numbers of the call's own, and an error. -/
def IntsOut (r : List Nat × Int) (W : World) (e : Ending) (w' : World) : Prop :=
  ∃ A c, e = .returned (.tuple #[.slice A r.1.length c, .int .i64 r.2]) ∧ w'.ownsRow W.heap.size 3 1 (.slice A r.1.length c) r.1.length (intVs r.1) ∧ Below W.heap.size W w'
theorem IntsOut.no {r : List Nat × Int} {E : Int} {W w' : World} (h : r = ([], E)) (hb : Below W.heap.size W w') : IntsOut r W (.returned (.tuple #[.slice none 0 0, .int .i64 E])) w' := by
  subst h
  exact ⟨none, 0, rfl, World.ownsRow_nil _ _ _ _, hb⟩
theorem pkint_info : (Tryz.prog.info? 3).map (fun i => (i.zero, i.size, i.bytes)) = some (some (.int .i64 0), 1, 8) := by kernel_rfl
/-- The places where it is so. -/
def placesOf (f : Int → Bool) (l : List Int) : List Nat := (List.range l.length).filter fun i => f (l.getD i 0)
theorem placesOf_snoc {f : Int → Bool} {l : List Int} {k : Nat} (hk : k < l.length) : placesOf f (l.take (k + 1)) = if f l[k] then placesOf f (l.take k) ++ [k] else placesOf f (l.take k) := by
  have hl1 : (l.take (k + 1)).length = k + 1 := by rw [List.length_take]; omega
  have hl0 : (l.take k).length = k := by rw [List.length_take]; omega
  unfold placesOf
  rw [hl1, hl0, List.range_succ, List.filter_append]
  have e1 : (List.range k).filter (fun i => f ((l.take (k + 1)).getD i 0)) = (List.range k).filter (fun i => f ((l.take k).getD i 0)) := by
    apply List.filter_congr
    intro i hi
    have hi' := List.mem_range.1 hi
    rw [List.getD_eq_getElem?_getD, List.getD_eq_getElem?_getD, List.getElem?_take_of_lt (by omega), List.getElem?_take_of_lt (by omega)]
  have e2 : (l.take (k + 1)).getD k 0 = l[k] := by
    rw [List.getD_eq_getElem?_getD, List.getElem?_take_of_lt (by omega), List.getElem?_eq_getElem hk]
    rfl
  rw [e1]
  have e3 : l[k]?.getD 0 = l[k] := by rw [List.getElem?_eq_getElem hk]; rfl
  cases h : f l[k]
  · simp [e3, h]
  · simp [e3, h]
theorem placesOf_len (f : Int → Bool) (l : List Int) : (placesOf f l).length ≤ l.length := by
  unfold placesOf
  refine Nat.le_trans (List.length_filter_le _ _) ?_
  rw [List.length_range]
  exact Nat.le_refl _
/-- A word's peaks, and the error. -/
def peaksS (a : Al) (s : ByteArray) (p m : Nat) : List Nat × Int :=
  if (lettersS a s).2 ≠ 0 then ([], (lettersS a s).2) else if (classS a p m).2 ≠ 0 then ([], (classS a p m).2) else (placesOf (fun x => (classS a p m).1.contains x) (lettersS a s).1, 0)
theorem class_err (a : Al) (p m : Nat) : ((classS a p m).2 = 0 ∧ (classS a p m).1.length ≤ 128) ∨ ((classS a p m).2 ≠ 0 ∧ (classS a p m).1 = []) ∧ ((classS a p m).2 = 7 ∨ (classS a p m).2 = 20) := by
  unfold classS
  by_cases h : alOk a = false
  · rw [if_pos h]; exact .inr ⟨⟨by simp, rfl⟩, .inl rfl⟩
  · rw [if_neg h]
    by_cases h2 : classOk a.feats.length p m = true
    · rw [if_pos h2]
      have h1 := alOk_size (by simpa using h)
      have h3 := clsL_len a.lets p m
      exact .inl ⟨rfl, by simp only; omega⟩
    · rw [if_neg h2]; exact .inr ⟨⟨by simp, rfl⟩, .inr rfl⟩
def PeakSt (f : Int → Bool) (l : List Int) (W : World) (v i : Value) (wr : World) : Prop :=
  ∃ (k : Nat) (acc : List Nat) (A : Option Addr) (c : Nat), v = .slice A acc.length c ∧ i = .int .i64 (k : Int) ∧ k ≤ l.length ∧ acc = placesOf f (l.take k) ∧ wr.ownsRow W.heap.size 3 1 (.slice A acc.length c) acc.length (intVs acc) ∧ Below W.heap.size W wr

end Go.Proofs.YtimhlnndobfehaaGreatDoor
namespace Go.Proofs.YtimhlnndobfehaaGreatDoor
open Go.RowKit
open Go.Lib (Utf8Tabs)
set_option linter.unusedVariables false

set_option maxHeartbeats 2000000 in
theorem asked_nil (A1 A2 : Option Addr) (c1 c2 lo : Nat) (a : Al) (w : World) (hin : AlIn w lo w.heap.size A1 A2 a) :
    Calls Tryz.prog 131 #[.agg #[.slice A1 a.feats.length c1, .slice A2 a.lets.length c2], .slice none 0 0] w fun e w' => e = .returned (.int .i64 (alE a)) ∧ Below w.heap.size w w' := by
  have hal : Below w.heap.size w (w.alloc (.cells #[.slice A1 a.feats.length c1, .slice A2 a.lets.length c2] 25)) := (Below.refl _ _).alloc (Nat.le_refl _) _
  have hcall := Lib.hid (rcheck_any A1 A2 c1 c2 lo a _ (hin.on hal))
  cases hok : alOk a with
  | false =>
    have he : alE a = 7 := by unfold alE; rw [hok]; rfl
    rw [he] at hcall ⊢
    clear hok he
    go_enter Tryz.func131, Tryz.ntmps131
    go_wp2_with fail
    refine hcall.out.mono ?_
    rintro e w1 ⟨rfl, hb1⟩
    go_wp2_with fail
    go_ret
    exact ⟨rfl, hal.trans (hb1.mono (by simp))⟩
  | true =>
    have he : alE a = 0 := alE_zero.2 hok
    rw [he] at hcall ⊢
    clear hok he
    go_enter Tryz.func131, Tryz.ntmps131
    go_wp2_with fail
    refine hcall.out.mono ?_
    rintro e w1 ⟨rfl, hb1⟩
    have hb2 := hal.trans (hb1.mono (by simp))
    clear hcall hb1 hal
    go_wp2_with fail
    refine wp_loop_rounds 1 ?_
    rw [rounds_succ]
    go_wp2_with fail
    go_ret
    exact ⟨rfl, hb2⟩

end Go.Proofs.YtimhlnndobfehaaGreatDoor
namespace Go.Proofs.YtimhlnndobfehaaGreatDoor
open Go.RowKit
open Go.Lib (Utf8Tabs)
set_option linter.unusedVariables false

def readM (a : Al) (most : Nat) (s : ByteArray) : List Int × Int := readP (isLet a) most (pcs s) []
theorem numI_no {a : Al} {r : Int} (h : isLet a r = false) : numI a r = -1 := by
  unfold numI
  unfold isLet at h
  cases hn : num a r with
  | none => rfl
  | some k => rw [hn] at h; cases h
theorem numF_lt : ∀ (l : List Lt) (i k : Nat) (r : Int), numF l i r = some k → k < i + l.length
  | [], i, k, r, h => by simp [numF] at h
  | x :: l, i, k, r, h => by
    unfold numF at h
    split at h
    · injection h with h
      rw [List.length_cons]
      omega
    · have := numF_lt l (i + 1) k r h
      rw [List.length_cons]
      omega
theorem numI_yes {a : Al} {r : Int} (h : isLet a r = true) : 0 ≤ numI a r ∧ numI a r < a.lets.length := by
  unfold numI
  unfold isLet at h
  cases hn : num a r with
  | none => rw [hn] at h; cases h
  | some k =>
    have := numF_lt a.lets 0 k r hn
    simp only
    omega
theorem go_decode (s : ByteArray) (p : Nat) (hp : p < s.size) : Lib.decodeGo (s.extract p s.size) = Utf8.decode s p := by
  unfold Lib.decodeGo
  rw [if_neg (by rw [ByteArray.size_extract]; omega), decode_tail s p hp]
theorem readP_from (isL : Int → Bool) (most : Nat) (s : ByteArray) (acc : List Int) (p : Nat) (h : p < s.size) : readP isL most (pcsFrom s p) acc = if (pcAt s p).broken then ([], 6) else if !isL (pcAt s p).rune then ([], 5) else if acc.length = most then ([], 4) else readP isL most (pcsFrom s (p + (pcAt s p).len)) (acc ++ [(pcAt s p).rune]) := by
  rw [pcsFrom_step s p h]
  rfl

def RdSt (R : List Int × Int) (isL : Int → Bool) (most : Nat) (s : ByteArray) (v1 v2 : Value) (W : World) (v i : Value) (wr : World) : Prop :=
  ∃ (p : Nat) (acc : List Int) (A : Option Addr) (c : Nat), v = .slice A acc.length c ∧ i = .int .i64 (p : Int) ∧ p ≤ s.size ∧ acc.length ≤ most ∧ R = readP isL most (pcsFrom s p) acc ∧ wr.ownsRow (W.heap.size + 1) 21 1 (.slice A acc.length c) acc.length (runeVs acc) ∧ Row wr W.heap.size 25 [v1, v2] ∧ Below W.heap.size W wr

set_option maxHeartbeats 4000000 in
set_option maxRecDepth 100000 in
theorem rread_any (A1 A2 : Option Addr) (c1 c2 lo : Nat) (a : Al) (s : ByteArray) (most : Nat) (W : World) (hmost : most ≤ 4096) (hin : AlIn W lo W.heap.size A1 A2 a) (hT : Utf8Tabs 0 1 W) (hm : s.size ≤ maxLen) :
    Calls Tryz.prog 126 #[.agg #[.slice A1 a.feats.length c1, .slice A2 a.lets.length c2], .string s, .int .i64 (most : Int)] W (ReadOut (readM a most s) W) := by
  obtain ⟨i1, hi1, hy0, hy1, hy2⟩ := info_parts rune_info
  have hm0 := hm
  unfold maxLen at hm0
  have hal : Below W.heap.size W (W.alloc (.cells #[.slice A1 a.feats.length c1, .slice A2 a.lets.length c2] 25)) := (Below.refl _ _).alloc (Nat.le_refl _) _
  have HST := Lib.hid (show RdSt (readM a most s) (isLet a) most s (.slice A1 a.feats.length c1) (.slice A2 a.lets.length c2) W (.slice none 0 0) (.int .i64 0) (W.alloc (.cells #[.slice A1 a.feats.length c1, .slice A2 a.lets.length c2] 25)) from
    ⟨0, [], none, 0, rfl, rfl, by omega, by simp, rfl, World.ownsRow_nil _ _ _ _, Row.new W _ _, hal⟩)
  clear hal
  generalize readM a most s = R at *
  go_enter Tryz.func126, Tryz.ntmps126
  go_wp2_with fail
  go_loopw [8, 9] (fun v i wr => RdSt R (isLet a) most s (.slice A1 a.feats.length c1) (.slice A2 a.lets.length c2) W v i wr) (fun _ i _ => s.size - (intOf i).toNat)
  case atStart => exact HST.out
  case round =>
    clear HST
    obtain ⟨p, acc, Av, cv, rfl, rfl, hp, hacc, hR, hown, hr, hb⟩ := hrel
    have HR := Lib.hid hR
    clear hR
    have hbs := hb.size
    have hrl := hr.lt
    obtain ⟨q0, f0⟩ := hr.cel (i := 0) rfl
    obtain ⟨q1, f1⟩ := hr.cel (i := 1) rfl
    by_cases hlt : p < s.size
    · have hstep := readP_from (isLet a) most s acc p hlt
      have hgo := go_decode s p hlt
      have hdec := Tryz.utf8_DecodeRuneInString (s.extract p s.size) wr (Utf8Tabs_below hT hb)
      rw [hgo] at hdec
      have hw := decode_width s p hlt
      have hrn := decode_rune s p
      have HQ : Hid ((pcAt s p).broken = decide ((Utf8.decode s p).1 = 65533 ∧ (Utf8.decode s p).2 = 1) ∧ (pcAt s p).rune = ((Utf8.decode s p).1 : Int) ∧ (pcAt s p).len = (Utf8.decode s p).2) := ⟨rfl, rfl, rfl⟩
      generalize pcAt s p = x at *
      generalize Utf8.decode s p = D at *
      obtain ⟨d, n⟩ := D
      simp only at *
      have HS := Lib.hid hstep
      have HD := Lib.hid hdec
      clear hstep hdec hgo
      have hnum := Lib.hid (fun w1 (h : AlIn w1 lo w1.heap.size A1 A2 a) => number_any A1 A2 c1 c2 lo a (d : Int) w1 h (by omega))
      have HIN := Lib.hid hin
      clear hin
      by_cases hbr : d = 65533 ∧ n = 1
      · have hfin := fun w1 hb1 => ReadOut.no (r := R) (E := 6) (W := W) (w' := w1) (by rw [HR.out, HS.out, HQ.out.1, decide_eq_true hbr]; rfl) hb1
        have HF := Lib.hid hfin
        obtain ⟨rfl, rfl⟩ := hbr
        clear hfin HR HS HQ hown
        go_wp2_with fail
        refine HD.out.mono ?_
        rintro e w1 ⟨rfl, hb1⟩
        go_wp2_with fail
        go_ret2
        exact HF.out _ (hb.trans (hb1.mono hbs))
      · have HB : Hid (x.broken = false) := by show _ = _; rw [HQ.out.1, decide_eq_false hbr]
        have hbd : ((d : Int) == 65533) = false ∨ (((d : Int) == 65533) = true ∧ ((n : Int) == 1) = false) := by
          by_cases h : d = 65533
          · exact .inr ⟨by rw [beq_iff_eq]; omega, by rw [beq_eq_false_iff_ne]; omega⟩
          · exact .inl (by rw [beq_eq_false_iff_ne]; omega)
        have HBR := Lib.hid hbr
        clear hbr
        cases hisl : isLet a (d : Int) with
        | false =>
          have hni := numI_no hisl
          rw [hni] at hnum
          have hfin := fun w1 hb1 => ReadOut.no (r := R) (E := 5) (W := W) (w' := w1) (by rw [HR.out, HS.out, HB.out, HQ.out.2.1, hisl]; rfl) hb1
          have HF := Lib.hid hfin
          clear hfin HR HS HQ hown hisl hni HB
          rcases hbd with h1 | ⟨h1, h2⟩
          all_goals
            go_wp2_with fail
            refine HD.out.mono ?_
            rintro e w1 ⟨rfl, hb1⟩
            have hbw1 := hb.trans (hb1.mono hbs)
            have hr1 := hr.below hb1 hrl
            obtain ⟨q2, f2⟩ := hr1.cel (i := 0) rfl
            obtain ⟨q3, f3⟩ := hr1.cel (i := 1) rfl
            go_wp2_with fail
            refine (hnum.out _ (HIN.out.on hbw1)).mono ?_
            rintro e w2 ⟨rfl, hb2⟩
            go_wp2_with fail
            go_ret2
            exact HF.out _ (hbw1.trans (hb2.mono hbw1.size))
        | true =>
          have hni := numI_yes hisl
          generalize numI a (d : Int) = ni at *
          obtain ⟨hni1, hni2⟩ := hni
          by_cases hfull : acc.length = most
          · have hfin := fun w1 hb1 => ReadOut.no (r := R) (E := 4) (W := W) (w' := w1) (by rw [HR.out, HS.out, HB.out, HQ.out.2.1, hisl, if_pos hfull]; rfl) hb1
            have HF := Lib.hid hfin
            have hful : ((acc.length : Int) == (most : Int)) = true := by rw [beq_iff_eq]; omega
            clear hfin HR HS HQ hown hisl HB hfull
            rcases hbd with h1 | ⟨h1, h2⟩
            all_goals
              go_wp2_with fail
              refine HD.out.mono ?_
              rintro e w1 ⟨rfl, hb1⟩
              have hbw1 := hb.trans (hb1.mono hbs)
              have hr1 := hr.below hb1 hrl
              obtain ⟨q2, f2⟩ := hr1.cel (i := 0) rfl
              obtain ⟨q3, f3⟩ := hr1.cel (i := 1) rfl
              go_wp2_with fail
              refine (hnum.out _ (HIN.out.on hbw1)).mono ?_
              rintro e w2 ⟨rfl, hb2⟩
              go_wp2_with fail
              go_ret2
              exact HF.out _ (hbw1.trans (hb2.mono hbw1.size))
          · have hful : ((acc.length : Int) == (most : Int)) = false := by rw [beq_eq_false_iff_ne]; omega
            have hacc2 : acc.length < most := by omega
            have hnx : R = readP (isLet a) most (pcsFrom s (p + n)) (acc ++ [(d : Int)]) := by rw [HR.out, HS.out, HB.out, HQ.out.2.1, HQ.out.2.2, hisl, if_neg hfull]; rfl
            have HN := Lib.hid hnx
            have hge := fun j hj => (hown.lt j hj).1
            have hfins : ∀ (g cap : Nat) (w5 : World), w5.ownsRow (W.heap.size + 1) 21 1 (.slice (some ⟨g, 0, none⟩) (acc.length + 1) cap) (acc.length + 1) (runeVs acc ++ [.int .i32 (d : Int)]) → Row w5 W.heap.size 25 [.slice A1 a.feats.length c1, .slice A2 a.lets.length c2] → Below W.heap.size W w5 →
                RdSt R (isLet a) most s (.slice A1 a.feats.length c1) (.slice A2 a.lets.length c2) W (.slice (some ⟨g, 0, none⟩) (acc.length + 1) cap) (.int .i64 ((p : Int) + (n : Int))) w5 := fun g cap w5 h1 h2 h3 => by
              refine ⟨p + n, acc ++ [(d : Int)], some ⟨g, 0, none⟩, cap, by simp, by rw [Int.natCast_add], by omega, by simp; omega, HN.out, ?_, h2, h3⟩
              have e2 : runeVs acc ++ [.int .i32 (d : Int)] = runeVs (acc ++ [(d : Int)]) := by unfold runeVs; simp
              rw [List.length_append, List.length_singleton, ← e2]
              exact h1
            have HFS := Lib.hid hfins
            clear hfins HR HS HQ hisl HB hfull hnx HN
            rcases hbd with h1 | ⟨h1, h2⟩
            all_goals
              go_wp2_with fail
              refine HD.out.mono ?_
              rintro e w1 ⟨rfl, hb1⟩
              have hbw1 := hb.trans (hb1.mono hbs)
              have hr1 := hr.below hb1 hrl
              have hown1 := own_below hown hb1
              obtain ⟨q2, f2⟩ := hr1.cel (i := 0) rfl
              obtain ⟨q3, f3⟩ := hr1.cel (i := 1) rfl
              go_wp2_with fail
              refine (hnum.out _ (HIN.out.on hbw1)).mono ?_
              rintro e w2 ⟨rfl, hb2⟩
              have hbw2 := hbw1.trans (hb2.mono hbw1.size)
              have hr2 := hr1.below hb2 hr1.lt
              have hown2 := own_below hown1 hb2
              have hal2 : Below w2.heap.size w2 (w2.alloc (.cells #[.int .i32 (d : Int)] 21)) := (Below.refl _ _).alloc (Nat.le_refl _) _
              have hownB := own_below hown2 hal2
              have hr3 := hr2.below hal2 hr2.lt
              have hnews := (Row.new w2 21 [.int .i32 (d : Int)]).news
              have hone : ∀ u ∈ [Value.int .i32 (d : Int)], u.oneCell' = true := by intro u hu; rw [List.mem_singleton.1 hu]; rfl
              have h63 : acc.length + 1 ≤ maxLen := by unfold maxLen; omega
              have hby : (acc.length + 1) * 4 ≤ 140737488355328 := by omega
              have hlo : W.heap.size + 1 ≤ (w2.alloc (.cells #[.int .i32 (d : Int)] 21)).heap.size := by have := hr2.lt; simp; omega
              have hbB := hbw2.trans (hal2.mono hbw2.size)
              clear hown hown1 hown2 hr hr1 hr2 hal2
              go_wp2_with (at_builtin; refine wpList_append_lies _ rfl _ _ 107 rfl (W.heap.size + 1) 21 i1 (.int .i32 0) 1 4 Tryz.underlying107 hi1 hy0 hy1 hy2 rfl (by decide) (.slice Av acc.length cv) acc.length (runeVs acc) rfl hownB ⟨w2.heap.size, 0, none⟩ 1 1 [.int .i32 (d : Int)] rfl rfl hnews hone (by decide) h63 hby hlo _ rfl ?_)
              intro g cap w5 hown5 hgr5 hat5 hlt5
              have hr5 := hr3.grown hgr5 (fun e => row_ne_own hr3 hownB (by decide) e.symm)
              have hb5 := hbB.grown hgr5 hbB.size (fun j hj => by have := hge j hj; omega)
              have HF := Lib.hid (HFS.out g cap w5 hown5 hr5 hb5)
              clear hgr5 hat5 hown5 hr5 hb5 hownB hr3 hnews hone
              go_wp2_with fail
              exact ⟨HF.out, by simp [intOf]; omega⟩
    · have hRR : R = (acc, 0) := by
        rw [HR.out, pcsFrom_end s p (by omega)]
        rfl
      have hfin : ReadOut R W (.returned (.tuple #[.slice Av acc.length cv, .int .i64 0])) wr := by
        rw [hRR]
        exact ⟨Av, cv, rfl, own_low hown (by omega), hb⟩
      have HF := Lib.hid hfin
      clear hfin hown hRR
      go_wp2_with fail
      go_ret2
      exact HF.out
set_option maxHeartbeats 4000000 in
theorem rletters_any (A1 A2 : Option Addr) (c1 c2 lo : Nat) (a : Al) (s : ByteArray) (w : World) (hin : AlIn w lo w.heap.size A1 A2 a) (hT : Utf8Tabs 0 1 w) (hm : s.size ≤ maxLen) :
    Calls Tryz.prog 96 #[.agg #[.slice A1 a.feats.length c1, .slice A2 a.lets.length c2], .string s] w (ReadOut (lettersS a s) w) := by
  have hal : Below w.heap.size w (w.alloc (.cells #[.slice A1 a.feats.length c1, .slice A2 a.lets.length c2] 25)) := (Below.refl _ _).alloc (Nat.le_refl _) _
  have hr0 := Row.new w 25 [.slice A1 a.feats.length c1, .slice A2 a.lets.length c2]
  have hcall := Lib.hid (rcheck_any A1 A2 c1 c2 lo a _ (hin.on hal))
  cases hok : alOk a with
  | false =>
    have he : alE a = 7 := by unfold alE; rw [hok]; rfl
    rw [he] at hcall
    have hL : lettersS a s = ([], 7) := by unfold lettersS; rw [hok]; rfl
    have HF := Lib.hid (fun w1 h => ReadOut.no (r := lettersS a s) (E := 7) (W := w) (w' := w1) hL h)
    clear hok he hL
    go_enter Tryz.func96, Tryz.ntmps96
    go_wp2_with fail
    refine hcall.out.mono ?_
    rintro e w1 ⟨rfl, hb1⟩
    go_wp2_with fail
    go_ret2
    exact HF.out _ (hal.trans (hb1.mono (by simp)))
  | true =>
    have he : alE a = 0 := alE_zero.2 hok
    rw [he] at hcall
    have hL : lettersS a s = readM a 64 s := by unfold lettersS; rw [hok]; rfl
    have HL := Lib.hid hL
    clear hok he hL
    go_enter Tryz.func96, Tryz.ntmps96
    go_wp2_with fail
    refine hcall.out.mono ?_
    rintro e w1 ⟨rfl, hb1⟩
    have hbw1 := hal.trans (hb1.mono (by simp))
    have hr1 := hr0.below hb1 hr0.lt
    obtain ⟨q2, f2⟩ := hr1.cel (i := 0) rfl
    obtain ⟨q3, f3⟩ := hr1.cel (i := 1) rfl
    have hrd := Lib.hid (rread_any A1 A2 c1 c2 lo a s 64 w1 (by omega) (hin.on hbw1) (Utf8Tabs_below hT hbw1) hm)
    clear hcall
    go_wp2_with fail
    refine hrd.out.mono ?_
    rintro e w2 ⟨A, c, rfl, hown, hb2⟩
    have hfin : ReadOut (lettersS a s) w (.returned (.tuple #[.slice A (readM a 64 s).1.length c, .int .i64 (readM a 64 s).2])) w2 := by
      rw [HL.out]
      exact ⟨A, c, rfl, own_low hown hbw1.size, hbw1.trans (hb2.mono hbw1.size)⟩
    have HF := Lib.hid hfin
    clear hfin hown hrd HL
    generalize readM a 64 s = R at *
    go_wp2_with fail
    go_ret2
    exact HF.out
end Go.Proofs.YtimhlnndobfehaaGreatDoor
namespace Go.Proofs.YtimhlnndobfehaaGreatDoor
open Go.RowKit
open Go.Lib (Utf8Tabs)
set_option linter.unusedVariables false

theorem numF_at : ∀ (l : List Lt) (i : Nat) (x : Int) (n : Nat), numF l i x = some n → ∃ k, ∃ hk : k < l.length, n = i + k ∧ l[k].rune = x
  | [], i, x, n, h => by simp [numF] at h
  | y :: r, i, x, n, h => by
    unfold numF at h
    by_cases e : y.rune = x
    · rw [if_pos e] at h
      injection h with h
      exact ⟨0, by simp, by omega, e⟩
    · rw [if_neg e] at h
      obtain ⟨k, hk, h1, h2⟩ := numF_at r (i + 1) x n h
      exact ⟨k + 1, by simpa using hk, by omega, by simpa using h2⟩
theorem isLet_at {a : Al} {x : Int} (h : isLet a x = true) : ∃ k, ∃ hk : k < a.lets.length, numI a x = (k : Int) ∧ a.lets[k].rune = x := by
  unfold isLet num at h
  obtain ⟨n, hn⟩ := Option.isSome_iff_exists.1 h
  obtain ⟨k, hk, h1, h2⟩ := numF_at _ _ _ _ hn
  refine ⟨k, hk, ?_, h2⟩
  unfold numI num
  rw [hn]
  simp only
  omega
theorem cls_like {a : Al} (hok : alOk a = true) {k : Nat} (hk : k < a.lets.length) (p m : Nat) : (clsL a.lets p m).contains a.lets[k].rune = likeL a.lets[k] p m := by
  have hd := alOk_distinct hok
  rw [Bool.eq_iff_iff, List.contains_iff_mem]
  unfold clsL
  rw [List.mem_map]
  constructor
  · rintro ⟨y, hy, e⟩
    obtain ⟨hy1, hy2⟩ := List.mem_filter.1 hy
    obtain ⟨j, hj, rfl⟩ := List.getElem_of_mem hy1
    rcases Nat.lt_trichotomy j k with h | h | h
    · exact absurd e (List.pairwise_iff_getElem.1 hd j k hj hk h)
    · subst h; exact hy2
    · exact absurd e.symm (List.pairwise_iff_getElem.1 hd k j hk hj h)
  · intro h
    exact ⟨a.lets[k], List.mem_filter.2 ⟨List.getElem_mem hk, h⟩, rfl⟩
theorem readP_lets (isL : Int → Bool) (most : Nat) : ∀ (l : List Pc) (acc : List Int), (∀ x ∈ acc, isL x = true) → ∀ x ∈ (readP isL most l acc).1, isL x = true
  | [], acc, h => h
  | y :: r, acc, h => by
    unfold readP
    split
    · intro x hx; simp at hx
    · split
      · intro x hx; simp at hx
      · split
        · intro x hx; simp at hx
        · rename_i h1 h2 h3
          refine readP_lets isL most r (acc ++ [y.rune]) fun x hx => ?_
          rcases List.mem_append.1 hx with hx | hx
          · exact h x hx
          · rw [List.mem_singleton.1 hx]
            simpa using h2
theorem letters_isLet {a : Al} {s : ByteArray} : ∀ x ∈ (lettersS a s).1, alOk a = true ∧ isLet a x = true := by
  unfold lettersS
  by_cases h : alOk a = true
  · rw [if_pos h]
    exact fun x hx => ⟨h, readP_lets (isLet a) 64 (pcs s) [] (fun x hx => by simp at hx) x hx⟩
  · rw [if_neg h]
    intro x hx
    simp at hx

end Go.Proofs.YtimhlnndobfehaaGreatDoor
