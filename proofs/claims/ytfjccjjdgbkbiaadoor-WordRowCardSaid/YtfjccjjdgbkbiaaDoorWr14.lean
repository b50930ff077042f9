/- The document's Read, Letters, Check of a word. A region that draws its order, walked once for a class of worlds. -/
import Derived.Test.YtfjccjjdgbkbiaaDoorWr11
import Derived.Test.YtfjccjjdgbkbiaaDoorWr13
import Derived.Test.YtfjccjjdgbkbiaaDoorWr01
import Derived.BigQuiet
import Derived.Deep.RegionWith
namespace Go.Proofs.YtfjccjjdgbkbiaaDoor
open Go.RowKit
open Go.Lib (Utf8Tabs)
set_option linter.unusedVariables false

def readM (a : Al) (most : Nat) (s : ByteArray) : List Int × Int := readP (isLet a) most (pcs s) []
theorem numI_no {a : Al} {r : Int} (h : isLet a r = false) : numI a r = -1 := by
  unfold numI
  unfold isLet at h
  cases hn : num a r with
  | none => rfl
  | some k => rw [hn] at h; cases h
theorem numF_lt : ∀ (l : List Lt) (i k : Nat) (r : Int), numF l i r = some k → k < i + l.length
  | [], i, k, r, h => by simp [numF] at h
  | x :: l, i, k, r, h => by
    unfold numF at h
    split at h
    · injection h with h
      rw [List.length_cons]
      omega
    · have := numF_lt l (i + 1) k r h
      rw [List.length_cons]
      omega
theorem numI_yes {a : Al} {r : Int} (h : isLet a r = true) : 0 ≤ numI a r ∧ numI a r < a.lets.length := by
  unfold numI
  unfold isLet at h
  cases hn : num a r with
  | none => rw [hn] at h; cases h
  | some k =>
    have := numF_lt a.lets 0 k r hn
    simp only
    omega
theorem go_decode (s : ByteArray) (p : Nat) (hp : p < s.size) : Lib.decodeGo (s.extract p s.size) = Utf8.decode s p := by
  unfold Lib.decodeGo
  rw [if_neg (by rw [ByteArray.size_extract]; omega), decode_tail s p hp]
theorem readP_from (isL : Int → Bool) (most : Nat) (s : ByteArray) (acc : List Int) (p : Nat) (h : p < s.size) : readP isL most (pcsFrom s p) acc = if (pcAt s p).broken then ([], 6) else if !isL (pcAt s p).rune then ([], 5) else if acc.length = most then ([], 4) else readP isL most (pcsFrom s (p + (pcAt s p).len)) (acc ++ [(pcAt s p).rune]) := by
  rw [pcsFrom_step s p h]
  rfl

def RdSt (R : List Int × Int) (isL : Int → Bool) (most : Nat) (s : ByteArray) (v1 v2 : Value) (W : World) (v i : Value) (wr : World) : Prop :=
  ∃ (p : Nat) (acc : List Int) (A : Option Addr) (c : Nat), v = .slice A acc.length c ∧ i = .int .i64 (p : Int) ∧ p ≤ s.size ∧ acc.length ≤ most ∧ R = readP isL most (pcsFrom s p) acc ∧ wr.ownsRow (W.heap.size + 1) 21 1 (.slice A acc.length c) acc.length (runeVs acc) ∧ Row wr W.heap.size 25 [v1, v2] ∧ Below W.heap.size W wr

set_option maxHeartbeats 4000000 in
set_option maxRecDepth 100000 in
theorem rread_any (A1 A2 : Option Addr) (c1 c2 lo : Nat) (a : Al) (s : ByteArray) (most : Nat) (W : World) (hmost : most ≤ 4096) (hin : AlIn W lo W.heap.size A1 A2 a) (hT : Utf8Tabs 0 1 W) (hm : s.size ≤ maxLen) :
    Calls Tryd.prog 44 #[.agg #[.slice A1 a.feats.length c1, .slice A2 a.lets.length c2], .string s, .int .i64 (most : Int)] W (ReadOut (readM a most s) W) := by
  obtain ⟨i1, hi1, hy0, hy1, hy2⟩ := info_parts rune_info
  have hm0 := hm
  unfold maxLen at hm0
  have hal : Below W.heap.size W (W.alloc (.cells #[.slice A1 a.feats.length c1, .slice A2 a.lets.length c2] 25)) := (Below.refl _ _).alloc (Nat.le_refl _) _
  have HST := Lib.hid (show RdSt (readM a most s) (isLet a) most s (.slice A1 a.feats.length c1) (.slice A2 a.lets.length c2) W (.slice none 0 0) (.int .i64 0) (W.alloc (.cells #[.slice A1 a.feats.length c1, .slice A2 a.lets.length c2] 25)) from
    ⟨0, [], none, 0, rfl, rfl, by omega, by simp, rfl, World.ownsRow_nil _ _ _ _, Row.new W _ _, hal⟩)
  clear hal
  generalize readM a most s = R at *
  go_enter Tryd.func44, Tryd.ntmps44
  go_wp2_with fail
  go_loopw [8, 9] (fun v i wr => RdSt R (isLet a) most s (.slice A1 a.feats.length c1) (.slice A2 a.lets.length c2) W v i wr) (fun _ i _ => s.size - (intOf i).toNat)
  case atStart => exact HST.out
  case round =>
    clear HST
    obtain ⟨p, acc, Av, cv, rfl, rfl, hp, hacc, hR, hown, hr, hb⟩ := hrel
    have HR := Lib.hid hR
    clear hR
    have hbs := hb.size
    have hrl := hr.lt
    obtain ⟨q0, f0⟩ := hr.cel (i := 0) rfl
    obtain ⟨q1, f1⟩ := hr.cel (i := 1) rfl
    by_cases hlt : p < s.size
    · have hstep := readP_from (isLet a) most s acc p hlt
      have hgo := go_decode s p hlt
      have hdec := Tryd.utf8_DecodeRuneInString (s.extract p s.size) wr (Utf8Tabs_below hT hb)
      rw [hgo] at hdec
      have hw := decode_width s p hlt
      have hrn := decode_rune s p
      have HQ : Hid ((pcAt s p).broken = decide ((Utf8.decode s p).1 = 65533 ∧ (Utf8.decode s p).2 = 1) ∧ (pcAt s p).rune = ((Utf8.decode s p).1 : Int) ∧ (pcAt s p).len = (Utf8.decode s p).2) := ⟨rfl, rfl, rfl⟩
      generalize pcAt s p = x at *
      generalize Utf8.decode s p = D at *
      obtain ⟨d, n⟩ := D
      simp only at *
      have HS := Lib.hid hstep
      have HD := Lib.hid hdec
      clear hstep hdec hgo
      have hnum := Lib.hid (fun w1 (h : AlIn w1 lo w1.heap.size A1 A2 a) => number_any A1 A2 c1 c2 lo a (d : Int) w1 h (by omega))
      have HIN := Lib.hid hin
      clear hin
      by_cases hbr : d = 65533 ∧ n = 1
      · have hfin := fun w1 hb1 => ReadOut.no (r := R) (E := 6) (W := W) (w' := w1) (by rw [HR.out, HS.out, HQ.out.1, decide_eq_true hbr]; rfl) hb1
        have HF := Lib.hid hfin
        obtain ⟨rfl, rfl⟩ := hbr
        clear hfin HR HS HQ hown
        go_wp2_with fail
        refine HD.out.mono ?_
        rintro e w1 ⟨rfl, hb1⟩
        go_wp2_with fail
        go_ret2
        exact HF.out _ (hb.trans (hb1.mono hbs))
      · have HB : Hid (x.broken = false) := by show _ = _; rw [HQ.out.1, decide_eq_false hbr]
        have hbd : ((d : Int) == 65533) = false ∨ (((d : Int) == 65533) = true ∧ ((n : Int) == 1) = false) := by
          by_cases h : d = 65533
          · exact .inr ⟨by rw [beq_iff_eq]; omega, by rw [beq_eq_false_iff_ne]; omega⟩
          · exact .inl (by rw [beq_eq_false_iff_ne]; omega)
        have HBR := Lib.hid hbr
        clear hbr
        cases hisl : isLet a (d : Int) with
        | false =>
          have hni := numI_no hisl
          rw [hni] at hnum
          have hfin := fun w1 hb1 => ReadOut.no (r := R) (E := 5) (W := W) (w' := w1) (by rw [HR.out, HS.out, HB.out, HQ.out.2.1, hisl]; rfl) hb1
          have HF := Lib.hid hfin
          clear hfin HR HS HQ hown hisl hni HB
          rcases hbd with h1 | ⟨h1, h2⟩
          all_goals
            go_wp2_with fail
            refine HD.out.mono ?_
            rintro e w1 ⟨rfl, hb1⟩
            have hbw1 := hb.trans (hb1.mono hbs)
            have hr1 := hr.below hb1 hrl
            obtain ⟨q2, f2⟩ := hr1.cel (i := 0) rfl
            obtain ⟨q3, f3⟩ := hr1.cel (i := 1) rfl
            go_wp2_with fail
            refine (hnum.out _ (HIN.out.on hbw1)).mono ?_
            rintro e w2 ⟨rfl, hb2⟩
            go_wp2_with fail
            go_ret2
            exact HF.out _ (hbw1.trans (hb2.mono hbw1.size))
        | true =>
          have hni := numI_yes hisl
          generalize numI a (d : Int) = ni at *
          obtain ⟨hni1, hni2⟩ := hni
          by_cases hfull : acc.length = most
          · have hfin := fun w1 hb1 => ReadOut.no (r := R) (E := 4) (W := W) (w' := w1) (by rw [HR.out, HS.out, HB.out, HQ.out.2.1, hisl, if_pos hfull]; rfl) hb1
            have HF := Lib.hid hfin
            have hful : ((acc.length : Int) == (most : Int)) = true := by rw [beq_iff_eq]; omega
            clear hfin HR HS HQ hown hisl HB hfull
            rcases hbd with h1 | ⟨h1, h2⟩
            all_goals
              go_wp2_with fail
              refine HD.out.mono ?_
              rintro e w1 ⟨rfl, hb1⟩
              have hbw1 := hb.trans (hb1.mono hbs)
              have hr1 := hr.below hb1 hrl
              obtain ⟨q2, f2⟩ := hr1.cel (i := 0) rfl
              obtain ⟨q3, f3⟩ := hr1.cel (i := 1) rfl
              go_wp2_with fail
              refine (hnum.out _ (HIN.out.on hbw1)).mono ?_
              rintro e w2 ⟨rfl, hb2⟩
              go_wp2_with fail
              go_ret2
              exact HF.out _ (hbw1.trans (hb2.mono hbw1.size))
          · have hful : ((acc.length : Int) == (most : Int)) = false := by rw [beq_eq_false_iff_ne]; omega
            have hacc2 : acc.length < most := by omega
            have hnx : R = readP (isLet a) most (pcsFrom s (p + n)) (acc ++ [(d : Int)]) := by rw [HR.out, HS.out, HB.out, HQ.out.2.1, HQ.out.2.2, hisl, if_neg hfull]; rfl
            have HN := Lib.hid hnx
            have hge := fun j hj => (hown.lt j hj).1
            have hfins : ∀ (g cap : Nat) (w5 : World), w5.ownsRow (W.heap.size + 1) 21 1 (.slice (some ⟨g, 0, none⟩) (acc.length + 1) cap) (acc.length + 1) (runeVs acc ++ [.int .i32 (d : Int)]) → Row w5 W.heap.size 25 [.slice A1 a.feats.length c1, .slice A2 a.lets.length c2] → Below W.heap.size W w5 →
                RdSt R (isLet a) most s (.slice A1 a.feats.length c1) (.slice A2 a.lets.length c2) W (.slice (some ⟨g, 0, none⟩) (acc.length + 1) cap) (.int .i64 ((p : Int) + (n : Int))) w5 := fun g cap w5 h1 h2 h3 => by
              refine ⟨p + n, acc ++ [(d : Int)], some ⟨g, 0, none⟩, cap, by simp, by rw [Int.natCast_add], by omega, by simp; omega, HN.out, ?_, h2, h3⟩
              have e2 : runeVs acc ++ [.int .i32 (d : Int)] = runeVs (acc ++ [(d : Int)]) := by unfold runeVs; simp
              rw [List.length_append, List.length_singleton, ← e2]
              exact h1
            have HFS := Lib.hid hfins
            clear hfins HR HS HQ hisl HB hfull hnx HN
            rcases hbd with h1 | ⟨h1, h2⟩
            all_goals
              go_wp2_with fail
              refine HD.out.mono ?_
              rintro e w1 ⟨rfl, hb1⟩
              have hbw1 := hb.trans (hb1.mono hbs)
              have hr1 := hr.below hb1 hrl
              have hown1 := own_below hown hb1
              obtain ⟨q2, f2⟩ := hr1.cel (i := 0) rfl
              obtain ⟨q3, f3⟩ := hr1.cel (i := 1) rfl
              go_wp2_with fail
              refine (hnum.out _ (HIN.out.on hbw1)).mono ?_
              rintro e w2 ⟨rfl, hb2⟩
              have hbw2 := hbw1.trans (hb2.mono hbw1.size)
              have hr2 := hr1.below hb2 hr1.lt
              have hown2 := own_below hown1 hb2
              have hal2 : Below w2.heap.size w2 (w2.alloc (.cells #[.int .i32 (d : Int)] 21)) := (Below.refl _ _).alloc (Nat.le_refl _) _
              have hownB := own_below hown2 hal2
              have hr3 := hr2.below hal2 hr2.lt
              have hnews := (Row.new w2 21 [.int .i32 (d : Int)]).news
              have hone : ∀ u ∈ [Value.int .i32 (d : Int)], u.oneCell' = true := by intro u hu; rw [List.mem_singleton.1 hu]; rfl
              have h63 : acc.length + 1 ≤ maxLen := by unfold maxLen; omega
              have hby : (acc.length + 1) * 4 ≤ 140737488355328 := by omega
              have hlo : W.heap.size + 1 ≤ (w2.alloc (.cells #[.int .i32 (d : Int)] 21)).heap.size := by have := hr2.lt; simp; omega
              have hbB := hbw2.trans (hal2.mono hbw2.size)
              clear hown hown1 hown2 hr hr1 hr2 hal2
              go_wp2_with (at_builtin; refine wpList_append_lies _ rfl _ _ 26 rfl (W.heap.size + 1) 21 i1 (.int .i32 0) 1 4 Tryd.underlying26 hi1 hy0 hy1 hy2 rfl (by decide) (.slice Av acc.length cv) acc.length (runeVs acc) rfl hownB ⟨w2.heap.size, 0, none⟩ 1 1 [.int .i32 (d : Int)] rfl rfl hnews hone (by decide) h63 hby hlo _ rfl ?_)
              intro g cap w5 hown5 hgr5 hat5 hlt5
              have hr5 := hr3.grown hgr5 (fun e => row_ne_own hr3 hownB (by decide) e.symm)
              have hb5 := hbB.grown hgr5 hbB.size (fun j hj => by have := hge j hj; omega)
              have HF := Lib.hid (HFS.out g cap w5 hown5 hr5 hb5)
              clear hgr5 hat5 hown5 hr5 hb5 hownB hr3 hnews hone
              go_wp2_with fail
              exact ⟨HF.out, by simp [intOf]; omega⟩
    · have hRR : R = (acc, 0) := by
        rw [HR.out, pcsFrom_end s p (by omega)]
        rfl
      have hfin : ReadOut R W (.returned (.tuple #[.slice Av acc.length cv, .int .i64 0])) wr := by
        rw [hRR]
        exact ⟨Av, cv, rfl, own_low hown (by omega), hb⟩
      have HF := Lib.hid hfin
      clear hfin hown hRR
      go_wp2_with fail
      go_ret2
      exact HF.out
set_option maxHeartbeats 4000000 in
theorem rletters_any (A1 A2 : Option Addr) (c1 c2 lo : Nat) (a : Al) (s : ByteArray) (w : World) (hin : AlIn w lo w.heap.size A1 A2 a) (hT : Utf8Tabs 0 1 w) (hm : s.size ≤ maxLen) :
    Calls Tryd.prog 11 #[.agg #[.slice A1 a.feats.length c1, .slice A2 a.lets.length c2], .string s] w (ReadOut (lettersS a s) w) := by
  have hal : Below w.heap.size w (w.alloc (.cells #[.slice A1 a.feats.length c1, .slice A2 a.lets.length c2] 25)) := (Below.refl _ _).alloc (Nat.le_refl _) _
  have hr0 := Row.new w 25 [.slice A1 a.feats.length c1, .slice A2 a.lets.length c2]
  have hcall := Lib.hid (rcheck_any A1 A2 c1 c2 lo a _ (hin.on hal))
  cases hok : alOk a with
  | false =>
    have he : alE a = 7 := by unfold alE; rw [hok]; rfl
    rw [he] at hcall
    have hL : lettersS a s = ([], 7) := by unfold lettersS; rw [hok]; rfl
    have HF := Lib.hid (fun w1 h => ReadOut.no (r := lettersS a s) (E := 7) (W := w) (w' := w1) hL h)
    clear hok he hL
    go_enter Tryd.func11, Tryd.ntmps11
    go_wp2_with fail
    refine hcall.out.mono ?_
    rintro e w1 ⟨rfl, hb1⟩
    go_wp2_with fail
    go_ret2
    exact HF.out _ (hal.trans (hb1.mono (by simp)))
  | true =>
    have he : alE a = 0 := alE_zero.2 hok
    rw [he] at hcall
    have hL : lettersS a s = readM a 64 s := by unfold lettersS; rw [hok]; rfl
    have HL := Lib.hid hL
    clear hok he hL
    go_enter Tryd.func11, Tryd.ntmps11
    go_wp2_with fail
    refine hcall.out.mono ?_
    rintro e w1 ⟨rfl, hb1⟩
    have hbw1 := hal.trans (hb1.mono (by simp))
    have hr1 := hr0.below hb1 hr0.lt
    obtain ⟨q2, f2⟩ := hr1.cel (i := 0) rfl
    obtain ⟨q3, f3⟩ := hr1.cel (i := 1) rfl
    have hrd := Lib.hid (rread_any A1 A2 c1 c2 lo a s 64 w1 (by omega) (hin.on hbw1) (Utf8Tabs_below hT hbw1) hm)
    clear hcall
    go_wp2_with fail
    refine hrd.out.mono ?_
    rintro e w2 ⟨A, c, rfl, hown, hb2⟩
    have hfin : ReadOut (lettersS a s) w (.returned (.tuple #[.slice A (readM a 64 s).1.length c, .int .i64 (readM a 64 s).2])) w2 := by
      rw [HL.out]
      exact ⟨A, c, rfl, own_low hown hbw1.size, hbw1.trans (hb2.mono hbw1.size)⟩
    have HF := Lib.hid hfin
    clear hfin hown hrd HL
    generalize readM a 64 s = R at *
    go_wp2_with fail
    go_ret2
    exact HF.out
set_option maxHeartbeats 2000000 in
theorem rwcheck_any (A1 A2 : Option Addr) (c1 c2 lo : Nat) (a : Al) (s : ByteArray) (w : World) (hin : AlIn w lo w.heap.size A1 A2 a) (hT : Utf8Tabs 0 1 w) (hm : s.size ≤ maxLen) :
    Calls Tryd.prog 19 #[.agg #[.slice A1 a.feats.length c1, .slice A2 a.lets.length c2], .string s] w fun e w' => e = .returned (.int .i64 (lettersS a s).2) ∧ Below w.heap.size w w' := by
  have hal : Below w.heap.size w (w.alloc (.cells #[.slice A1 a.feats.length c1, .slice A2 a.lets.length c2] 25)) := (Below.refl _ _).alloc (Nat.le_refl _) _
  have hcall := Lib.hid (rletters_any A1 A2 c1 c2 lo a s _ (hin.on hal) (Utf8Tabs_below hT hal) hm)
  go_enter Tryd.func19, Tryd.ntmps19
  go_wp2_with fail
  refine hcall.out.mono ?_
  rintro e w1 ⟨A, c, rfl, hown, hb1⟩
  clear hown hcall
  go_wp2_with fail
  go_ret
  exact ⟨rfl, hal.trans (hb1.mono (by simp))⟩
end Go.Proofs.YtfjccjjdgbkbiaaDoor
namespace Go.Proofs.YtfjccjjdgbkbiaaDoor
open Go.RowKit
set_option linter.unusedVariables false

/-- A region that draws its order, where all operations yield the same in all worlds of a class, and leave a world of the class: one walk of it. -/
theorem wp_region_class {P : Program} {id : Nat} {Q : Exit → Act → World → Prop} {a : Act} {w : World} {l : List Oper} (C : World → Prop) (hm : P.follows .mixedOrders = true) (hB : Region.lexB .any l.toArray = true) (hC : C w.drew)
    (h : wpQuiet P l.toArray C (fun a' => ∀ w', C w' → Q .normal a' w') l a) : (Code.region id l.toArray true).wp P Q a w :=
  wp_region_quiet (C := C) hm hB hC (by simpa using h)

end Go.Proofs.YtfjccjjdgbkbiaaDoor
