/- word.Join. What WordParts asks, of letters. Plain Lean. word.Cmp. Words' row: lists of letters, sorted by their numbers, each once. Plain Lean. -/
import Derived.Test.YtfjccjjdgbkbiaaDoorWo29
import Derived.Test.YtfjccjjdgbkbiaaDoorWo30
import Derived.Test.YtfjccjjdgbkbiaaDoorWo27
import Derived.Test.YtfjccjjdgbkbiaaDoorWo28
import Derived.Test.YtfjccjjdgbkbiaaDoorWo22
namespace Go.Proofs.YtfjccjjdgbkbiaaDoor
open Go.RowKit
open Go.Lib (Utf8Tabs)
set_option linter.unusedVariables false

def joinW (a : Al) (l : List ByteArray) : ByteArray × Int := if (allS a l).2 ≠ 0 then (⟨#[]⟩, (allS a l).2) else if 256 < (allS a l).1.flatten.length then (⟨#[]⟩, 9) else (encR (allS a l).1.flatten, 0)
theorem allF_len (a : Al) : ∀ l : List ByteArray, ∀ x ∈ (allF a l).1, x.length ≤ 64
  | [], x, hx => by simp [allF] at hx
  | s :: r, x, hx => by
    unfold allF at hx
    split at hx
    · simp at hx
    · split at hx
      · simp at hx
      · rcases List.mem_cons.1 hx with rfl | hx
        · exact letters_len a s
        · exact allF_len a r x hx
theorem allS_len (a : Al) (l : List ByteArray) : ∀ x ∈ (allS a l).1, x.length ≤ 64 := by
  unfold allS
  split
  · intro x hx; simp at hx
  · split
    · intro x hx; simp at hx
    · exact allF_len a l
theorem flatten_take {ls : List (List Int)} {k : Nat} (h : k < ls.length) : (ls.take (k + 1)).flatten = (ls.take k).flatten ++ ls[k] := by
  rw [List.take_succ_eq_append_getElem h, List.flatten_append]
  simp
theorem flatten_le (ls : List (List Int)) (k : Nat) : (ls.take k).flatten.length ≤ ls.flatten.length := by
  conv => rhs; rw [← List.take_append_drop k ls]
  rw [List.flatten_append, List.length_append]
  omega
def JoinSt (ls : List (List Int)) (W : World) (v i : Value) (wr : World) : Prop :=
  ∃ (k : Nat) (acc : List Int) (A : Option Addr) (c : Nat), v = .slice A acc.length c ∧ i = .int .i64 (k : Int) ∧ k ≤ ls.length ∧ acc.length ≤ 256 ∧ Hid (acc = (ls.take k).flatten) ∧ wr.ownsRow W.heap.size 21 1 (.slice A acc.length c) acc.length (runeVs acc) ∧ Below W.heap.size W wr

set_option maxHeartbeats 4000000 in
set_option maxRecDepth 100000 in
theorem joinW_any (A1 A2 AL : Option Addr) (c1 c2 cl lo : Nat) (a : Al) (l : List ByteArray) (w : World) (hin : AlIn w lo w.heap.size A1 A2 a) (hT : Utf8Tabs 0 1 w) (hsl : Sl 1 vStr w lo w.heap.size AL l) (hn : l.length ≤ 9223372036854775807) :
    Calls Tryd.prog 28 #[.agg #[.slice A1 a.feats.length c1, .slice A2 a.lets.length c2], .slice AL l.length cl] w (StrOut (joinW a l) w) := by
  obtain ⟨i1, hi1, hy0, hy1, hy2⟩ := info_parts rune_info
  have hal : Below w.heap.size w (w.alloc (.cells #[.slice A1 a.feats.length c1, .slice A2 a.lets.length c2] 25)) := (Below.refl _ _).alloc (Nat.le_refl _) _
  have hcall := Lib.hid (all_words A1 A2 AL c1 c2 cl lo a l _ (hin.on hal) (Utf8Tabs_below hT hal) ((hsl.below vStr_good hal (Nat.le_refl _)).wide vStr_good (Nat.le_refl _) hal.size) hn)
  have HL : Hid (joinW a l = if (allS a l).2 ≠ 0 then (⟨#[]⟩, (allS a l).2) else if 256 < (allS a l).1.flatten.length then (⟨#[]⟩, 9) else (encR (allS a l).1.flatten, 0)) := rfl
  have hlen := allS_len a l
  generalize allS a l = R at *
  generalize joinW a l = J at *
  obtain ⟨ls, E⟩ := R
  simp only at hlen HL
  go_enter Tryd.func28, Tryd.ntmps28
  go_wp2_with fail
  refine hcall.out.mono ?_
  rintro e w1 ⟨mv, v, vs, rfl, hown1, hrows, _, hb1⟩
  have hbw := hal.trans (hb1.mono (by simp))
  have hz := hbw.size
  clear hcall hal hb1
  simp only at hown1 hrows
  by_cases hE : E = 0
  · subst hE
    have HF : Hid (J = if 256 < ls.flatten.length then (⟨#[]⟩, 9) else (encR ls.flatten, 0)) := by show _ = _; rw [HL.out, if_neg (by simp)]
    clear HL
    simp only
    obtain ⟨AV, cv, rfl, hcl, hcm⟩ := own_form hown1
    have hlm : ls.length ≤ 9223372036854775807 := by unfold maxLen at hcm; omega
    have hst : JoinSt ls w1 (.slice none 0 0) (.int .i64 0) w1 := ⟨0, [], none, 0, rfl, rfl, by omega, by simp, rfl, World.ownsRow_nil _ _ _ _, Below.refl _ _⟩
    have HST := Lib.hid hst
    clear hst
    go_wp2_with fail
    go_loopw [9, 24] (fun v i wr => JoinSt ls w1 v i wr) (fun _ i _ => ls.length - (intOf i).toNat)
    case atStart => exact HST.out
    case round =>
      clear HST
      obtain ⟨k, acc, A, c, rfl, rfl, hk, h256, hacc, hown, hb⟩ := hrel
      have hbs := hb.size
      by_cases hlt : k < ls.length
      · obtain ⟨B, d, hv, hox⟩ := hrows.2 k hlt
        obtain ⟨g, cg, e, _⟩ := own_pos hown1 (by omega)
        injection e with e1 _ e2
        subst e1 e2
        obtain ⟨z0, z1⟩ := own_cel (own_below hown1 hb) hv
        have hoxr := own_below hox hb
        have hx64 := hlen ls[k] (List.getElem_mem hlt)
        have hacc2 : acc ++ ls[k] = (ls.take (k + 1)).flatten := by rw [flatten_take hlt, ← hacc.out]
        have hgw : g < wr.heap.size := by
          obtain ⟨g', c', e, _, _, _, h2⟩ := own_pos (own_below hown1 hb) (by omega)
          injection e with e
          injection e with e
          injection e with e
          omega
        generalize ls[k] = x at *
        have HACC := Lib.hid hacc2
        clear hacc2 hlen
        rcases Nat.eq_zero_or_pos x.length with hx0 | hx0
        · have hx : x = [] := List.eq_nil_of_length_eq_zero hx0
          subst hx
          have hb5 := hb
          have hown5 := hown
          have hnc : acc.length ≤ c := by
            obtain ⟨A', c', e, h1, _⟩ := own_form hown
            injection e with _ _ e3
            omega
          have eacc : acc ++ ([] : List Int) = acc := List.append_nil _
          have hacc3 := HACC.out
          rw [eacc] at hacc3
          have hfin : JoinSt ls w1 (.slice A acc.length c) (.int .i64 ((k : Int) + 1)) wr := ⟨k + 1, acc, _, _, rfl, by simp, by omega, by omega, hacc3, hown5, hb5⟩
          have HFIN := Lib.hid hfin
          have hbi : ¬ 256 < ((acc).length : Int) := by omega
          clear hfin hown5 hown hacc hacc3 hoxr hox hown1 hrows hv eacc HACC
          simp only [List.length_nil] at z0
          go_wp2_with (at_builtin; refine wpList_append_none rfl _ _ 26 rfl 21 i1 Tryd.underlying26 hi1 (A := A) (B := B) (n := acc.length) (c := c) (d := d) rfl rfl hnc ?_)
          exact ⟨HFIN.out, by simp [intOf]; omega⟩
        · obtain ⟨gb, cb, e, _⟩ := own_pos hoxr hx0
          injection e with e1 _ e2
          subst e1 e2
          have hnews : ∀ j u, (runeVs x)[j]? = some u → wr.cell? ((⟨gb, 0, none⟩ : Addr).add j) = some u := (runes_own hoxr).2 _ rfl
          have hone : ∀ u ∈ runeVs x, u.oneCell' = true := by
            intro u hu
            unfold runeVs at hu
            obtain ⟨y, _, rfl⟩ := List.mem_map.1 hu
            rfl
          have hrl : (runeVs x).length = x.length * 1 := by unfold runeVs; simp
          have h63 : acc.length + x.length ≤ maxLen := by unfold maxLen; omega
          have hby : (acc.length + x.length) * 4 ≤ 140737488355328 := by omega
          have hge := fun j hj => (hown.lt j hj).1
          go_wp2_with (at_builtin; refine wpList_append_lies _ rfl _ _ 26 rfl w1.heap.size 21 i1 (.int .i32 0) 1 4 Tryd.underlying26 hi1 hy0 hy1 hy2 rfl (by decide) (.slice A acc.length c) acc.length (runeVs acc) rfl hown ⟨gb, 0, none⟩ x.length d (runeVs x) rfl hrl hnews hone hx0 h63 hby hbs _ rfl ?_)
          intro g5 cap w5 hown5 hgr5 hat5 hlt5
          have hb5 : Below w1.heap.size w1 w5 := hb.grown hgr5 hbs hge
          have e1 : acc.length + x.length = (acc ++ x).length := by simp
          have e2 : runeVs acc ++ runeVs x = runeVs (acc ++ x) := by unfold runeVs; simp
          rw [e1, e2] at hown5
          rw [e1]
          clear hgr5 hat5 hnews hone e1 e2 hown hoxr hox hacc z0 z1
          by_cases hbig : 256 < (acc ++ x).length
          · have hj : J = (⟨#[]⟩, 9) := by
              rw [HF.out, if_pos]
              have := flatten_le ls (k + 1)
              rw [← HACC.out] at this
              omega
            have HFIN := Lib.hid (StrOut.mk' hj (hbw.trans (hb5.mono hz)))
            have hbi : 256 < ((acc ++ x).length : Int) := by omega
            clear hj hown5
            generalize acc ++ x = acc2 at *
            go_wp2_with fail
            go_ret2
            exact HFIN.out
          · have hfin : JoinSt ls w1 (.slice (some ⟨g5, 0, none⟩) (acc ++ x).length cap) (.int .i64 ((k : Int) + 1)) w5 := ⟨k + 1, acc ++ x, _, _, rfl, by simp, by omega, by omega, HACC.out, hown5, hb5⟩
            have HFIN := Lib.hid hfin
            have hbi : ¬ 256 < ((acc ++ x).length : Int) := by omega
            clear hfin hown5
            generalize acc ++ x = acc2 at *
            go_wp2_with fail
            exact ⟨HFIN.out, by simp [intOf]; omega⟩
      · obtain rfl : k = ls.length := by omega
        have he : acc = ls.flatten := by rw [hacc.out, List.take_length]
        have hconv := conv_runes (P := Tryd.prog) (src := 26) (dst := 9) (n := acc.length) (c := c) Tryd.underlying26 Tryd.underlying21 Tryd.underlying9 (runes_own hown) rfl
        have hfin : StrOut J w (.returned (.tuple #[.string (encR acc), .int .i64 0])) wr := by
          rw [HF.out, ← he, if_neg (by omega)]
          exact ⟨rfl, hbw.trans (hb.mono hz)⟩
        have HFIN := Lib.hid hfin
        clear hfin hown hrows hown1 he hacc
        generalize encR acc = X at *
        go_wp2_with fail
        go_ret2
        exact HFIN.out
  · have hne : (E != 0) = true := by rw [bne_iff_ne]; exact hE
    have HFIN := Lib.hid (StrOut.mk' (show J = (⟨#[]⟩, E) by rw [HL.out, if_pos hE]) hbw)
    clear hown1 hrows hbw HL hE
    simp only
    go_wp2_with fail
    go_ret2
    exact HFIN.out
end Go.Proofs.YtfjccjjdgbkbiaaDoor
namespace Go.Proofs.YtfjccjjdgbkbiaaDoor
open Go.RowKit
set_option linter.unusedVariables false

theorem encB_len (l : List Int) : (encB l).length ≤ 4 * l.length := by
  induction l with
  | nil => simp [encB]
  | cons x l ih =>
    have he : encB (x :: l) = Lib.encodeRune x ++ encB l := by unfold encB; rfl
    have hx : (Lib.encodeRune x).length ≤ 4 := by unfold Lib.encodeRune; rw [List.length_map]; exact (Lib.encodeRuneZ_length _).2
    rw [he, List.length_append, List.length_cons]
    omega
theorem encR_size (l : List Int) : (encR l).size ≤ 4 * l.length := by
  have h := encR_enc l
  have e : (encR l).size = (encR l).data.toList.length := by simp
  rw [e, h]
  exact encB_len l
theorem encR_max {l : List Int} (h : l.length ≤ 256) : (encR l).size ≤ maxLen := by
  have := encR_size l
  unfold maxLen
  omega
section
variable {a : Al} {l m : List Int}
def Lets (a : Al) (l : List Int) : Prop := (∀ x ∈ l, isLet a x = true) ∧ l.length ≤ 64
theorem Lets.take (h : Lets a l) (n : Nat) : Lets a (l.take n) := ⟨fun x hx => h.1 x (List.mem_of_mem_take hx), by have := h.2; rw [List.length_take]; omega⟩
theorem Lets.drop (h : Lets a l) (n : Nat) : Lets a (l.drop n) := ⟨fun x hx => h.1 x (List.mem_of_mem_drop hx), by have := h.2; rw [List.length_drop]; omega⟩
theorem Lets.reverse (h : Lets a l) : Lets a l.reverse := ⟨fun x hx => h.1 x (List.mem_reverse.1 hx), by have := h.2; rw [List.length_reverse]; omega⟩
theorem Lets.append (h : Lets a l) (k : Lets a m) (hn : l.length + m.length ≤ 64) : Lets a (l ++ m) := ⟨fun x hx => (List.mem_append.1 hx).elim (h.1 x) (k.1 x), by rw [List.length_append]; exact hn⟩
theorem Lets.back (hok : alOk a = true) (h : Lets a l) : lettersS a (encR l) = (l, 0) := letters_back hok l h.1 h.2
theorem Lets.turned (hok : alOk a = true) (h : Lets a l) : turnedS a (encR l) = (encR l.reverse, 0) := by
  unfold turnedS
  rw [h.back hok]
  rfl
theorem Lets.text (hok : alOk a = true) (h : Lets a l) : textS a l = (encR l, 0) := by
  unfold textS
  rw [if_neg (by rw [hok]; simp), if_neg (by have := h.2; omega), if_pos (List.all_eq_true.2 h.1)]
theorem Lets.common (hok : alOk a = true) (h : Lets a l) (k : Lets a m) : commonS a (encR l) (encR m) = (commonN l m, 0) := by
  unfold commonS bothS
  rw [h.back hok, k.back hok]
  simp
theorem Lets.part (hok : alOk a = true) (h : Lets a l) (f t : Nat) (h1 : f ≤ t) (h2 : t ≤ l.length) : partW a (encR l) (f : Int) (t : Int) = (encR ((l.drop f).take (t - f)), 0) := by
  unfold partW
  rw [h.back hok, if_neg (by simp), if_neg (by simp only; omega)]
  simp
theorem Lets.join (hok : alOk a = true) (h : Lets a l) (k : Lets a m) : joinW a [encR l, encR m] = (encR (l ++ m), 0) := by
  have e : allS a [encR l, encR m] = ([l, m], 0) := by
    unfold allS
    rw [if_neg (by rw [hok]; simp), if_neg (by simp), allF_ok a _ (by
      intro s hs
      simp only [List.mem_cons, List.not_mem_nil, or_false] at hs
      rcases hs with rfl | rfl
      · rw [h.back hok]
      · rw [k.back hok])]
    simp only [List.map_cons, List.map_nil]
    rw [h.back hok, k.back hok]
  unfold joinW
  rw [e, if_neg (by simp), if_neg (by simp; have := h.2; have := k.2; omega)]
  simp
end
/-- A word that may be: its letters. -/
theorem word_is {a : Al} {s : ByteArray} (h : (lettersS a s).2 = 0) : alOk a = true ∧ Lets a (lettersS a s).1 ∧ s = encR (lettersS a s).1 := by
  refine ⟨?_, ⟨fun x hx => (letters_isLet x hx).2, letters_len a s⟩, (text_back h).symm⟩
  cases hok : alOk a with
  | true => rfl
  | false =>
    unfold lettersS at h
    rw [hok] at h
    simp at h
theorem lets_kin {a : Al} (hok : alOk a = true) {l : List Int} (h : Lets a l) : ∀ x ∈ l, kin .i32 x := by
  intro x hx
  have := isLet_ok hok (h.1 x hx)
  unfold letterOk at this
  have := of_decide_eq_true this
  simp [kin, Lit.wf, IntKind.min, IntKind.max, IntKind.signed, IntKind.bits]
  omega
/-- Letters that a call owns, as a slice of runes. -/
theorem runes_slice {w : World} {base : Nat} {A : Option Addr} {c : Nat} {l : List Int} (h : w.ownsRow base 21 1 (.slice A l.length c) l.length (runeVs l)) (hk : ∀ x ∈ l, kin .i32 x) : Sl 1 (vInt .i32) w base w.heap.size A l := fun hn => by
  obtain ⟨g, c', e, _, _, h1, h2⟩ := own_pos h hn
  injection e with e1 _ e2
  subst e1 e2
  refine ⟨g, 0, rfl, h1, h2, fun i x hx => ⟨[.int .i32 x], rfl, fun j v hj => ?_, rfl, hk x (List.mem_of_getElem? hx)⟩⟩
  match j, hj with
  | 0, hj =>
    simp only [List.getElem?_cons_zero, Option.some.injEq] at hj
    subst hj
    have := own_cel h (j := i) (u := .int .i32 x) (by unfold runeVs; rw [List.getElem?_map, hx]; rfl)
    simpa using this
end Go.Proofs.YtfjccjjdgbkbiaaDoor
namespace Go.Proofs.YtfjccjjdgbkbiaaDoor
open Go.RowKit
open Go.Lib (Utf8Tabs)
set_option linter.unusedVariables false

theorem letters_kin (a : Al) (s : ByteArray) : ∀ x ∈ (lettersS a s).1, kin .i32 x := fun x hx => by
  obtain ⟨hok, hil⟩ := letters_isLet x hx
  have := isLet_ok hok hil
  unfold letterOk at this
  have := of_decide_eq_true this
  simp [kin, Lit.wf, IntKind.min, IntKind.max, IntKind.signed, IntKind.bits]
  omega
noncomputable def rkA (a : Al) : Int → Int := rkF (rankF a.lets a.lets.length)
/-- Two words compared, and the error. -/
noncomputable def cmpS (a : Al) (x y : ByteArray) : Int × Int := if (bothS a x y).2.2 ≠ 0 then (0, (bothS a x y).2.2) else (cmpL (rkA a) (bothS a x y).1 (bothS a x y).2.1, 0)
theorem both_kin (a : Al) (x y : ByteArray) : (∀ z ∈ (bothS a x y).1, kin .i32 z) ∧ ∀ z ∈ (bothS a x y).2.1, kin .i32 z := by
  unfold bothS
  split
  · exact ⟨fun z hz => by simp at hz, fun z hz => by simp at hz⟩
  · split
    · exact ⟨fun z hz => by simp at hz, fun z hz => by simp at hz⟩
    · exact ⟨letters_kin a x, letters_kin a y⟩
def IntOut (r : Int × Int) (W : World) (e : Ending) (w' : World) : Prop := e = .returned (.tuple #[.int .i64 r.1, .int .i64 r.2]) ∧ Below W.heap.size W w'
theorem IntOut.mk' {r : Int × Int} {W w' : World} {x E : Int} (h : r = (x, E)) (hb : Below W.heap.size W w') : IntOut r W (.returned (.tuple #[.int .i64 x, .int .i64 E])) w' := by
  subst h
  exact ⟨rfl, hb⟩
set_option maxHeartbeats 4000000 in
theorem cmp_any (A1 A2 : Option Addr) (c1 c2 lo : Nat) (a : Al) (x y : ByteArray) (w : World) (hin : AlIn w lo w.heap.size A1 A2 a) (hT : Utf8Tabs 0 1 w) (hx : x.size ≤ maxLen) (hy : y.size ≤ maxLen) :
    Calls Tryd.prog 30 #[.agg #[.slice A1 a.feats.length c1, .slice A2 a.lets.length c2], .string x, .string y] w (IntOut (cmpS a x y) w) := by
  have hal : Below w.heap.size w (w.alloc (.cells #[.slice A1 a.feats.length c1, .slice A2 a.lets.length c2] 25)) := (Below.refl _ _).alloc (Nat.le_refl _) _
  have hcall := Lib.hid (both_any A1 A2 c1 c2 lo a x y _ (hin.on hal) (Utf8Tabs_below hT hal) hx hy)
  have HL : Hid (cmpS a x y = if (bothS a x y).2.2 ≠ 0 then (0, (bothS a x y).2.2) else (cmpL (rkA a) (bothS a x y).1 (bothS a x y).2.1, 0)) := rfl
  have hbf := both_facts a x y
  have hkin := both_kin a x y
  generalize bothS a x y = R at *
  generalize cmpS a x y = C at *
  obtain ⟨l, k, E⟩ := R
  simp only at hbf hkin
  have HKIN := Lib.hid hkin
  clear hkin
  go_enter Tryd.func30, Tryd.ntmps30
  go_wp2_with fail
  refine hcall.out.mono ?_
  rintro e w1 ⟨mv, A, c, B, d, rfl, hA, hB, hmp, hb1⟩
  have hbw := hal.trans (hb1.mono (by simp))
  clear hcall hal hb1
  simp only at hA hB hmp
  by_cases hE : E = 0
  · subst hE
    obtain ⟨bm, n, rfl, _, hmap⟩ := hmp rfl
    have HF : Hid (C = (cmpL (rkA a) l k, 0)) := by show _ = _; rw [HL.out]; simp
    have hcon := Lib.hid (compared_any A B c d l k bm n _ w1 hmap (own_rat hA) (own_rat hB) HKIN.out.1 HKIN.out.2 (by omega) (by omega))
    have e1 : cmpL (rkF (rankF a.lets a.lets.length)) l k = cmpL (rkA a) l k := rfl
    rw [e1] at hcon
    generalize cmpL (rkA a) l k = z at *
    have HFIN := Lib.hid (IntOut.mk' HF.out (hbw.alloc hbw.size (.cells #[.map (some bm)] 65)))
    clear HL hA hB hmp hmap e1
    simp only
    go_wp2_with fail
    refine hcon.out.mono ?_
    rintro e w2 ⟨rfl, rfl⟩
    go_wp2_with fail
    go_ret2
    exact HFIN.out
  · have hne : (E != 0) = true := by rw [bne_iff_ne]; exact hE
    have HFIN := Lib.hid (IntOut.mk' (show C = (0, E) by rw [HL.out, if_pos hE]) hbw)
    clear hA hB hbw HL hE hmp
    simp only
    go_wp2_with fail
    go_ret2
    exact HFIN.out
end Go.Proofs.YtfjccjjdgbkbiaaDoor
namespace Go.Proofs.YtfjccjjdgbkbiaaDoor
open Go.RowKit
set_option linter.unusedVariables false

/-- Lists of numbers compared. -/
def cmpZ : List Int → List Int → Int
  | [], [] => 0
  | [], _ :: _ => -1
  | _ :: _, [] => 1
  | x :: l, y :: k => if Lib.compareInt x y ≠ 0 then Lib.compareInt x y else cmpZ l k
theorem cmpL_map (rk : Int → Int) : ∀ l k : List Int, cmpL rk l k = cmpZ (l.map rk) (k.map rk)
  | [], [] => rfl
  | [], _ :: _ => rfl
  | _ :: _, [] => rfl
  | x :: l, y :: k => by simp only [cmpL, List.map_cons, cmpZ, cmpL_map rk l k]
theorem cmpI_cases (x y : Int) : (x < y ∧ Lib.compareInt x y = -1) ∨ (x = y ∧ Lib.compareInt x y = 0) ∨ (y < x ∧ Lib.compareInt x y = 1) := by
  unfold Lib.compareInt
  by_cases h : x < y
  · rw [if_pos h]; exact .inl ⟨h, rfl⟩
  · rw [if_neg h]
    by_cases h2 : y < x
    · rw [if_pos h2]; exact .inr (.inr ⟨h2, rfl⟩)
    · rw [if_neg h2]; exact .inr (.inl ⟨by omega, rfl⟩)
theorem cmpZ_range : ∀ l k : List Int, -1 ≤ cmpZ l k ∧ cmpZ l k ≤ 1
  | [], [] => by decide
  | [], _ :: _ => by simp [cmpZ]
  | _ :: _, [] => by simp [cmpZ]
  | x :: l, y :: k => by
    have := cmpZ_range l k
    rcases cmpI_cases x y with ⟨_, h⟩ | ⟨_, h⟩ | ⟨_, h⟩ <;> simp [cmpZ, h] <;> omega
theorem cmpZ_flip : ∀ l k : List Int, cmpZ k l = - cmpZ l k
  | [], [] => rfl
  | [], _ :: _ => rfl
  | _ :: _, [] => rfl
  | x :: l, y :: k => by
    have ih := cmpZ_flip l k
    rcases cmpI_cases x y with ⟨h1, h⟩ | ⟨h1, h⟩ | ⟨h1, h⟩ <;> rcases cmpI_cases y x with ⟨h2, h'⟩ | ⟨h2, h'⟩ | ⟨h2, h'⟩ <;> first | omega | simp [cmpZ, h, h', ih]
theorem cmpZ_zero : ∀ l k : List Int, cmpZ l k = 0 ↔ l = k
  | [], [] => by simp [cmpZ]
  | [], _ :: _ => by simp [cmpZ]
  | _ :: _, [] => by simp [cmpZ]
  | x :: l, y :: k => by
    have ih := cmpZ_zero l k
    rcases cmpI_cases x y with ⟨h1, h⟩ | ⟨h1, h⟩ | ⟨h1, h⟩
    · have : x ≠ y := by omega
      simp [cmpZ, h, this]
    · subst h1
      simp [cmpZ, h, ih]
    · have : x ≠ y := by omega
      simp [cmpZ, h, this]
theorem cmpZ_trans : ∀ l k j : List Int, cmpZ l k = -1 → cmpZ k j = -1 → cmpZ l j = -1
  | [], k, j, h1, h2 => by
    cases j with
    | nil => cases k <;> simp [cmpZ] at h2
    | cons z j => rfl
  | x :: l, [], j, h1, h2 => by simp [cmpZ] at h1
  | x :: l, y :: k, [], h1, h2 => by simp [cmpZ] at h2
  | x :: l, y :: k, z :: j, h1, h2 => by
    have ih := cmpZ_trans l k j
    rcases cmpI_cases x y with ⟨a1, a⟩ | ⟨a1, a⟩ | ⟨a1, a⟩ <;> rcases cmpI_cases y z with ⟨b1, b⟩ | ⟨b1, b⟩ | ⟨b1, b⟩ <;> rcases cmpI_cases x z with ⟨d1, d⟩ | ⟨d1, d⟩ | ⟨d1, d⟩ <;> first | omega | (simp [cmpZ, a, b, d] at h1 h2 ⊢ <;> first | omega | exact ih h1 h2)
theorem cmpZ_three (l k : List Int) : cmpZ l k = -1 ∨ cmpZ l k = 0 ∨ cmpZ l k = 1 := by have := cmpZ_range l k; omega
section
variable (rk : Int → Int)
theorem cmpL_flip (l k : List Int) : cmpL rk k l = - cmpL rk l k := by rw [cmpL_map, cmpL_map, cmpZ_flip]
theorem cmpL_three (l k : List Int) : cmpL rk l k = -1 ∨ cmpL rk l k = 0 ∨ cmpL rk l k = 1 := by rw [cmpL_map]; exact cmpZ_three _ _
theorem cmpL_trans {l k j : List Int} (h1 : cmpL rk l k = -1) (h2 : cmpL rk k j = -1) : cmpL rk l j = -1 := by rw [cmpL_map] at *; exact cmpZ_trans _ _ _ h1 h2
theorem cmpL_self (l : List Int) : cmpL rk l l = 0 := by rw [cmpL_map]; exact (cmpZ_zero _ _).2 rfl
theorem cmpL_zero_left {l k : List Int} (h : cmpL rk l k = 0) (j : List Int) : cmpL rk l j = cmpL rk k j := by
  rw [cmpL_map] at *
  rw [cmpL_map, (cmpZ_zero _ _).1 h]
theorem swo_cmpL (f : Nat → List Int) : Sort.SWO (ltOf fun i j => cmpL rk (f i) (f j)) where
  irrefl i := by unfold ltOf; simp only [cmpL_self]; rfl
  trans i j k h1 h2 := by
    unfold ltOf at *
    simp only [decide_eq_true_eq] at *
    have a := cmpL_three rk (f i) (f j)
    have b := cmpL_three rk (f j) (f k)
    have := cmpL_trans rk (l := f i) (k := f j) (j := f k) (by omega) (by omega)
    omega
  ntrans i j k h1 h2 := by
    unfold ltOf at *
    simp only [decide_eq_false_iff_not] at *
    intro h3
    have a := cmpL_three rk (f i) (f j)
    have b := cmpL_three rk (f j) (f k)
    have c := cmpL_three rk (f i) (f k)
    have e1 := cmpL_flip rk (f i) (f j)
    have e2 := cmpL_flip rk (f j) (f k)
    have e3 := cmpL_flip rk (f i) (f k)
    rcases a with a | a | a
    · omega
    · have := cmpL_zero_left rk a (f k)
      omega
    · rcases b with b | b | b
      · omega
      · have b' : cmpL rk (f k) (f j) = 0 := by omega
        have := cmpL_zero_left rk b' (f i)
        omega
      · have := cmpL_trans rk (l := f k) (k := f j) (j := f i) (by omega) (by omega)
        omega
end

/-- Each ahead of the next one. -/
def Rows (rk : Int → Int) (l : List (List Int)) : Prop := l.Pairwise fun x y => cmpL rk x y = -1
theorem rows_unique (rk : Int → Int) : ∀ l k : List (List Int), Rows rk l → Rows rk k → (∀ x, x ∈ l ↔ x ∈ k) → l = k
  | [], [], _, _, _ => rfl
  | [], y :: k, _, _, h => by have := (h y).2 (List.mem_cons_self ..); simp at this
  | x :: l, [], _, _, h => by have := (h x).1 (List.mem_cons_self ..); simp at this
  | x :: l, y :: k, hl, hk, h => by
    obtain ⟨h1, h2⟩ := List.pairwise_cons.1 hl
    obtain ⟨h3, h4⟩ := List.pairwise_cons.1 hk
    have hxy : x = y := by
      rcases List.mem_cons.1 ((h x).1 (List.mem_cons_self ..)) with e | hx
      · exact e
      · rcases List.mem_cons.1 ((h y).2 (List.mem_cons_self ..)) with e | hy
        · exact e.symm
        · have a := h1 y hy
          have b := h3 x hx
          have := cmpL_flip rk x y
          omega
    subst hxy
    have hnl : x ∉ l := fun hx => by have := h1 x hx; rw [cmpL_self] at this; omega
    have hnk : x ∉ k := fun hx => by have := h3 x hx; rw [cmpL_self] at this; omega
    rw [rows_unique rk l k h2 h4 fun z => ⟨fun hz => by
      rcases List.mem_cons.1 ((h z).1 (List.mem_cons_of_mem _ hz)) with e | hz'
      · subst e; exact absurd hz hnl
      · exact hz', fun hz => by
      rcases List.mem_cons.1 ((h z).2 (List.mem_cons_of_mem _ hz)) with e | hz'
      · subst e; exact absurd hz hnk
      · exact hz'⟩]
/-- Neighbours that are alike taken once. -/
def onceL : List (List Int) → List (List Int)
  | [] => []
  | [x] => [x]
  | x :: y :: l => if x = y then onceL (y :: l) else x :: onceL (y :: l)
theorem onceL_mem : ∀ (l : List (List Int)) (x : List Int), x ∈ onceL l ↔ x ∈ l
  | [], x => by simp [onceL]
  | [y], x => by simp [onceL]
  | y :: z :: l, x => by
    have ih := onceL_mem (z :: l) x
    unfold onceL
    split
    · rename_i h
      subst h
      rw [ih]
      exact ⟨fun h => List.mem_cons_of_mem _ h, fun h => (List.mem_cons.1 h).elim (fun e => List.mem_cons.2 (Or.inl e)) id⟩
    · rw [List.mem_cons, ih]
      exact List.mem_cons.symm
/-- Of a list that nowhere falls, each once: a row. (Lists that compare as alike are the same.) -/
theorem onceL_rows (rk : Int → Int) : ∀ (l : List (List Int)), l.Pairwise (fun x y => cmpL rk x y ≤ 0) → (∀ x ∈ l, ∀ y ∈ l, cmpL rk x y = 0 → x = y) → Rows rk (onceL l)
  | [], _, _ => List.Pairwise.nil
  | [x], _, _ => List.pairwise_singleton _ _
  | x :: y :: l, h, hz => by
    obtain ⟨h1, h2⟩ := List.pairwise_cons.1 h
    have ih := onceL_rows rk (y :: l) h2 fun a ha b hb => hz a (List.mem_cons_of_mem _ ha) b (List.mem_cons_of_mem _ hb)
    unfold onceL
    split
    · exact ih
    · rename_i hne
      refine List.pairwise_cons.2 ⟨fun z hzm => ?_, ih⟩
      have hzl := (onceL_mem _ z).1 hzm
      have hle := h1 z hzl
      have h3 := cmpL_three rk x z
      by_cases he : cmpL rk x z = 0
      · have exz := hz x (List.mem_cons_self ..) z (List.mem_cons_of_mem _ hzl) he
        subst exz
        exfalso
        rcases List.mem_cons.1 hzl with e | hxl
        · exact hne e
        · have hy1 := h1 y (List.mem_cons_self ..)
          have hy2 := (List.pairwise_cons.1 h2).1 x hxl
          have hf := cmpL_flip rk x y
          exact hne (hz x (List.mem_cons_self ..) y (List.mem_cons_of_mem _ (List.mem_cons_self ..)) (by omega))
      · omega
end Go.Proofs.YtfjccjjdgbkbiaaDoor
