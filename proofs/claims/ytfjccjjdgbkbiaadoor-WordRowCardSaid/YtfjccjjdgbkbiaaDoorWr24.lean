/- append of a slice without elements gives the slice back. word.Join. What WordParts asks, of letters. Plain Lean. Is a word in a list; rows of strings. -/
import Derived.Test.YtfjccjjdgbkbiaaDoorWr01
import Derived.Test.YtfjccjjdgbkbiaaDoorWr23
import Derived.Test.YtfjccjjdgbkbiaaDoorWr22
import Derived.Test.YtfjccjjdgbkbiaaDoorWr17
namespace Go.Proofs.YtfjccjjdgbkbiaaDoor
open Go.RowKit
set_option linter.unusedVariables false
section
variable {P : Program} {w : World}
theorem run_append_none {A B : Option Addr} {n c d : Nat} (t ty e : TypeId) (i : TypeInfo) (ht : P.underlying t = some (.slice e)) (hi0 : P.info? e = some i) (hnc : n ≤ c) :
    (Builtin.append_ #[t, t] ty #[.slice A n c, .slice B 0 d]).run P w = .ok (.slice A n c) w := by
  cases A <;> cases B <;> simp [Builtin.append_, run_underlying ht, sizeOf, typeInfo, hi0, Builtin.lenOf, Builtin.firstCells, hnc, loadCells, loadCellsFrom, storeCells, Sem.run_pure, Result.andThen]
theorem wpList_append_none {ops : Array Oper} {rest : List Oper} {o : Oper} {a : Act} {Q : Exit → Act → World → Prop} (hgd : o.guard = none) (s x : Operand) (t : TypeId)
    (ho : o.op = .call { callee := .builtin .append, args := #[s, x], argTypes := #[t, t] }) (e : TypeId) (i : TypeInfo) (ht : P.underlying t = some (.slice e)) (hi0 : P.info? e = some i)
    {A B : Option Addr} {n c d : Nat} (hs : a.eval s = .slice A n c) (hx : a.eval x = .slice B 0 d) (hnc : n ≤ c)
    (hk : ∀ v, v = Value.slice A n c → wpList P ops Q rest (a.put o.dst v) w) : wpList P ops Q (o :: rest) a w := by
  refine wpList_plain hgd fun K hK => ?_
  have hr := run_append_none (P := P) (w := w) (A := A) (B := B) (n := n) (c := c) (d := d) t o.type e i ht hi0 hnc
  unfold Oper.wp execOp
  simp only [ho, resolve, invoke, builtin, Sem.run_bind, Sem.run_pure, Result.andThen_ok, List.map_toArray, List.map_cons, List.map_nil, hs, hx, hr]
  exact hK _ _ (hk _ rfl)
end
end Go.Proofs.YtfjccjjdgbkbiaaDoor
namespace Go.Proofs.YtfjccjjdgbkbiaaDoor
open Go.RowKit
open Go.Lib (Utf8Tabs)
set_option linter.unusedVariables false

def joinW (a : Al) (l : List ByteArray) : ByteArray × Int := if (allS a l).2 ≠ 0 then (⟨#[]⟩, (allS a l).2) else if 256 < (allS a l).1.flatten.length then (⟨#[]⟩, 9) else (encR (allS a l).1.flatten, 0)
theorem allF_len (a : Al) : ∀ l : List ByteArray, ∀ x ∈ (allF a l).1, x.length ≤ 64
  | [], x, hx => by simp [allF] at hx
  | s :: r, x, hx => by
    unfold allF at hx
    split at hx
    · simp at hx
    · split at hx
      · simp at hx
      · rcases List.mem_cons.1 hx with rfl | hx
        · exact letters_len a s
        · exact allF_len a r x hx
theorem allS_len (a : Al) (l : List ByteArray) : ∀ x ∈ (allS a l).1, x.length ≤ 64 := by
  unfold allS
  split
  · intro x hx; simp at hx
  · split
    · intro x hx; simp at hx
    · exact allF_len a l
theorem flatten_take {ls : List (List Int)} {k : Nat} (h : k < ls.length) : (ls.take (k + 1)).flatten = (ls.take k).flatten ++ ls[k] := by
  rw [List.take_succ_eq_append_getElem h, List.flatten_append]
  simp
theorem flatten_le (ls : List (List Int)) (k : Nat) : (ls.take k).flatten.length ≤ ls.flatten.length := by
  conv => rhs; rw [← List.take_append_drop k ls]
  rw [List.flatten_append, List.length_append]
  omega
def JoinSt (ls : List (List Int)) (W : World) (v i : Value) (wr : World) : Prop :=
  ∃ (k : Nat) (acc : List Int) (A : Option Addr) (c : Nat), v = .slice A acc.length c ∧ i = .int .i64 (k : Int) ∧ k ≤ ls.length ∧ acc.length ≤ 256 ∧ Hid (acc = (ls.take k).flatten) ∧ wr.ownsRow W.heap.size 21 1 (.slice A acc.length c) acc.length (runeVs acc) ∧ Below W.heap.size W wr

set_option maxHeartbeats 4000000 in
set_option maxRecDepth 100000 in
theorem joinW_any (A1 A2 AL : Option Addr) (c1 c2 cl lo : Nat) (a : Al) (l : List ByteArray) (w : World) (hin : AlIn w lo w.heap.size A1 A2 a) (hT : Utf8Tabs 0 1 w) (hsl : Sl 1 vStr w lo w.heap.size AL l) (hn : l.length ≤ 9223372036854775807) :
    Calls Tryd.prog 28 #[.agg #[.slice A1 a.feats.length c1, .slice A2 a.lets.length c2], .slice AL l.length cl] w (StrOut (joinW a l) w) := by
  obtain ⟨i1, hi1, hy0, hy1, hy2⟩ := info_parts rune_info
  have hal : Below w.heap.size w (w.alloc (.cells #[.slice A1 a.feats.length c1, .slice A2 a.lets.length c2] 25)) := (Below.refl _ _).alloc (Nat.le_refl _) _
  have hcall := Lib.hid (all_words A1 A2 AL c1 c2 cl lo a l _ (hin.on hal) (Utf8Tabs_below hT hal) ((hsl.below vStr_good hal (Nat.le_refl _)).wide vStr_good (Nat.le_refl _) hal.size) hn)
  have HL : Hid (joinW a l = if (allS a l).2 ≠ 0 then (⟨#[]⟩, (allS a l).2) else if 256 < (allS a l).1.flatten.length then (⟨#[]⟩, 9) else (encR (allS a l).1.flatten, 0)) := rfl
  have hlen := allS_len a l
  generalize allS a l = R at *
  generalize joinW a l = J at *
  obtain ⟨ls, E⟩ := R
  simp only at hlen HL
  go_enter Tryd.func28, Tryd.ntmps28
  go_wp2_with fail
  refine hcall.out.mono ?_
  rintro e w1 ⟨mv, v, vs, rfl, hown1, hrows, _, hb1⟩
  have hbw := hal.trans (hb1.mono (by simp))
  have hz := hbw.size
  clear hcall hal hb1
  simp only at hown1 hrows
  by_cases hE : E = 0
  · subst hE
    have HF : Hid (J = if 256 < ls.flatten.length then (⟨#[]⟩, 9) else (encR ls.flatten, 0)) := by show _ = _; rw [HL.out, if_neg (by simp)]
    clear HL
    simp only
    obtain ⟨AV, cv, rfl, hcl, hcm⟩ := own_form hown1
    have hlm : ls.length ≤ 9223372036854775807 := by unfold maxLen at hcm; omega
    have hst : JoinSt ls w1 (.slice none 0 0) (.int .i64 0) w1 := ⟨0, [], none, 0, rfl, rfl, by omega, by simp, rfl, World.ownsRow_nil _ _ _ _, Below.refl _ _⟩
    have HST := Lib.hid hst
    clear hst
    go_wp2_with fail
    go_loopw [9, 24] (fun v i wr => JoinSt ls w1 v i wr) (fun _ i _ => ls.length - (intOf i).toNat)
    case atStart => exact HST.out
    case round =>
      clear HST
      obtain ⟨k, acc, A, c, rfl, rfl, hk, h256, hacc, hown, hb⟩ := hrel
      have hbs := hb.size
      by_cases hlt : k < ls.length
      · obtain ⟨B, d, hv, hox⟩ := hrows.2 k hlt
        obtain ⟨g, cg, e, _⟩ := own_pos hown1 (by omega)
        injection e with e1 _ e2
        subst e1 e2
        obtain ⟨z0, z1⟩ := own_cel (own_below hown1 hb) hv
        have hoxr := own_below hox hb
        have hx64 := hlen ls[k] (List.getElem_mem hlt)
        have hacc2 : acc ++ ls[k] = (ls.take (k + 1)).flatten := by rw [flatten_take hlt, ← hacc.out]
        have hgw : g < wr.heap.size := by
          obtain ⟨g', c', e, _, _, _, h2⟩ := own_pos (own_below hown1 hb) (by omega)
          injection e with e
          injection e with e
          injection e with e
          omega
        generalize ls[k] = x at *
        have HACC := Lib.hid hacc2
        clear hacc2 hlen
        rcases Nat.eq_zero_or_pos x.length with hx0 | hx0
        · have hx : x = [] := List.eq_nil_of_length_eq_zero hx0
          subst hx
          have hb5 := hb
          have hown5 := hown
          have hnc : acc.length ≤ c := by
            obtain ⟨A', c', e, h1, _⟩ := own_form hown
            injection e with _ _ e3
            omega
          have eacc : acc ++ ([] : List Int) = acc := List.append_nil _
          have hacc3 := HACC.out
          rw [eacc] at hacc3
          have hfin : JoinSt ls w1 (.slice A acc.length c) (.int .i64 ((k : Int) + 1)) wr := ⟨k + 1, acc, _, _, rfl, by simp, by omega, by omega, hacc3, hown5, hb5⟩
          have HFIN := Lib.hid hfin
          have hbi : ¬ 256 < ((acc).length : Int) := by omega
          clear hfin hown5 hown hacc hacc3 hoxr hox hown1 hrows hv eacc HACC
          simp only [List.length_nil] at z0
          go_wp2_with (at_builtin; refine wpList_append_none rfl _ _ 26 rfl 21 i1 Tryd.underlying26 hi1 (A := A) (B := B) (n := acc.length) (c := c) (d := d) rfl rfl hnc ?_)
          exact ⟨HFIN.out, by simp [intOf]; omega⟩
        · obtain ⟨gb, cb, e, _⟩ := own_pos hoxr hx0
          injection e with e1 _ e2
          subst e1 e2
          have hnews : ∀ j u, (runeVs x)[j]? = some u → wr.cell? ((⟨gb, 0, none⟩ : Addr).add j) = some u := (runes_own hoxr).2 _ rfl
          have hone : ∀ u ∈ runeVs x, u.oneCell' = true := by
            intro u hu
            unfold runeVs at hu
            obtain ⟨y, _, rfl⟩ := List.mem_map.1 hu
            rfl
          have hrl : (runeVs x).length = x.length * 1 := by unfold runeVs; simp
          have h63 : acc.length + x.length ≤ maxLen := by unfold maxLen; omega
          have hby : (acc.length + x.length) * 4 ≤ 140737488355328 := by omega
          have hge := fun j hj => (hown.lt j hj).1
          go_wp2_with (at_builtin; refine wpList_append_lies _ rfl _ _ 26 rfl w1.heap.size 21 i1 (.int .i32 0) 1 4 Tryd.underlying26 hi1 hy0 hy1 hy2 rfl (by decide) (.slice A acc.length c) acc.length (runeVs acc) rfl hown ⟨gb, 0, none⟩ x.length d (runeVs x) rfl hrl hnews hone hx0 h63 hby hbs _ rfl ?_)
          intro g5 cap w5 hown5 hgr5 hat5 hlt5
          have hb5 : Below w1.heap.size w1 w5 := hb.grown hgr5 hbs hge
          have e1 : acc.length + x.length = (acc ++ x).length := by simp
          have e2 : runeVs acc ++ runeVs x = runeVs (acc ++ x) := by unfold runeVs; simp
          rw [e1, e2] at hown5
          rw [e1]
          clear hgr5 hat5 hnews hone e1 e2 hown hoxr hox hacc z0 z1
          by_cases hbig : 256 < (acc ++ x).length
          · have hj : J = (⟨#[]⟩, 9) := by
              rw [HF.out, if_pos]
              have := flatten_le ls (k + 1)
              rw [← HACC.out] at this
              omega
            have HFIN := Lib.hid (StrOut.mk' hj (hbw.trans (hb5.mono hz)))
            have hbi : 256 < ((acc ++ x).length : Int) := by omega
            clear hj hown5
            generalize acc ++ x = acc2 at *
            go_wp2_with fail
            go_ret2
            exact HFIN.out
          · have hfin : JoinSt ls w1 (.slice (some ⟨g5, 0, none⟩) (acc ++ x).length cap) (.int .i64 ((k : Int) + 1)) w5 := ⟨k + 1, acc ++ x, _, _, rfl, by simp, by omega, by omega, HACC.out, hown5, hb5⟩
            have HFIN := Lib.hid hfin
            have hbi : ¬ 256 < ((acc ++ x).length : Int) := by omega
            clear hfin hown5
            generalize acc ++ x = acc2 at *
            go_wp2_with fail
            exact ⟨HFIN.out, by simp [intOf]; omega⟩
      · obtain rfl : k = ls.length := by omega
        have he : acc = ls.flatten := by rw [hacc.out, List.take_length]
        have hconv := conv_runes (P := Tryd.prog) (src := 26) (dst := 9) (n := acc.length) (c := c) Tryd.underlying26 Tryd.underlying21 Tryd.underlying9 (runes_own hown) rfl
        have hfin : StrOut J w (.returned (.tuple #[.string (encR acc), .int .i64 0])) wr := by
          rw [HF.out, ← he, if_neg (by omega)]
          exact ⟨rfl, hbw.trans (hb.mono hz)⟩
        have HFIN := Lib.hid hfin
        clear hfin hown hrows hown1 he hacc
        generalize encR acc = X at *
        go_wp2_with fail
        go_ret2
        exact HFIN.out
  · have hne : (E != 0) = true := by rw [bne_iff_ne]; exact hE
    have HFIN := Lib.hid (StrOut.mk' (show J = (⟨#[]⟩, E) by rw [HL.out, if_pos hE]) hbw)
    clear hown1 hrows hbw HL hE
    simp only
    go_wp2_with fail
    go_ret2
    exact HFIN.out
end Go.Proofs.YtfjccjjdgbkbiaaDoor
namespace Go.Proofs.YtfjccjjdgbkbiaaDoor
open Go.RowKit
set_option linter.unusedVariables false

theorem encB_len (l : List Int) : (encB l).length ≤ 4 * l.length := by
  induction l with
  | nil => simp [encB]
  | cons x l ih =>
    have he : encB (x :: l) = Lib.encodeRune x ++ encB l := by unfold encB; rfl
    have hx : (Lib.encodeRune x).length ≤ 4 := by unfold Lib.encodeRune; rw [List.length_map]; exact (Lib.encodeRuneZ_length _).2
    rw [he, List.length_append, List.length_cons]
    omega
theorem encR_size (l : List Int) : (encR l).size ≤ 4 * l.length := by
  have h := encR_enc l
  have e : (encR l).size = (encR l).data.toList.length := by simp
  rw [e, h]
  exact encB_len l
theorem encR_max {l : List Int} (h : l.length ≤ 256) : (encR l).size ≤ maxLen := by
  have := encR_size l
  unfold maxLen
  omega
section
variable {a : Al} {l m : List Int}
def Lets (a : Al) (l : List Int) : Prop := (∀ x ∈ l, isLet a x = true) ∧ l.length ≤ 64
theorem Lets.take (h : Lets a l) (n : Nat) : Lets a (l.take n) := ⟨fun x hx => h.1 x (List.mem_of_mem_take hx), by have := h.2; rw [List.length_take]; omega⟩
theorem Lets.drop (h : Lets a l) (n : Nat) : Lets a (l.drop n) := ⟨fun x hx => h.1 x (List.mem_of_mem_drop hx), by have := h.2; rw [List.length_drop]; omega⟩
theorem Lets.reverse (h : Lets a l) : Lets a l.reverse := ⟨fun x hx => h.1 x (List.mem_reverse.1 hx), by have := h.2; rw [List.length_reverse]; omega⟩
theorem Lets.append (h : Lets a l) (k : Lets a m) (hn : l.length + m.length ≤ 64) : Lets a (l ++ m) := ⟨fun x hx => (List.mem_append.1 hx).elim (h.1 x) (k.1 x), by rw [List.length_append]; exact hn⟩
theorem Lets.back (hok : alOk a = true) (h : Lets a l) : lettersS a (encR l) = (l, 0) := letters_back hok l h.1 h.2
theorem Lets.turned (hok : alOk a = true) (h : Lets a l) : turnedS a (encR l) = (encR l.reverse, 0) := by
  unfold turnedS
  rw [h.back hok]
  rfl
theorem Lets.text (hok : alOk a = true) (h : Lets a l) : textS a l = (encR l, 0) := by
  unfold textS
  rw [if_neg (by rw [hok]; simp), if_neg (by have := h.2; omega), if_pos (List.all_eq_true.2 h.1)]
theorem Lets.common (hok : alOk a = true) (h : Lets a l) (k : Lets a m) : commonS a (encR l) (encR m) = (commonN l m, 0) := by
  unfold commonS bothS
  rw [h.back hok, k.back hok]
  simp
theorem Lets.part (hok : alOk a = true) (h : Lets a l) (f t : Nat) (h1 : f ≤ t) (h2 : t ≤ l.length) : partW a (encR l) (f : Int) (t : Int) = (encR ((l.drop f).take (t - f)), 0) := by
  unfold partW
  rw [h.back hok, if_neg (by simp), if_neg (by simp only; omega)]
  simp
theorem Lets.join (hok : alOk a = true) (h : Lets a l) (k : Lets a m) : joinW a [encR l, encR m] = (encR (l ++ m), 0) := by
  have e : allS a [encR l, encR m] = ([l, m], 0) := by
    unfold allS
    rw [if_neg (by rw [hok]; simp), if_neg (by simp), allF_ok a _ (by
      intro s hs
      simp only [List.mem_cons, List.not_mem_nil, or_false] at hs
      rcases hs with rfl | rfl
      · rw [h.back hok]
      · rw [k.back hok])]
    simp only [List.map_cons, List.map_nil]
    rw [h.back hok, k.back hok]
  unfold joinW
  rw [e, if_neg (by simp), if_neg (by simp; have := h.2; have := k.2; omega)]
  simp
end
/-- A word that may be: its letters. -/
theorem word_is {a : Al} {s : ByteArray} (h : (lettersS a s).2 = 0) : alOk a = true ∧ Lets a (lettersS a s).1 ∧ s = encR (lettersS a s).1 := by
  refine ⟨?_, ⟨fun x hx => (letters_isLet x hx).2, letters_len a s⟩, (text_back h).symm⟩
  cases hok : alOk a with
  | true => rfl
  | false =>
    unfold lettersS at h
    rw [hok] at h
    simp at h
theorem lets_kin {a : Al} (hok : alOk a = true) {l : List Int} (h : Lets a l) : ∀ x ∈ l, kin .i32 x := by
  intro x hx
  have := isLet_ok hok (h.1 x hx)
  unfold letterOk at this
  have := of_decide_eq_true this
  simp [kin, Lit.wf, IntKind.min, IntKind.max, IntKind.signed, IntKind.bits]
  omega
/-- Letters that a call owns, as a slice of runes. -/
theorem runes_slice {w : World} {base : Nat} {A : Option Addr} {c : Nat} {l : List Int} (h : w.ownsRow base 21 1 (.slice A l.length c) l.length (runeVs l)) (hk : ∀ x ∈ l, kin .i32 x) : Sl 1 (vInt .i32) w base w.heap.size A l := fun hn => by
  obtain ⟨g, c', e, _, _, h1, h2⟩ := own_pos h hn
  injection e with e1 _ e2
  subst e1 e2
  refine ⟨g, 0, rfl, h1, h2, fun i x hx => ⟨[.int .i32 x], rfl, fun j v hj => ?_, rfl, hk x (List.mem_of_getElem? hx)⟩⟩
  match j, hj with
  | 0, hj =>
    simp only [List.getElem?_cons_zero, Option.some.injEq] at hj
    subst hj
    have := own_cel h (j := i) (u := .int .i32 x) (by unfold runeVs; rw [List.getElem?_map, hx]; rfl)
    simpa using this
end Go.Proofs.YtfjccjjdgbkbiaaDoor
namespace Go.Proofs.YtfjccjjdgbkbiaaDoor
open Go.RowKit
set_option linter.unusedVariables false

theorem str_ne {x y : ByteArray} (h : x ≠ y) : (x.toList == y.toList) = false := by
  rw [beq_eq_false_iff_ne]
  intro e
  rw [ByteArray.toList_eq, ByteArray.toList_eq] at e
  exact h (ByteArray.ext (Array.toList_inj.1 e))
/-- Strings that a call owns, as a slice of strings. -/
theorem strs_slice {w : World} {base : Nat} {A : Option Addr} {c : Nat} {l : List ByteArray} (h : w.ownsRow base 9 1 (.slice A l.length c) l.length (strVs l)) (hk : ∀ x ∈ l, x.size ≤ maxLen) : Sl 1 vStr w base w.heap.size A l := fun hn => by
  obtain ⟨g, c', e, _, _, h1, h2⟩ := own_pos h hn
  injection e with e1 _ e2
  subst e1 e2
  refine ⟨g, 0, rfl, h1, h2, fun i x hx => ⟨[.string x], rfl, fun j v hj => ?_, rfl, hk x (List.mem_of_getElem? hx)⟩⟩
  match j, hj with
  | 0, hj =>
    simp only [List.getElem?_cons_zero, Option.some.injEq] at hj
    subst hj
    have := own_cel h (j := i) (u := .string x) (by unfold strVs; rw [List.getElem?_map, hx]; rfl)
    simpa using this
set_option maxHeartbeats 4000000 in
theorem among_yes (A : Option Addr) (c lo hi : Nat) (l : List ByteArray) (s : ByteArray) (w : World) (hsl : Sl 1 vStr w lo hi A l) (hn : l.length ≤ 9223372036854775807) (hs : s ∈ l) :
    Calls Tryd.prog 32 #[.slice A l.length c, .string s] w fun e w' => e = .returned (.bool true) ∧ w = w' := by
  have hst0 : Hid (s ∈ l.drop 0) := by show s ∈ l.drop 0; rw [List.drop_zero]; exact hs
  clear hs
  go_enter Tryd.func32, Tryd.ntmps32
  go_wp2_with fail
  go_loop [5] (fun i => ∃ k : Nat, k ≤ l.length ∧ i = .int .i64 (k : Int) ∧ Hid (s ∈ l.drop k)) (fun i => l.length - (intOf i).toNat)
  case atStart => exact ⟨0, by omega, rfl, hst0⟩
  case round =>
    clear hst0
    obtain ⟨k, hk, rfl, hc⟩ := hrel
    by_cases hlt : k < l.length
    · obtain ⟨b, off, rfl, _, _, ⟨x0, y0⟩, _⟩ := strs_at hsl hlt
      have hst := hc.out
      rw [List.drop_eq_getElem_cons hlt] at hst
      have j1 : (k : Int) < (l.length : Int) := by omega
      have j2 : 0 ≤ (k : Int) := by omega
      generalize l[k] = x at *
      clear hsl hc
      by_cases he : x = s
      · have hd : (x.toList == s.toList) = true := by rw [he]; simp
        clear hst he
        go_wp2_with fail
        go_ret
        exact ⟨rfl, rfl⟩
      · have HN : Hid (s ∈ l.drop (k + 1)) := (List.mem_cons.1 hst).resolve_left fun h => he h.symm
        have hd : (x.toList == s.toList) = false := by exact str_ne he
        clear hst he
        go_wp2_with fail
        exact ⟨⟨k + 1, by omega, by go_num, HN⟩, by simp [intOf]; omega⟩
    · obtain rfl : k = l.length := by omega
      have := hc.out
      rw [List.drop_length] at this
      simp at this
end Go.Proofs.YtfjccjjdgbkbiaaDoor
