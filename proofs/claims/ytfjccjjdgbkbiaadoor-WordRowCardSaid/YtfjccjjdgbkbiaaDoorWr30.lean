/- Words compared by the letters' numbers: compared, its closure, slices.CompareFunc. word.Cmp. Words' row: lists of letters, sorted by their numbers, each once. Plain Lean. -/
import Derived.Test.YtfjccjjdgbkbiaaDoorWr18
import Derived.Test.YtfjccjjdgbkbiaaDoorWr22
import Derived.Test.YtfjccjjdgbkbiaaDoorSortShelf
import Derived.Test.YtfjccjjdgbkbiaaDoorWr17
import Derived.Test.YtfjccjjdgbkbiaaDoorWr24
namespace Go.Proofs.YtfjccjjdgbkbiaaDoor
open Go.RowKit
set_option linter.unusedVariables false

def rkF (F : Lit → Option Int) (x : Int) : Int := (F (.int .i32 x)).getD 0
/-- Two lists of letters compared by their numbers. -/
def cmpL (rk : Int → Int) : List Int → List Int → Int
  | [], [] => 0
  | [], _ :: _ => -1
  | _ :: _, [] => 1
  | x :: l, y :: k => if Lib.compareInt (rk x) (rk y) ≠ 0 then Lib.compareInt (rk x) (rk y) else cmpL rk l k
theorem cmpI_range (x y : Int) : -1 ≤ Lib.compareInt x y ∧ Lib.compareInt x y ≤ 1 := by unfold Lib.compareInt; split; omega; split <;> omega
def PtrMap (w : World) (b bm n : Nat) (F : Lit → Option Int) : Prop := w.cell? ⟨b, 0, none⟩ = some (.map (some bm)) ∧ MapI Tryd.prog 21 3 .i64 w bm n F
set_option maxHeartbeats 2000000 in
set_option maxRecDepth 100000 in
theorem compared1_any (x y : Int) (b bm n : Nat) (F : Lit → Option Int) (w : World) (hm : PtrMap w b bm n F) (hx : kin .i32 x) (hy : kin .i32 y) :
    Calls Tryd.prog 79 #[.int .i32 x, .int .i32 y, .pointer (some ⟨b, 0, none⟩)] w fun e w' => e = .returned (.int .i64 (Lib.compareInt (rkF F x) (rkF F y))) ∧ w = w' := by
  obtain ⟨hc, hmap⟩ := hm
  have K1 := Lib.hid (key_rune (kin_i32 hx))
  have K2 := Lib.hid (key_rune (kin_i32 hy))
  have hcon : Calls Tryd.prog 80 #[.int .i64 ((F (.int .i32 x)).getD 0), .int .i64 ((F (.int .i32 y)).getD 0)] w fun e w' => e = .returned (.int .i64 (Lib.compareInt (rkF F x) (rkF F y))) ∧ w' = w := AnyG.cmp_Compare_int Tryd.cmpL (rkF F x) (rkF F y) w
  generalize Lib.compareInt (rkF F x) (rkF F y) = R at *
  have HC := Lib.hid hcon
  clear hcon
  go_enter Tryd.func79, Tryd.ntmps79
  go_wp2_with (first | (at_lookup; refine wpList_lookup_mapI (by rfl) _ _ 65 rfl 21 3 .i64 (Maps.int_keyed Tryd.underlying21) Tryd.underlying65 Tryd.underlying3 (zero_int _) bm n F rfl hmap _ _ rfl K1.out ?_) | (at_lookup; refine wpList_lookup_mapI (by rfl) _ _ 65 rfl 21 3 .i64 (Maps.int_keyed Tryd.underlying21) Tryd.underlying65 Tryd.underlying3 (zero_int _) bm n F rfl hmap _ _ rfl K2.out ?_) | (go_at_call 80; refine HC.out.mono ?_; rintro e w' ⟨rfl, rfl⟩))
  go_ret
  exact ⟨rfl, rfl⟩

/-- A row of runes in a block. -/
def RAt (w : World) (A : Option Addr) (l : List Int) : Prop := 0 < l.length → ∃ g, A = some ⟨g, 0, none⟩ ∧ g < w.heap.size ∧ ∀ j x, l[j]? = some x → Cel w g j (.int .i32 x)
theorem own_rat {w : World} {base c : Nat} {A : Option Addr} {l : List Int} (h : w.ownsRow base 21 1 (.slice A l.length c) l.length (runeVs l)) : RAt w A l := fun hn => by
  obtain ⟨g, c', e, _, _, _, h2⟩ := own_pos h hn
  injection e with e1 _ e2
  subst e1 e2
  exact ⟨g, rfl, h2, fun j x hx => own_cel h (by unfold runeVs; rw [List.getElem?_map, hx]; rfl)⟩
theorem RAt.same {w w' : World} {A : Option Addr} {l : List Int} (h : RAt w A l) (hs : w.heap.size ≤ w'.heap.size) (hc : ∀ g, A = some ⟨g, 0, none⟩ → w'.heap[g]? = w.heap[g]?) : RAt w' A l := fun hn => by
  obtain ⟨g, e, h1, h2⟩ := h hn
  refine ⟨g, e, by omega, fun j x hx => ?_⟩
  have h3 := h2 j x hx
  exact ⟨(World.cell?_of_block (a := ⟨g, j, none⟩) (hc g e)).trans h3.1, (World.frozen?_of_block (a := ⟨g, j, none⟩) (hc g e)).trans h3.2⟩
theorem RAt.below {w w' : World} {A : Option Addr} {l : List Int} (h : RAt w A l) (hb : Below w.heap.size w w') : RAt w' A l := fun hn => by
  obtain ⟨g, e, h1, h2⟩ := h hn
  refine ⟨g, e, by have := hb.size; omega, fun j x hx => ?_⟩
  have h3 := h2 j x hx
  exact ⟨(World.cell?_of_block (a := ⟨g, j, none⟩) (hb.block g h1)).trans h3.1, (World.frozen?_of_block (a := ⟨g, j, none⟩) (hb.block g h1)).trans h3.2⟩
theorem RAt.at_ {w : World} {A : Option Addr} {l : List Int} {k : Nat} (h : RAt w A l) (hk : k < l.length) : ∃ g, A = some ⟨g, 0, none⟩ ∧ g < w.heap.size ∧ Cel w g k (.int .i32 l[k]) := by
  obtain ⟨g, e, h1, h2⟩ := h (by omega)
  exact ⟨g, e, h1, h2 k _ (List.getElem?_eq_getElem hk)⟩

theorem cmpL_step {rk : Int → Int} {l k : List Int} {i : Nat} (h1 : i < l.length) (h2 : i < k.length) : cmpL rk (l.drop i) (k.drop i) = if Lib.compareInt (rk l[i]) (rk k[i]) ≠ 0 then Lib.compareInt (rk l[i]) (rk k[i]) else cmpL rk (l.drop (i + 1)) (k.drop (i + 1)) := by
  rw [List.drop_eq_getElem_cons h1, List.drop_eq_getElem_cons h2, cmpL]
theorem cmpL_short {rk : Int → Int} {l k : List Int} {i : Nat} (h1 : i < l.length) (h2 : k.length ≤ i) : cmpL rk (l.drop i) (k.drop i) = 1 := by
  rw [List.drop_eq_getElem_cons h1, List.drop_eq_nil_of_le h2, cmpL]
theorem cmpL_less {rk : Int → Int} {l k : List Int} (h2 : l.length < k.length) : cmpL rk (l.drop l.length) (k.drop l.length) = -1 := by
  rw [List.drop_eq_getElem_cons h2, List.drop_length, cmpL]
theorem cmpL_end {rk : Int → Int} {l k : List Int} (h2 : k.length ≤ l.length) : cmpL rk (l.drop l.length) (k.drop l.length) = 0 := by
  rw [List.drop_eq_nil_of_le h2, List.drop_length, cmpL]
set_option maxHeartbeats 4000000 in
set_option maxRecDepth 100000 in
theorem compareFunc_any (A B : Option Addr) (c d : Nat) (l k : List Int) (b bm n : Nat) (F : Lit → Option Int) (w : World) (hm : PtrMap w b bm n F) (hl : RAt w A l) (hk : RAt w B k) (hkl : ∀ x ∈ l, kin .i32 x) (hkk : ∀ x ∈ k, kin .i32 x) (hml : l.length ≤ 4611686018427387904) (hmk : k.length ≤ 4611686018427387904) :
    Calls Tryd.prog 78 #[.slice A l.length c, .slice B k.length d, .func (.func 79) #[] #[.pointer (some ⟨b, 0, none⟩)]] w fun e w' => e = .returned (.int .i64 (cmpL (rkF F) l k)) ∧ w = w' := by
  have HM := Lib.hid hm
  have HKL := Lib.hid hkl
  have HKK := Lib.hid hkk
  have HL := Lib.hid hl
  have HK := Lib.hid hk
  clear hm hkl hkk hl hk
  have hst0 : Hid (cmpL (rkF F) (l.drop 0) (k.drop 0) = cmpL (rkF F) l k) := by show _ = _; rw [List.drop_zero, List.drop_zero]
  generalize cmpL (rkF F) l k = R at *
  go_enter Tryd.func78, Tryd.ntmps78
  go_wp2_with fail
  go_loop [13] (fun i => ∃ j : Nat, j ≤ l.length ∧ j ≤ k.length ∧ i = .int .i64 (j : Int) ∧ Hid (cmpL (rkF F) (l.drop j) (k.drop j) = R)) (fun i => l.length - (intOf i).toNat)
  case atStart => exact ⟨0, by omega, by omega, rfl, hst0⟩
  case round =>
    obtain ⟨j, hj1, hj2, rfl, hc⟩ := hrel
    clear hst0
    by_cases h1 : j < l.length
    · obtain ⟨g, rfl, hg, ⟨x0, y0⟩⟩ := HL.out.at_ h1
      by_cases h2 : j < k.length
      · obtain ⟨g', rfl, hg', ⟨x1, y1⟩⟩ := HK.out.at_ h2
        have hst := cmpL_step (rk := rkF F) h1 h2
        rw [hc.out] at hst
        have hcon := Lib.hid (compared1_any l[j] k[j] b bm n F w HM.out (HKL.out _ (List.getElem_mem h1)) (HKK.out _ (List.getElem_mem h2)))
        generalize Lib.compareInt (rkF F l[j]) (rkF F k[j]) = C at *
        generalize l[j] = u at *
        generalize k[j] = v at *
        by_cases hC : C = 0
        · subst hC
          have HN : Hid (cmpL (rkF F) (l.drop (j + 1)) (k.drop (j + 1)) = R) := by show _ = _; rw [hst]; simp
          clear hst hc
          go_wp2_with fail
          refine hcon.out.mono ?_
          rintro e w' ⟨rfl, rfl⟩
          go_wp2_with fail
          exact ⟨⟨j + 1, by omega, by omega, by go_num, HN⟩, by simp [intOf]; omega⟩
        · have HN : Hid (R = C) := by show _ = _; rw [hst, if_pos hC]
          have hne : (C != 0) = true := by rw [bne_iff_ne]; exact hC
          clear hst hc hC
          go_wp2_with fail
          refine hcon.out.mono ?_
          rintro e w' ⟨rfl, rfl⟩
          go_wp2_with fail
          go_ret
          exact ⟨by rw [HN.out]; rfl, rfl⟩
      · have hst := cmpL_short (rk := rkF F) h1 (by omega : k.length ≤ j)
        have HN : Hid (R = 1) := by show _ = _; rw [← hc.out, hst]
        have h3 : (k.length : Int) ≤ (j : Int) := by omega
        clear hst hc
        go_wp2_with fail
        go_ret
        exact ⟨by rw [HN.out]; rfl, rfl⟩
    · obtain rfl : j = l.length := by omega
      by_cases h2 : l.length < k.length
      · have hst := cmpL_less (rk := rkF F) h2
        have HN : Hid (R = -1) := by show _ = _; rw [← hc.out, hst]
        clear hst hc
        go_wp2_with fail
        go_ret
        exact ⟨by rw [HN.out]; rfl, rfl⟩
      · have hst := cmpL_end (rk := rkF F) (by omega : k.length ≤ l.length)
        have HN : Hid (R = 0) := by show _ = _; rw [← hc.out, hst]
        clear hst hc
        go_wp2_with fail
        go_ret
        exact ⟨by rw [HN.out]; rfl, rfl⟩
set_option maxHeartbeats 4000000 in
theorem compared_any (A B : Option Addr) (c d : Nat) (l k : List Int) (bm n : Nat) (F : Lit → Option Int) (w : World) (hm : MapI Tryd.prog 21 3 .i64 w bm n F) (hl : RAt w A l) (hk : RAt w B k) (hkl : ∀ x ∈ l, kin .i32 x) (hkk : ∀ x ∈ k, kin .i32 x) (hml : l.length ≤ 4611686018427387904) (hmk : k.length ≤ 4611686018427387904) :
    Calls Tryd.prog 57 #[.map (some bm), .slice A l.length c, .slice B k.length d] w fun e w' => e = .returned (.int .i64 (cmpL (rkF F) l k)) ∧ w.alloc (.cells #[.map (some bm)] 65) = w' := by
  have hal : Below w.heap.size w (w.alloc (.cells #[.map (some bm)] 65)) := (Below.refl _ _).alloc (Nat.le_refl _) _
  have hp : PtrMap (w.alloc (.cells #[.map (some bm)] 65)) w.heap.size bm n F := ⟨((Row.new w 65 [.map (some bm)]).cel (i := 0) rfl).1, hm.below hal hm.lt⟩
  have hcon := Lib.hid (compareFunc_any A B c d l k w.heap.size bm n F _ hp (hl.below hal) (hk.below hal) hkl hkk hml hmk)
  generalize cmpL (rkF F) l k = R at *
  clear hp hm hl hk hkl hkk hal
  go_enter Tryd.func57, Tryd.ntmps57
  go_wp2_with fail
  refine hcon.out.mono ?_
  rintro e w' ⟨rfl, rfl⟩
  go_wp2_with fail
  go_ret
  exact ⟨rfl, rfl⟩
end Go.Proofs.YtfjccjjdgbkbiaaDoor
namespace Go.Proofs.YtfjccjjdgbkbiaaDoor
open Go.RowKit
open Go.Lib (Utf8Tabs)
set_option linter.unusedVariables false

theorem letters_kin (a : Al) (s : ByteArray) : ∀ x ∈ (lettersS a s).1, kin .i32 x := fun x hx => by
  obtain ⟨hok, hil⟩ := letters_isLet x hx
  have := isLet_ok hok hil
  unfold letterOk at this
  have := of_decide_eq_true this
  simp [kin, Lit.wf, IntKind.min, IntKind.max, IntKind.signed, IntKind.bits]
  omega
noncomputable def rkA (a : Al) : Int → Int := rkF (rankF a.lets a.lets.length)
/-- Two words compared, and the error. -/
noncomputable def cmpS (a : Al) (x y : ByteArray) : Int × Int := if (bothS a x y).2.2 ≠ 0 then (0, (bothS a x y).2.2) else (cmpL (rkA a) (bothS a x y).1 (bothS a x y).2.1, 0)
theorem both_kin (a : Al) (x y : ByteArray) : (∀ z ∈ (bothS a x y).1, kin .i32 z) ∧ ∀ z ∈ (bothS a x y).2.1, kin .i32 z := by
  unfold bothS
  split
  · exact ⟨fun z hz => by simp at hz, fun z hz => by simp at hz⟩
  · split
    · exact ⟨fun z hz => by simp at hz, fun z hz => by simp at hz⟩
    · exact ⟨letters_kin a x, letters_kin a y⟩
theorem IntOut.mk' {r : Int × Int} {W w' : World} {x E : Int} (h : r = (x, E)) (hb : Below W.heap.size W w') : IntOut r W (.returned (.tuple #[.int .i64 x, .int .i64 E])) w' := by
  subst h
  exact ⟨rfl, hb⟩
set_option maxHeartbeats 4000000 in
theorem cmp_any (A1 A2 : Option Addr) (c1 c2 lo : Nat) (a : Al) (x y : ByteArray) (w : World) (hin : AlIn w lo w.heap.size A1 A2 a) (hT : Utf8Tabs 0 1 w) (hx : x.size ≤ maxLen) (hy : y.size ≤ maxLen) :
    Calls Tryd.prog 30 #[.agg #[.slice A1 a.feats.length c1, .slice A2 a.lets.length c2], .string x, .string y] w (IntOut (cmpS a x y) w) := by
  have hal : Below w.heap.size w (w.alloc (.cells #[.slice A1 a.feats.length c1, .slice A2 a.lets.length c2] 25)) := (Below.refl _ _).alloc (Nat.le_refl _) _
  have hcall := Lib.hid (both_any A1 A2 c1 c2 lo a x y _ (hin.on hal) (Utf8Tabs_below hT hal) hx hy)
  have HL : Hid (cmpS a x y = if (bothS a x y).2.2 ≠ 0 then (0, (bothS a x y).2.2) else (cmpL (rkA a) (bothS a x y).1 (bothS a x y).2.1, 0)) := rfl
  have hbf := both_facts a x y
  have hkin := both_kin a x y
  generalize bothS a x y = R at *
  generalize cmpS a x y = C at *
  obtain ⟨l, k, E⟩ := R
  simp only at hbf hkin
  have HKIN := Lib.hid hkin
  clear hkin
  go_enter Tryd.func30, Tryd.ntmps30
  go_wp2_with fail
  refine hcall.out.mono ?_
  rintro e w1 ⟨mv, A, c, B, d, rfl, hA, hB, hmp, hb1⟩
  have hbw := hal.trans (hb1.mono (by simp))
  clear hcall hal hb1
  simp only at hA hB hmp
  by_cases hE : E = 0
  · subst hE
    obtain ⟨bm, n, rfl, _, hmap⟩ := hmp rfl
    have HF : Hid (C = (cmpL (rkA a) l k, 0)) := by show _ = _; rw [HL.out]; simp
    have hcon := Lib.hid (compared_any A B c d l k bm n _ w1 hmap (own_rat hA) (own_rat hB) HKIN.out.1 HKIN.out.2 (by omega) (by omega))
    have e1 : cmpL (rkF (rankF a.lets a.lets.length)) l k = cmpL (rkA a) l k := rfl
    rw [e1] at hcon
    generalize cmpL (rkA a) l k = z at *
    have HFIN := Lib.hid (IntOut.mk' HF.out (hbw.alloc hbw.size (.cells #[.map (some bm)] 65)))
    clear HL hA hB hmp hmap e1
    simp only
    go_wp2_with fail
    refine hcon.out.mono ?_
    rintro e w2 ⟨rfl, rfl⟩
    go_wp2_with fail
    go_ret2
    exact HFIN.out
  · have hne : (E != 0) = true := by rw [bne_iff_ne]; exact hE
    have HFIN := Lib.hid (IntOut.mk' (show C = (0, E) by rw [HL.out, if_pos hE]) hbw)
    clear hA hB hbw HL hE hmp
    simp only
    go_wp2_with fail
    go_ret2
    exact HFIN.out
end Go.Proofs.YtfjccjjdgbkbiaaDoor
namespace Go.Proofs.YtfjccjjdgbkbiaaDoor
open Go.RowKit
set_option linter.unusedVariables false

/-- Lists of numbers compared. -/
def cmpZ : List Int → List Int → Int
  | [], [] => 0
  | [], _ :: _ => -1
  | _ :: _, [] => 1
  | x :: l, y :: k => if Lib.compareInt x y ≠ 0 then Lib.compareInt x y else cmpZ l k
theorem cmpL_map (rk : Int → Int) : ∀ l k : List Int, cmpL rk l k = cmpZ (l.map rk) (k.map rk)
  | [], [] => rfl
  | [], _ :: _ => rfl
  | _ :: _, [] => rfl
  | x :: l, y :: k => by simp only [cmpL, List.map_cons, cmpZ, cmpL_map rk l k]
theorem cmpI_cases (x y : Int) : (x < y ∧ Lib.compareInt x y = -1) ∨ (x = y ∧ Lib.compareInt x y = 0) ∨ (y < x ∧ Lib.compareInt x y = 1) := by
  unfold Lib.compareInt
  by_cases h : x < y
  · rw [if_pos h]; exact .inl ⟨h, rfl⟩
  · rw [if_neg h]
    by_cases h2 : y < x
    · rw [if_pos h2]; exact .inr (.inr ⟨h2, rfl⟩)
    · rw [if_neg h2]; exact .inr (.inl ⟨by omega, rfl⟩)
theorem cmpZ_range : ∀ l k : List Int, -1 ≤ cmpZ l k ∧ cmpZ l k ≤ 1
  | [], [] => by decide
  | [], _ :: _ => by simp [cmpZ]
  | _ :: _, [] => by simp [cmpZ]
  | x :: l, y :: k => by
    have := cmpZ_range l k
    rcases cmpI_cases x y with ⟨_, h⟩ | ⟨_, h⟩ | ⟨_, h⟩ <;> simp [cmpZ, h] <;> omega
theorem cmpZ_flip : ∀ l k : List Int, cmpZ k l = - cmpZ l k
  | [], [] => rfl
  | [], _ :: _ => rfl
  | _ :: _, [] => rfl
  | x :: l, y :: k => by
    have ih := cmpZ_flip l k
    rcases cmpI_cases x y with ⟨h1, h⟩ | ⟨h1, h⟩ | ⟨h1, h⟩ <;> rcases cmpI_cases y x with ⟨h2, h'⟩ | ⟨h2, h'⟩ | ⟨h2, h'⟩ <;> first | omega | simp [cmpZ, h, h', ih]
theorem cmpZ_zero : ∀ l k : List Int, cmpZ l k = 0 ↔ l = k
  | [], [] => by simp [cmpZ]
  | [], _ :: _ => by simp [cmpZ]
  | _ :: _, [] => by simp [cmpZ]
  | x :: l, y :: k => by
    have ih := cmpZ_zero l k
    rcases cmpI_cases x y with ⟨h1, h⟩ | ⟨h1, h⟩ | ⟨h1, h⟩
    · have : x ≠ y := by omega
      simp [cmpZ, h, this]
    · subst h1
      simp [cmpZ, h, ih]
    · have : x ≠ y := by omega
      simp [cmpZ, h, this]
theorem cmpZ_trans : ∀ l k j : List Int, cmpZ l k = -1 → cmpZ k j = -1 → cmpZ l j = -1
  | [], k, j, h1, h2 => by
    cases j with
    | nil => cases k <;> simp [cmpZ] at h2
    | cons z j => rfl
  | x :: l, [], j, h1, h2 => by simp [cmpZ] at h1
  | x :: l, y :: k, [], h1, h2 => by simp [cmpZ] at h2
  | x :: l, y :: k, z :: j, h1, h2 => by
    have ih := cmpZ_trans l k j
    rcases cmpI_cases x y with ⟨a1, a⟩ | ⟨a1, a⟩ | ⟨a1, a⟩ <;> rcases cmpI_cases y z with ⟨b1, b⟩ | ⟨b1, b⟩ | ⟨b1, b⟩ <;> rcases cmpI_cases x z with ⟨d1, d⟩ | ⟨d1, d⟩ | ⟨d1, d⟩ <;> first | omega | (simp [cmpZ, a, b, d] at h1 h2 ⊢ <;> first | omega | exact ih h1 h2)
theorem cmpZ_three (l k : List Int) : cmpZ l k = -1 ∨ cmpZ l k = 0 ∨ cmpZ l k = 1 := by have := cmpZ_range l k; omega
section
variable (rk : Int → Int)
theorem cmpL_flip (l k : List Int) : cmpL rk k l = - cmpL rk l k := by rw [cmpL_map, cmpL_map, cmpZ_flip]
theorem cmpL_three (l k : List Int) : cmpL rk l k = -1 ∨ cmpL rk l k = 0 ∨ cmpL rk l k = 1 := by rw [cmpL_map]; exact cmpZ_three _ _
theorem cmpL_trans {l k j : List Int} (h1 : cmpL rk l k = -1) (h2 : cmpL rk k j = -1) : cmpL rk l j = -1 := by rw [cmpL_map] at *; exact cmpZ_trans _ _ _ h1 h2
theorem cmpL_self (l : List Int) : cmpL rk l l = 0 := by rw [cmpL_map]; exact (cmpZ_zero _ _).2 rfl
theorem cmpL_zero_left {l k : List Int} (h : cmpL rk l k = 0) (j : List Int) : cmpL rk l j = cmpL rk k j := by
  rw [cmpL_map] at *
  rw [cmpL_map, (cmpZ_zero _ _).1 h]
theorem swo_cmpL (f : Nat → List Int) : Sort.SWO (ltOf fun i j => cmpL rk (f i) (f j)) where
  irrefl i := by unfold ltOf; simp only [cmpL_self]; rfl
  trans i j k h1 h2 := by
    unfold ltOf at *
    simp only [decide_eq_true_eq] at *
    have a := cmpL_three rk (f i) (f j)
    have b := cmpL_three rk (f j) (f k)
    have := cmpL_trans rk (l := f i) (k := f j) (j := f k) (by omega) (by omega)
    omega
  ntrans i j k h1 h2 := by
    unfold ltOf at *
    simp only [decide_eq_false_iff_not] at *
    intro h3
    have a := cmpL_three rk (f i) (f j)
    have b := cmpL_three rk (f j) (f k)
    have c := cmpL_three rk (f i) (f k)
    have e1 := cmpL_flip rk (f i) (f j)
    have e2 := cmpL_flip rk (f j) (f k)
    have e3 := cmpL_flip rk (f i) (f k)
    rcases a with a | a | a
    · omega
    · have := cmpL_zero_left rk a (f k)
      omega
    · rcases b with b | b | b
      · omega
      · have b' : cmpL rk (f k) (f j) = 0 := by omega
        have := cmpL_zero_left rk b' (f i)
        omega
      · have := cmpL_trans rk (l := f k) (k := f j) (j := f i) (by omega) (by omega)
        omega
end

/-- Each ahead of the next one. -/
def Rows (rk : Int → Int) (l : List (List Int)) : Prop := l.Pairwise fun x y => cmpL rk x y = -1
theorem rows_unique (rk : Int → Int) : ∀ l k : List (List Int), Rows rk l → Rows rk k → (∀ x, x ∈ l ↔ x ∈ k) → l = k
  | [], [], _, _, _ => rfl
  | [], y :: k, _, _, h => by have := (h y).2 (List.mem_cons_self ..); simp at this
  | x :: l, [], _, _, h => by have := (h x).1 (List.mem_cons_self ..); simp at this
  | x :: l, y :: k, hl, hk, h => by
    obtain ⟨h1, h2⟩ := List.pairwise_cons.1 hl
    obtain ⟨h3, h4⟩ := List.pairwise_cons.1 hk
    have hxy : x = y := by
      rcases List.mem_cons.1 ((h x).1 (List.mem_cons_self ..)) with e | hx
      · exact e
      · rcases List.mem_cons.1 ((h y).2 (List.mem_cons_self ..)) with e | hy
        · exact e.symm
        · have a := h1 y hy
          have b := h3 x hx
          have := cmpL_flip rk x y
          omega
    subst hxy
    have hnl : x ∉ l := fun hx => by have := h1 x hx; rw [cmpL_self] at this; omega
    have hnk : x ∉ k := fun hx => by have := h3 x hx; rw [cmpL_self] at this; omega
    rw [rows_unique rk l k h2 h4 fun z => ⟨fun hz => by
      rcases List.mem_cons.1 ((h z).1 (List.mem_cons_of_mem _ hz)) with e | hz'
      · subst e; exact absurd hz hnl
      · exact hz', fun hz => by
      rcases List.mem_cons.1 ((h z).2 (List.mem_cons_of_mem _ hz)) with e | hz'
      · subst e; exact absurd hz hnk
      · exact hz'⟩]
/-- Neighbours that are alike taken once. -/
def onceL : List (List Int) → List (List Int)
  | [] => []
  | [x] => [x]
  | x :: y :: l => if x = y then onceL (y :: l) else x :: onceL (y :: l)
theorem onceL_mem : ∀ (l : List (List Int)) (x : List Int), x ∈ onceL l ↔ x ∈ l
  | [], x => by simp [onceL]
  | [y], x => by simp [onceL]
  | y :: z :: l, x => by
    have ih := onceL_mem (z :: l) x
    unfold onceL
    split
    · rename_i h
      subst h
      rw [ih]
      exact ⟨fun h => List.mem_cons_of_mem _ h, fun h => (List.mem_cons.1 h).elim (fun e => List.mem_cons.2 (Or.inl e)) id⟩
    · rw [List.mem_cons, ih]
      exact List.mem_cons.symm
/-- Of a list that nowhere falls, each once: a row. (Lists that compare as alike are the same.) -/
theorem onceL_rows (rk : Int → Int) : ∀ (l : List (List Int)), l.Pairwise (fun x y => cmpL rk x y ≤ 0) → (∀ x ∈ l, ∀ y ∈ l, cmpL rk x y = 0 → x = y) → Rows rk (onceL l)
  | [], _, _ => List.Pairwise.nil
  | [x], _, _ => List.pairwise_singleton _ _
  | x :: y :: l, h, hz => by
    obtain ⟨h1, h2⟩ := List.pairwise_cons.1 h
    have ih := onceL_rows rk (y :: l) h2 fun a ha b hb => hz a (List.mem_cons_of_mem _ ha) b (List.mem_cons_of_mem _ hb)
    unfold onceL
    split
    · exact ih
    · rename_i hne
      refine List.pairwise_cons.2 ⟨fun z hzm => ?_, ih⟩
      have hzl := (onceL_mem _ z).1 hzm
      have hle := h1 z hzl
      have h3 := cmpL_three rk x z
      by_cases he : cmpL rk x z = 0
      · have exz := hz x (List.mem_cons_self ..) z (List.mem_cons_of_mem _ hzl) he
        subst exz
        exfalso
        rcases List.mem_cons.1 hzl with e | hxl
        · exact hne e
        · have hy1 := h1 y (List.mem_cons_self ..)
          have hy2 := (List.pairwise_cons.1 h2).1 x hxl
          have hf := cmpL_flip rk x y
          exact hne (hz x (List.mem_cons_self ..) y (List.mem_cons_of_mem _ (List.mem_cons_self ..)) (by omega))
      · omega
end Go.Proofs.YtfjccjjdgbkbiaaDoor
