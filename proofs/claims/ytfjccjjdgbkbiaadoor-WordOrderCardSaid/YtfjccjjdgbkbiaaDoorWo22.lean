/- Words compared by the letters' numbers: compared, its closure, slices.CompareFunc. -/
import Derived.Test.YtfjccjjdgbkbiaaDoorWo21
import Derived.Test.YtfjccjjdgbkbiaaDoorSortShelf
namespace Go.Proofs.YtfjccjjdgbkbiaaDoor
open Go.RowKit
set_option linter.unusedVariables false

def rkF (F : Lit → Option Int) (x : Int) : Int := (F (.int .i32 x)).getD 0
/-- Two lists of letters compared by their numbers. -/
def cmpL (rk : Int → Int) : List Int → List Int → Int
  | [], [] => 0
  | [], _ :: _ => -1
  | _ :: _, [] => 1
  | x :: l, y :: k => if Lib.compareInt (rk x) (rk y) ≠ 0 then Lib.compareInt (rk x) (rk y) else cmpL rk l k
theorem cmpI_range (x y : Int) : -1 ≤ Lib.compareInt x y ∧ Lib.compareInt x y ≤ 1 := by unfold Lib.compareInt; split; omega; split <;> omega
def PtrMap (w : World) (b bm n : Nat) (F : Lit → Option Int) : Prop := w.cell? ⟨b, 0, none⟩ = some (.map (some bm)) ∧ MapI Tryd.prog 21 3 .i64 w bm n F
set_option maxHeartbeats 2000000 in
set_option maxRecDepth 100000 in
theorem compared1_any (x y : Int) (b bm n : Nat) (F : Lit → Option Int) (w : World) (hm : PtrMap w b bm n F) (hx : kin .i32 x) (hy : kin .i32 y) :
    Calls Tryd.prog 79 #[.int .i32 x, .int .i32 y, .pointer (some ⟨b, 0, none⟩)] w fun e w' => e = .returned (.int .i64 (Lib.compareInt (rkF F x) (rkF F y))) ∧ w = w' := by
  obtain ⟨hc, hmap⟩ := hm
  have K1 := Lib.hid (key_rune (kin_i32 hx))
  have K2 := Lib.hid (key_rune (kin_i32 hy))
  have hcon : Calls Tryd.prog 80 #[.int .i64 ((F (.int .i32 x)).getD 0), .int .i64 ((F (.int .i32 y)).getD 0)] w fun e w' => e = .returned (.int .i64 (Lib.compareInt (rkF F x) (rkF F y))) ∧ w' = w := AnyG.cmp_Compare_int Tryd.cmpL (rkF F x) (rkF F y) w
  generalize Lib.compareInt (rkF F x) (rkF F y) = R at *
  have HC := Lib.hid hcon
  clear hcon
  go_enter Tryd.func79, Tryd.ntmps79
  go_wp2_with (first | (at_lookup; refine wpList_lookup_mapI (by rfl) _ _ 65 rfl 21 3 .i64 (Maps.int_keyed Tryd.underlying21) Tryd.underlying65 Tryd.underlying3 (zero_int _) bm n F rfl hmap _ _ rfl K1.out ?_) | (at_lookup; refine wpList_lookup_mapI (by rfl) _ _ 65 rfl 21 3 .i64 (Maps.int_keyed Tryd.underlying21) Tryd.underlying65 Tryd.underlying3 (zero_int _) bm n F rfl hmap _ _ rfl K2.out ?_) | (go_at_call 80; refine HC.out.mono ?_; rintro e w' ⟨rfl, rfl⟩))
  go_ret
  exact ⟨rfl, rfl⟩

/-- A row of runes in a block. -/
def RAt (w : World) (A : Option Addr) (l : List Int) : Prop := 0 < l.length → ∃ g, A = some ⟨g, 0, none⟩ ∧ g < w.heap.size ∧ ∀ j x, l[j]? = some x → Cel w g j (.int .i32 x)
theorem own_rat {w : World} {base c : Nat} {A : Option Addr} {l : List Int} (h : w.ownsRow base 21 1 (.slice A l.length c) l.length (runeVs l)) : RAt w A l := fun hn => by
  obtain ⟨g, c', e, _, _, _, h2⟩ := own_pos h hn
  injection e with e1 _ e2
  subst e1 e2
  exact ⟨g, rfl, h2, fun j x hx => own_cel h (by unfold runeVs; rw [List.getElem?_map, hx]; rfl)⟩
theorem RAt.same {w w' : World} {A : Option Addr} {l : List Int} (h : RAt w A l) (hs : w.heap.size ≤ w'.heap.size) (hc : ∀ g, A = some ⟨g, 0, none⟩ → w'.heap[g]? = w.heap[g]?) : RAt w' A l := fun hn => by
  obtain ⟨g, e, h1, h2⟩ := h hn
  refine ⟨g, e, by omega, fun j x hx => ?_⟩
  have h3 := h2 j x hx
  exact ⟨(World.cell?_of_block (a := ⟨g, j, none⟩) (hc g e)).trans h3.1, (World.frozen?_of_block (a := ⟨g, j, none⟩) (hc g e)).trans h3.2⟩
theorem RAt.below {w w' : World} {A : Option Addr} {l : List Int} (h : RAt w A l) (hb : Below w.heap.size w w') : RAt w' A l := fun hn => by
  obtain ⟨g, e, h1, h2⟩ := h hn
  refine ⟨g, e, by have := hb.size; omega, fun j x hx => ?_⟩
  have h3 := h2 j x hx
  exact ⟨(World.cell?_of_block (a := ⟨g, j, none⟩) (hb.block g h1)).trans h3.1, (World.frozen?_of_block (a := ⟨g, j, none⟩) (hb.block g h1)).trans h3.2⟩
theorem RAt.at_ {w : World} {A : Option Addr} {l : List Int} {k : Nat} (h : RAt w A l) (hk : k < l.length) : ∃ g, A = some ⟨g, 0, none⟩ ∧ g < w.heap.size ∧ Cel w g k (.int .i32 l[k]) := by
  obtain ⟨g, e, h1, h2⟩ := h (by omega)
  exact ⟨g, e, h1, h2 k _ (List.getElem?_eq_getElem hk)⟩

theorem cmpL_step {rk : Int → Int} {l k : List Int} {i : Nat} (h1 : i < l.length) (h2 : i < k.length) : cmpL rk (l.drop i) (k.drop i) = if Lib.compareInt (rk l[i]) (rk k[i]) ≠ 0 then Lib.compareInt (rk l[i]) (rk k[i]) else cmpL rk (l.drop (i + 1)) (k.drop (i + 1)) := by
  rw [List.drop_eq_getElem_cons h1, List.drop_eq_getElem_cons h2, cmpL]
theorem cmpL_short {rk : Int → Int} {l k : List Int} {i : Nat} (h1 : i < l.length) (h2 : k.length ≤ i) : cmpL rk (l.drop i) (k.drop i) = 1 := by
  rw [List.drop_eq_getElem_cons h1, List.drop_eq_nil_of_le h2, cmpL]
theorem cmpL_less {rk : Int → Int} {l k : List Int} (h2 : l.length < k.length) : cmpL rk (l.drop l.length) (k.drop l.length) = -1 := by
  rw [List.drop_eq_getElem_cons h2, List.drop_length, cmpL]
theorem cmpL_end {rk : Int → Int} {l k : List Int} (h2 : k.length ≤ l.length) : cmpL rk (l.drop l.length) (k.drop l.length) = 0 := by
  rw [List.drop_eq_nil_of_le h2, List.drop_length, cmpL]
set_option maxHeartbeats 4000000 in
set_option maxRecDepth 100000 in
theorem compareFunc_any (A B : Option Addr) (c d : Nat) (l k : List Int) (b bm n : Nat) (F : Lit → Option Int) (w : World) (hm : PtrMap w b bm n F) (hl : RAt w A l) (hk : RAt w B k) (hkl : ∀ x ∈ l, kin .i32 x) (hkk : ∀ x ∈ k, kin .i32 x) (hml : l.length ≤ 4611686018427387904) (hmk : k.length ≤ 4611686018427387904) :
    Calls Tryd.prog 78 #[.slice A l.length c, .slice B k.length d, .func (.func 79) #[] #[.pointer (some ⟨b, 0, none⟩)]] w fun e w' => e = .returned (.int .i64 (cmpL (rkF F) l k)) ∧ w = w' := by
  have HM := Lib.hid hm
  have HKL := Lib.hid hkl
  have HKK := Lib.hid hkk
  have HL := Lib.hid hl
  have HK := Lib.hid hk
  clear hm hkl hkk hl hk
  have hst0 : Hid (cmpL (rkF F) (l.drop 0) (k.drop 0) = cmpL (rkF F) l k) := by show _ = _; rw [List.drop_zero, List.drop_zero]
  generalize cmpL (rkF F) l k = R at *
  go_enter Tryd.func78, Tryd.ntmps78
  go_wp2_with fail
  go_loop [13] (fun i => ∃ j : Nat, j ≤ l.length ∧ j ≤ k.length ∧ i = .int .i64 (j : Int) ∧ Hid (cmpL (rkF F) (l.drop j) (k.drop j) = R)) (fun i => l.length - (intOf i).toNat)
  case atStart => exact ⟨0, by omega, by omega, rfl, hst0⟩
  case round =>
    obtain ⟨j, hj1, hj2, rfl, hc⟩ := hrel
    clear hst0
    by_cases h1 : j < l.length
    · obtain ⟨g, rfl, hg, ⟨x0, y0⟩⟩ := HL.out.at_ h1
      by_cases h2 : j < k.length
      · obtain ⟨g', rfl, hg', ⟨x1, y1⟩⟩ := HK.out.at_ h2
        have hst := cmpL_step (rk := rkF F) h1 h2
        rw [hc.out] at hst
        have hcon := Lib.hid (compared1_any l[j] k[j] b bm n F w HM.out (HKL.out _ (List.getElem_mem h1)) (HKK.out _ (List.getElem_mem h2)))
        generalize Lib.compareInt (rkF F l[j]) (rkF F k[j]) = C at *
        generalize l[j] = u at *
        generalize k[j] = v at *
        by_cases hC : C = 0
        · subst hC
          have HN : Hid (cmpL (rkF F) (l.drop (j + 1)) (k.drop (j + 1)) = R) := by show _ = _; rw [hst]; simp
          clear hst hc
          go_wp2_with fail
          refine hcon.out.mono ?_
          rintro e w' ⟨rfl, rfl⟩
          go_wp2_with fail
          exact ⟨⟨j + 1, by omega, by omega, by go_num, HN⟩, by simp [intOf]; omega⟩
        · have HN : Hid (R = C) := by show _ = _; rw [hst, if_pos hC]
          have hne : (C != 0) = true := by rw [bne_iff_ne]; exact hC
          clear hst hc hC
          go_wp2_with fail
          refine hcon.out.mono ?_
          rintro e w' ⟨rfl, rfl⟩
          go_wp2_with fail
          go_ret
          exact ⟨by rw [HN.out]; rfl, rfl⟩
      · have hst := cmpL_short (rk := rkF F) h1 (by omega : k.length ≤ j)
        have HN : Hid (R = 1) := by show _ = _; rw [← hc.out, hst]
        have h3 : (k.length : Int) ≤ (j : Int) := by omega
        clear hst hc
        go_wp2_with fail
        go_ret
        exact ⟨by rw [HN.out]; rfl, rfl⟩
    · obtain rfl : j = l.length := by omega
      by_cases h2 : l.length < k.length
      · have hst := cmpL_less (rk := rkF F) h2
        have HN : Hid (R = -1) := by show _ = _; rw [← hc.out, hst]
        clear hst hc
        go_wp2_with fail
        go_ret
        exact ⟨by rw [HN.out]; rfl, rfl⟩
      · have hst := cmpL_end (rk := rkF F) (by omega : k.length ≤ l.length)
        have HN : Hid (R = 0) := by show _ = _; rw [← hc.out, hst]
        clear hst hc
        go_wp2_with fail
        go_ret
        exact ⟨by rw [HN.out]; rfl, rfl⟩
set_option maxHeartbeats 4000000 in
theorem compared_any (A B : Option Addr) (c d : Nat) (l k : List Int) (bm n : Nat) (F : Lit → Option Int) (w : World) (hm : MapI Tryd.prog 21 3 .i64 w bm n F) (hl : RAt w A l) (hk : RAt w B k) (hkl : ∀ x ∈ l, kin .i32 x) (hkk : ∀ x ∈ k, kin .i32 x) (hml : l.length ≤ 4611686018427387904) (hmk : k.length ≤ 4611686018427387904) :
    Calls Tryd.prog 57 #[.map (some bm), .slice A l.length c, .slice B k.length d] w fun e w' => e = .returned (.int .i64 (cmpL (rkF F) l k)) ∧ w.alloc (.cells #[.map (some bm)] 65) = w' := by
  have hal : Below w.heap.size w (w.alloc (.cells #[.map (some bm)] 65)) := (Below.refl _ _).alloc (Nat.le_refl _) _
  have hp : PtrMap (w.alloc (.cells #[.map (some bm)] 65)) w.heap.size bm n F := ⟨((Row.new w 65 [.map (some bm)]).cel (i := 0) rfl).1, hm.below hal hm.lt⟩
  have hcon := Lib.hid (compareFunc_any A B c d l k w.heap.size bm n F _ hp (hl.below hal) (hk.below hal) hkl hkk hml hmk)
  generalize cmpL (rkF F) l k = R at *
  clear hp hm hl hk hkl hkk hal
  go_enter Tryd.func57, Tryd.ntmps57
  go_wp2_with fail
  refine hcon.out.mono ?_
  rintro e w' ⟨rfl, rfl⟩
  go_wp2_with fail
  go_ret
  exact ⟨rfl, rfl⟩
end Go.Proofs.YtfjccjjdgbkbiaaDoor
