/- WordLetters: the statement's walk. A list of words as an answer. The bytes of runes: the model's encoding as the library's words have it. Plain Lean. -/
import Derived.Test.YtfjccjjdgbkbiaaDoorWr16
import Derived.BigRegion
import Derived.Deep.DeepCutAuto
import Derived.Deep.CutBlock
import Derived.Test.YtfjccjjdgbkbiaaDoorWr05
import Derived.Test.YtfjccjjdgbkbiaaDoorProg
import Derived.Test.YtfjccjjdgbkbiaaDoorWr02
import Derived.Lib.RuneBytes
namespace Go.Proofs.YtfjccjjdgbkbiaaDoor
open Go.RowKit
open Go.Lib (Utf8Tabs)
set_option linter.unusedVariables false

/-- A world after the statement's alphabet was boxed at W's end. -/
structure LSt (A1 A2 : Option Addr) (c1 c2 : Nat) (a : Al) (W w : World) : Prop where
  al : AlIn w 0 w.heap.size A1 A2 a
  tabs : Utf8Tabs 0 1 w
  row : Row w W.heap.size 25 [.slice A1 a.feats.length c1, .slice A2 a.lets.length c2]
  below : Below W.heap.size W w
theorem LSt.on {A1 A2 : Option Addr} {c1 c2 : Nat} {a : Al} {W w w' : World} (h : LSt A1 A2 c1 c2 a W w) (hb : Below w.heap.size w w') : LSt A1 A2 c1 c2 a W w' :=
  ⟨h.al.on hb, Utf8Tabs_below h.tabs hb, h.row.below hb h.row.lt, h.below.trans (hb.mono h.below.size)⟩
theorem LSt.new (A1 A2 : Option Addr) (c1 c2 : Nat) (a : Al) (w : World) (hin : AlIn w 0 w.heap.size A1 A2 a) (hT : Utf8Tabs 0 1 w) :
    LSt A1 A2 c1 c2 a w (w.alloc (.cells #[.slice A1 a.feats.length c1, .slice A2 a.lets.length c2] 25)) :=
  have hal : Below w.heap.size w (w.alloc (.cells #[.slice A1 a.feats.length c1, .slice A2 a.lets.length c2] 25)) := (Below.refl _ _).alloc (Nat.le_refl _) _
  ⟨hin.on hal, Utf8Tabs_below hT hal, Row.new w _ _, hal⟩

set_option maxHeartbeats 8000000 in
set_option maxRecDepth 100000 in
theorem letters_walk (A1 A2 L : Option Addr) (c1 c2 c : Nat) (a : Al) (s : ByteArray) (l : List Int) (f t : Int) (w : World) (hin : AlIn w 0 w.heap.size A1 A2 a) (hT : Utf8Tabs 0 1 w)
    (hm : s.size ≤ maxLen) (hsl : Sl 1 (vInt .i32) w 0 w.heap.size L l) (hn : l.length ≤ 9223372036854775807) (hf : i64 f) (ht : i64 t) :
    Calls Tryd.prog 3 #[.agg #[.slice A1 a.feats.length c1, .slice A2 a.lets.length c2], .string s, .slice L l.length c, .int .i64 f, .int .i64 t] w fun e w' => e = .returned (.bool true) ∧ Below w.heap.size w w' := by
  have hs0 := LSt.new A1 A2 c1 c2 a w hin hT
  have hz0 : (w.alloc (.cells #[.slice A1 a.feats.length c1, .slice A2 a.lets.length c2] 25)).heap.size = w.heap.size + 1 := by simp
  have HL1 := Lib.hid (fun (wx : World) (h : LSt A1 A2 c1 c2 a w wx) => letters_any A1 A2 c1 c2 0 a s wx h.al h.tabs hm)
  have HL2 := Lib.hid (fun (wx : World) (h : LSt A1 A2 c1 c2 a w wx) => rletters_any A1 A2 c1 c2 0 a s wx h.al h.tabs hm)
  have HT1 := Lib.hid (fun (wx : World) (h : LSt A1 A2 c1 c2 a w wx) => text_any A1 A2 L c1 c2 c 0 0 a l wx h.al ((hsl.below (vInt_good _) h.below (Nat.le_refl _)).wide (vInt_good _) (Nat.le_refl _) h.below.size) hn)
  have HT2 := Lib.hid (fun (wx : World) (h : LSt A1 A2 c1 c2 a w wx) => rtext_any A1 A2 L c1 c2 c 0 0 a l wx h.al ((hsl.below (vInt_good _) h.below (Nat.le_refl _)).wide (vInt_good _) (Nat.le_refl _) h.below.size) hn)
  have HP1 := Lib.hid (fun (wx : World) (h : LSt A1 A2 c1 c2 a w wx) => wpart_any A1 A2 c1 c2 0 a s f t wx h.al h.tabs hm hf ht)
  have HP2 := Lib.hid (fun (wx : World) (h : LSt A1 A2 c1 c2 a w wx) => rpart_any A1 A2 c1 c2 0 a s f t wx h.al h.tabs hm hf ht)
  have HU1 := Lib.hid (fun (wx : World) (h : LSt A1 A2 c1 c2 a w wx) => turned_any A1 A2 c1 c2 0 a s wx h.al h.tabs hm)
  have HU2 := Lib.hid (fun (wx : World) (h : LSt A1 A2 c1 c2 a w wx) => rturned_any A1 A2 c1 c2 0 a s wx h.al h.tabs hm)
  have HC1 := Lib.hid (fun (wx : World) (h : LSt A1 A2 c1 c2 a w wx) => wcheck_any A1 A2 c1 c2 0 a s wx h.al h.tabs hm)
  have HC2 := Lib.hid (fun (wx : World) (h : LSt A1 A2 c1 c2 a w wx) => rwcheck_any A1 A2 c1 c2 0 a s wx h.al h.tabs hm)
  have hlen := letters_len a s
  generalize lettersS a s = R at *
  generalize textS a l = T at *
  generalize partW a s f t = P at *
  generalize turnedS a s = U at *
  obtain ⟨lx, E⟩ := R
  obtain ⟨T1, TE⟩ := T
  obtain ⟨P1, PE⟩ := P
  obtain ⟨U1, UE⟩ := U
  have HAW := Lib.hid (fun (wx : World) (h : LSt A1 A2 c1 c2 a w wx) => awake_any wx h.tabs)
  clear hin hT hsl
  go_enter Tryd.func3, Tryd.ntmps3
  go_wp2_with fail
  refine (HAW.out _ hs0).mono ?_
  rintro e w1 ⟨rfl, hb1⟩
  have hs1 := hs0.on hb1
  have hl1 := hs1.row.lt
  obtain ⟨hr1, _⟩ := hs1.row.cel (i := 0) rfl
  obtain ⟨hq1, _⟩ := hs1.row.cel (i := 1) rfl
  clear hb1 hs0 HAW
  go_wp2_with fail
  refine (HL1.out _ hs1).mono ?_
  rintro e w2 ⟨X, cx, rfl, hx2, hb2⟩
  have hs2 := hs1.on hb2
  have hl2 := hs2.row.lt
  obtain ⟨hr2, _⟩ := hs2.row.cel (i := 0) rfl
  obtain ⟨hq2, _⟩ := hs2.row.cel (i := 1) rfl
  have HS1 := Lib.hid hs1
  clear hs1 hr1 hq1
  go_wp2_with fail
  refine (HL2.out _ hs2).mono ?_
  rintro e w3 ⟨Y, cy, rfl, hy3, hb3⟩
  have hs3 := hs2.on hb3
  have hl3 := hs3.row.lt
  obtain ⟨hr3, _⟩ := hs3.row.cel (i := 0) rfl
  obtain ⟨hq3, _⟩ := hs3.row.cel (i := 1) rfl
  have hx3 := own_below hx2 hb3
  have hxlt := fun g hg => (hx2.lt g hg).2
  clear hs2 hr2 hq2 hx2
  go_wp2_with fail
  refine (HT1.out _ hs3).mono ?_
  rintro e w4 ⟨rfl, hb4⟩
  have hs4 := hs3.on hb4
  have hl4 := hs4.row.lt
  obtain ⟨hr4, _⟩ := hs4.row.cel (i := 0) rfl
  obtain ⟨hq4, _⟩ := hs4.row.cel (i := 1) rfl
  clear hs3 hr3 hq3
  go_wp2_with fail
  refine (HT2.out _ hs4).mono ?_
  rintro e w5 ⟨rfl, hb5⟩
  have hs5 := hs4.on hb5
  have hl5 := hs5.row.lt
  obtain ⟨hr5, _⟩ := hs5.row.cel (i := 0) rfl
  obtain ⟨hq5, _⟩ := hs5.row.cel (i := 1) rfl
  clear hs4 hr4 hq4
  go_wp2_with fail
  refine (HP1.out _ hs5).mono ?_
  rintro e w6 ⟨rfl, hb6⟩
  have hs6 := hs5.on hb6
  have hl6 := hs6.row.lt
  obtain ⟨hr6, _⟩ := hs6.row.cel (i := 0) rfl
  obtain ⟨hq6, _⟩ := hs6.row.cel (i := 1) rfl
  clear hs5 hr5 hq5
  go_wp2_with fail
  refine (HP2.out _ hs6).mono ?_
  rintro e w7 ⟨rfl, hb7⟩
  have hs7 := hs6.on hb7
  have hl7 := hs7.row.lt
  obtain ⟨hr7, _⟩ := hs7.row.cel (i := 0) rfl
  obtain ⟨hq7, _⟩ := hs7.row.cel (i := 1) rfl
  clear hs6 hr6 hq6
  go_wp2_with fail
  refine (HU1.out _ hs7).mono ?_
  rintro e w8 ⟨rfl, hb8⟩
  have hs8 := hs7.on hb8
  have hl8 := hs8.row.lt
  obtain ⟨hr8, _⟩ := hs8.row.cel (i := 0) rfl
  obtain ⟨hq8, _⟩ := hs8.row.cel (i := 1) rfl
  clear hs7 hr7 hq7
  go_wp2_with fail
  refine (HU2.out _ hs8).mono ?_
  rintro e w9 ⟨rfl, hb9⟩
  have hs9 := hs8.on hb9
  have hl9 := hs9.row.lt
  obtain ⟨hr9, _⟩ := hs9.row.cel (i := 0) rfl
  obtain ⟨hq9, _⟩ := hs9.row.cel (i := 1) rfl
  clear hs8 hr8 hq8
  have hb39 : Below w3.heap.size w3 w9 := hb4.trans ((hb5.trans ((hb6.trans ((hb7.trans ((hb8.trans (hb9.mono hb8.size)).mono hb7.size)).mono hb6.size)).mono hb5.size)).mono hb4.size)
  have hx9 := own_below hx3 hb39
  have hy9 := own_below hy3 hb39
  clear hb4 hb5 hb6 hb7 hb8 hb9 hl4 hl5 hl6 hl7 hl8 hx3 hy3 HT1 HT2 HP1 HP2 HU1 HU2 HL2
  have HC : ∀ wx, Below w9.heap.size w9 wx → wx.cell? ⟨w.heap.size, 0, none⟩ = some (.slice A1 a.feats.length c1) ∧ wx.cell? ⟨w.heap.size, 1, none⟩ = some (.slice A2 a.lets.length c2) := fun wx hx =>
    ⟨((hs9.on hx).row.cel (i := 0) rfl).1, ((hs9.on hx).row.cel (i := 1) rfl).1⟩
  have K1 : ∀ wx, Below w9.heap.size w9 wx → Calls Tryd.prog 18 #[.agg #[.slice A1 a.feats.length c1, .slice A2 a.lets.length c2], .string s] wx fun e w' => e = .returned (.int .i64 E) ∧ Below w9.heap.size w9 w' := by
    intro wx hx
    refine (HC1.out _ (hs9.on hx)).mono ?_
    rintro e w' ⟨rfl, hy⟩
    exact ⟨rfl, hx.trans (hy.mono hx.size)⟩
  have K2 : ∀ wx, Below w9.heap.size w9 wx → Calls Tryd.prog 19 #[.agg #[.slice A1 a.feats.length c1, .slice A2 a.lets.length c2], .string s] wx fun e w' => e = .returned (.int .i64 E) ∧ Below w9.heap.size w9 w' := by
    intro wx hx
    refine (HC2.out _ (hs9.on hx)).mono ?_
    rintro e w' ⟨rfl, hy⟩
    exact ⟨rfl, hx.trans (hy.mono hx.size)⟩
  have K3 : ∀ wx, Below w9.heap.size w9 wx → Calls Tryd.prog 20 #[.slice X lx.length cx, .slice Y lx.length cy] wx fun e w' => e = .returned (.bool true) ∧ Below w9.heap.size w9 w' := by
    intro wx hx
    refine (sameRunes_yes X Y cx cy lx wx (runes_own (own_below hx9 hx)) (runes_own (own_below hy9 hx))).mono ?_
    rintro e w' ⟨rfl, rfl⟩
    exact ⟨rfl, hx⟩
  have HC' := Lib.hid HC
  have K1' := Lib.hid K1
  have K2' := Lib.hid K2
  have K3' := Lib.hid K3
  have HX := Lib.hid hx9
  have HY := Lib.hid hy9
  have HB := Lib.hid hb39
  have HS9 := Lib.hid hs9
  have HXL := Lib.hid hxlt
  have hd : Below w9.heap.size w9 w9.drew := below_drewN (Below.refl _ _) 1
  clear hx9 hy9 hb39 hs9 hxlt HC1 HC2 HC K1 K2 K3
  have t1 : (E == E) = true := by simp
  have t2 : (P1.toList == P1.toList) = true := by simp
  have t3 : (T1.toList == T1.toList) = true := by simp
  go_upto_region 12 with (fail)
  refine wp_region_class (fun wx => Below w9.heap.size w9 wx) (by kernel_rfl) (by kernel_rfl) hd ?_
  repeat (first
    | go_big_quiet_skip
    | (go_big_quiet_want; go_big_quiet_op; first
        | go_big_quiet_on
        | (apply Exists.intro
           refine ⟨fun wx hx => ?_, ?_⟩
           · (first
              | exact rfl
              | (have e1 := (HC'.out wx hx).1; have e2 := (HC'.out wx hx).2; simp only [e1, e2, Result.andThen]; exact ⟨trivial, rfl⟩)
              | (go_at_call 18; with_reducible exact K1'.out wx hx)
              | (go_at_call 19; with_reducible exact K2'.out wx hx)
              | (go_at_call 20; with_reducible exact K3'.out wx hx))
           go_big_quiet_on)))
  refine wpQuiet_nil ?_
  intro w10 hq
  clear hd HC' K1' K2' K3' t1 t2 t3 hr9 hq9
  have HO : Hid (∃ vs : List Value, vs.length = lx.length ∧ w10.ownsRow w1.heap.size 21 1 (.slice X lx.length cx) lx.length vs) := ⟨_, by unfold runeVs; rw [List.length_map], own_below HX.out hq⟩
  go_wp2_with fail
  go_loopw [29] (fun i wr => ∃ k : Nat, k ≤ lx.length ∧ i = .int .i64 (k : Int) ∧ Hid (∃ vs : List Value, vs.length = lx.length ∧ wr.ownsRow w1.heap.size 21 1 (.slice X lx.length cx) lx.length vs) ∧ Hid (Fr (fun g => (Value.slice X lx.length cx).ownBlock = some g) w10 wr)) (fun i _ => lx.length - (intOf i).toNat)
  case atStart => exact ⟨0, by omega, rfl, HO, Fr.refl _ _⟩
  case round =>
    obtain ⟨k, hk, rfl, hO, hF⟩ := hrel
    by_cases hlt : k < lx.length
    · obtain ⟨vs, hvl, hown⟩ := hO.out
      obtain ⟨g, c', e, _⟩ := own_pos hown (by omega)
      injection e with e1 _ e2
      subst e1 e2
      obtain ⟨q1, f1⟩ := own_cel hown (j := k) (u := vs[k]) (List.getElem?_eq_getElem (by omega))
      have h1 := own_set hown (g := g) rfl (j := k) (by omega) (.int .i32 122)
      have HN : Hid (∃ vs : List Value, vs.length = lx.length ∧ (wr.setCell ⟨g, k, none⟩ (.int .i32 122)).ownsRow w1.heap.size 21 1 (.slice (some ⟨g, 0, none⟩) lx.length cx) lx.length vs) := ⟨_, by rw [List.length_set, hvl], h1⟩
      have HG : Hid (Fr (fun b => (Value.slice (some ⟨g, 0, none⟩) lx.length cx).ownBlock = some b) w10 (wr.setCell ⟨g, k, none⟩ (.int .i32 122))) := hF.out.setc _ _ (fun _ => rfl)
      clear h1 hown HX HXL HO
      generalize vs[k] = v0 at *
      have b1 : (k : Int) < (lx.length : Int) := by omega
      have b2 : 0 ≤ (k : Int) := by omega
      go_wp2_with fail
      exact ⟨⟨k + 1, by omega, by go_num, HN, HG⟩, by simp [intOf]; omega⟩
    · obtain rfl : k = lx.length := by omega
      have hb13 : Below w1.heap.size w1 w10 := hb2.trans ((hb3.trans ((HB.out.trans (hq.mono HB.out.size)).mono hb3.size)).mono hb2.size)
      have hge := fun g hg => (HX.out.lt g hg).1
      have hbr : Below w1.heap.size w1 wr := hb13.trans (hF.out.below (fun b hb => hge b hb) hb13.size)
      have hsr := HS1.out.on hbr
      have hyr := own_fr (own_below HY.out hq) hF.out (fun g hg h => by
        have h1 := (HY.out.lt g hg).1
        have h2 := HXL.out g h
        omega)
      have HYR := Lib.hid hyr
      have hl := hsr.row.lt
      obtain ⟨hr1, _⟩ := hsr.row.cel (i := 0) rfl
      obtain ⟨hr2, _⟩ := hsr.row.cel (i := 1) rfl
      clear hyr hge hb13 hbr hO hF HO HY HX HXL hq hb2 hb3 HB HS9
      go_wp2_with fail
      refine (HL1.out _ hsr).mono ?_
      rintro e w12 ⟨Z, cz, rfl, hz, hb12⟩
      have hse := hsr.on hb12
      have HS := Lib.hid (sameRunes_yes Z Y cz cy lx w12 (runes_own hz) (runes_own (own_below HYR.out hb12)))
      have HF := Lib.hid hse.below
      clear hz hb12 hse hsr hr1 hr2 HYR
      go_wp2_with fail
      refine HS.out.mono ?_
      rintro e w13 ⟨rfl, rfl⟩
      go_wp2_with fail
      go_ret
      exact ⟨rfl, HF.out⟩
end Go.Proofs.YtfjccjjdgbkbiaaDoor
namespace Go.Proofs.YtfjccjjdgbkbiaaDoor
open Go.RowKit
def strVs (l : List ByteArray) : List Value := l.map Value.string
def StrsOut (r : List ByteArray × Int) (W : World) (e : Ending) (w' : World) : Prop :=
  ∃ A c, e = .returned (.tuple #[.slice A r.1.length c, .int .i64 r.2]) ∧ w'.ownsRow W.heap.size 9 1 (.slice A r.1.length c) r.1.length (strVs r.1) ∧ Below W.heap.size W w'
theorem StrsOut.no {r : List ByteArray × Int} {E : Int} {W w' : World} (h : r = ([], E)) (hb : Below W.heap.size W w') : StrsOut r W (.returned (.tuple #[.slice none 0 0, .int .i64 E])) w' := by
  subst h
  exact ⟨none, 0, rfl, World.ownsRow_nil _ _ _ _, hb⟩
def IntOut (r : Int × Int) (W : World) (e : Ending) (w' : World) : Prop := e = .returned (.tuple #[.int .i64 r.1, .int .i64 r.2]) ∧ Below W.heap.size W w'
end Go.Proofs.YtfjccjjdgbkbiaaDoor
namespace Go.Proofs.YtfjccjjdgbkbiaaDoor
open Go.Lib
set_option linter.unusedVariables false

theorem u8_eq {a b : Nat} (h : a % 256 = b % 256) : UInt8.ofNat a = UInt8.ofNat b := by
  apply UInt8.toNat_inj.1
  simpa using h
theorem u8_of {a : Nat} {x : Int} (h : (a : Int) = x) : UInt8.ofNat a = x.toNat.toUInt8 := by
  subst h
  rfl
theorem ba1 {a c : UInt8} (h : a = c) : (⟨#[a]⟩ : ByteArray) = ⟨[c].toArray⟩ := by subst h; rfl
theorem ba2 {a b c d : UInt8} (h : a = c) (k : b = d) : (⟨#[a, b]⟩ : ByteArray) = ⟨[c, d].toArray⟩ := by subst h k; rfl
theorem ba3 {a b c d x y : UInt8} (h : a = c) (k : b = d) (m : x = y) : (⟨#[a, b, x]⟩ : ByteArray) = ⟨[c, d, y].toArray⟩ := by subst h k m; rfl
theorem ba4 {a b c d x y u v : UInt8} (h : a = c) (k : b = d) (m : x = y) (n : u = v) : (⟨#[a, b, x, u]⟩ : ByteArray) = ⟨[c, d, y, v].toArray⟩ := by subst h k m n; rfl
theorem encode_eq (r : Int) : Utf8.encode r = ⟨(encodeRune r).toArray⟩ := by
  unfold encodeRune
  by_cases hv : (0 ≤ r ∧ r < 55296) ∨ (57344 ≤ r ∧ r ≤ 1114111)
  · have e : Utf8.valid r = true := by unfold Utf8.valid; simp; omega
    unfold Utf8.encode
    simp only [e, if_true]
    obtain ⟨n, rfl⟩ : ∃ n : Nat, r = n := ⟨r.toNat, by omega⟩
    simp only [Int.toNat_natCast]
    by_cases h1 : n < 128
    · rw [if_pos h1, encodeRuneZ_one (by omega) (by omega)]
      exact ba1 (u8_of (by omega))
    · by_cases h2 : n < 2048
      · rw [if_neg h1, if_pos h2, encodeRuneZ_two (by omega) (by omega)]
        exact ba2 (u8_of (by omega)) (u8_of (by omega))
      · by_cases h3 : n < 65536
        · rw [if_neg h1, if_neg h2, if_pos h3, encodeRuneZ_three (by omega)]
          exact ba3 (u8_of (by omega)) (u8_of (by omega)) (u8_of (by omega))
        · rw [if_neg h1, if_neg h2, if_neg h3, encodeRuneZ_four (by omega) (by omega)]
          exact ba4 (u8_of (by omega)) (u8_of (by omega)) (u8_of (by omega)) (u8_of (by omega))
  · have e : Utf8.valid r = false := by unfold Utf8.valid; simp; omega
    unfold Utf8.encode
    simp only [e, Bool.false_eq_true, if_false]
    rw [encodeRuneZ_bad (by omega)]
    rfl
theorem encode_list (r : Int) : (Utf8.encode r).data.toList = encodeRune r := by rw [encode_eq]
/-- What runs of runes are as bytes. -/
def encB (l : List Int) : List UInt8 := l.flatMap encodeRune
theorem enc_list (l : List Pc) : (enc l).data.toList = encB (l.map (·.rune)) := by
  induction l with
  | nil => rfl
  | cons p l ih =>
    rw [enc_cons, ByteArray.data_append, Array.toList_append, ih, encode_list]
    rfl
theorem enc_size (l : List Pc) : (enc l).size ≤ 4 * l.length := by
  induction l with
  | nil => simp [enc]
  | cons p l ih =>
    have h := (encodeRuneZ_length p.rune).2
    rw [enc_cons, ByteArray.size_append, List.length_cons, encode_eq]
    have : (⟨(encodeRune p.rune).toArray⟩ : ByteArray).size = (encodeRuneZ p.rune).length := by
      show (encodeRune p.rune).toArray.size = _
      simp [encodeRune]
    omega
theorem ext_list (s : ByteArray) (a b : Nat) : (s.extract a b).data.toList = (s.data.toList.take b).drop a := by
  simp [ByteArray.data_extract, Array.toList_extract, List.extract_eq_take_drop, List.drop_take]
end Go.Proofs.YtfjccjjdgbkbiaaDoor
