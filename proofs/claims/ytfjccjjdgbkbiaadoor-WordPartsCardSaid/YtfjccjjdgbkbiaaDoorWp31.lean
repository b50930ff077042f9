/- WordParts: for every alphabet, two words and a place, a word cut and joined is the word, turned twice it is the word, two joined and turned are both turned with the second one first, and what two begin with alike is the same part of both. Conditions: unicode/utf8's two tables are as their text lays them (the card ties them). -/
import Derived.Test.YtfjccjjdgbkbiaaDoorWp30
import Derived.Test.YtfjccjjdgbkbiaaDoorWp06
import Derived.Test.YtfjccjjdgbkbiaaDoorWp02
import Derived.Test.YtfjccjjdgbkbiaaDoorCards
import Derived.Test.YtfjccjjdgbkbiaaDoorTie
namespace Go.Proofs.YtfjccjjdgbkbiaaDoor
open Go.RowKit
open Go.Lib (Utf8Tabs)
set_option linter.unusedVariables false

set_option maxHeartbeats 8000000 in
set_option maxRecDepth 100000 in
theorem parts_walk (A1 A2 : Option Addr) (c1 c2 : Nat) (a : Al) (s v : ByteArray) (cut : Int) (w : World) (hin : AlIn w 0 w.heap.size A1 A2 a) (hT : Utf8Tabs 0 1 w)
    (hs : s.size ≤ maxLen) (hv : v.size ≤ maxLen) (hcut : i64 cut) :
    Calls Tryd.prog 5 #[.agg #[.slice A1 a.feats.length c1, .slice A2 a.lets.length c2], .string s, .string v, .int .i64 cut] w fun e w' => e = .returned (.bool true) ∧ Below w.heap.size w w' := by
  have hs0 := LSt.new A1 A2 c1 c2 a w hin hT
  have HAW := Lib.hid (fun (wx : World) (h : LSt A1 A2 c1 c2 a w wx) => awake_any wx h.tabs)
  have HL := Lib.hid (fun (x : ByteArray) (hx : x.size ≤ maxLen) (wx : World) (h : LSt A1 A2 c1 c2 a w wx) => letters_any A1 A2 c1 c2 0 a x wx h.al h.tabs hx)
  have HTx := Lib.hid (fun (L : Option Addr) (c : Nat) (l : List Int) (hn : l.length ≤ 9223372036854775807) (wx : World) (h : LSt A1 A2 c1 c2 a w wx) (hsl : Sl 1 (vInt .i32) wx 0 wx.heap.size L l) => text_any A1 A2 L c1 c2 c 0 0 a l wx h.al hsl hn)
  have HTu := Lib.hid (fun (x : ByteArray) (hx : x.size ≤ maxLen) (wx : World) (h : LSt A1 A2 c1 c2 a w wx) => turned_any A1 A2 c1 c2 0 a x wx h.al h.tabs hx)
  have HC := Lib.hid (fun (x y : ByteArray) (hx : x.size ≤ maxLen) (hy : y.size ≤ maxLen) (wx : World) (h : LSt A1 A2 c1 c2 a w wx) => common_any A1 A2 c1 c2 0 a x y wx h.al h.tabs hx hy)
  have HP := Lib.hid (fun (x : ByteArray) (f t : Int) (hx : x.size ≤ maxLen) (hf : i64 f) (ht : i64 t) (wx : World) (h : LSt A1 A2 c1 c2 a w wx) => wpart_any A1 A2 c1 c2 0 a x f t wx h.al h.tabs hx hf ht)
  have HJ := Lib.hid (fun (x y : ByteArray) (hx : x.size ≤ maxLen) (hy : y.size ≤ maxLen) (wx : World) (h : LSt A1 A2 c1 c2 a w wx) =>
    joinW_any A1 A2 (some ⟨wx.heap.size, 0, none⟩) c1 c2 2 0 a [x, y] (wx.alloc (.cells #[.string x, .string y] 9)) (h.on ((Below.refl _ _).alloc (Nat.le_refl _) _)).al (h.on ((Below.refl _ _).alloc (Nat.le_refl _) _)).tabs (two_strs wx x y hx hy) (by simp))
  have hEs := letters_err a s
  have hEv := letters_err a v
  by_cases h1 : (lettersS a s).2 = 0
  · by_cases h2 : (lettersS a v).2 = 0
    · obtain ⟨hok, hl, es⟩ := word_is h1
      obtain ⟨_, hm, ev⟩ := word_is h2
      have hbs := hl.back hok
      have hbm := hm.back hok
      generalize (lettersS a s).1 = l at *
      generalize (lettersS a v).1 = m at *
      subst es ev
      have hn := commonN_le l m
      have hlm := hl.2
      have hmm := hm.2
      have htu := hl.turned hok
      have htx := hm.turned hok
      have hback := hl.reverse.turned hok
      have hcom := hl.common hok hm
      have hp1 := hl.part hok 0 (commonN l m) (Nat.zero_le _) hn.1
      have hp2 := hm.part hok 0 (commonN l m) (Nat.zero_le _) hn.2
      have hj1 := hl.join hok hm
      have hj2 := hm.reverse.join hok hl.reverse
      have htext := hl.text hok
      have hstop := commonN_stop l m
      have htake := commonN_take l m
      rw [List.reverse_reverse] at hback
      rw [List.drop_zero, Nat.sub_zero] at hp1 hp2
      rw [← htake] at hp2
      rw [← List.reverse_append] at hj2
      have z0 : i64 (0 : Int) := by unfold i64; omega
      have zn : i64 ((commonN l m : Nat) : Int) := by unfold i64; omega
      have zl : i64 ((l.length : Nat) : Int) := by unfold i64; omega
      have mu : (encR l.reverse).size ≤ maxLen := encR_max (by rw [List.length_reverse]; omega)
      have mx : (encR m.reverse).size ≤ maxLen := encR_max (by rw [List.length_reverse]; omega)
      have mb : (encR (l ++ m)).size ≤ maxLen := encR_max (by rw [List.length_append]; omega)
      have m1 : (encR (l.take cut.toNat)).size ≤ maxLen := encR_max (by rw [List.length_take]; omega)
      have m2 : (encR (l.drop cut.toNat)).size ≤ maxLen := encR_max (by rw [List.length_drop]; omega)
      refine parts_core A1 A2 c1 c2 a (encR l) (encR m) (encR l.reverse) (encR m.reverse) (encR (l.take (commonN l m))) (encR (l ++ m)) (encR (l ++ m).reverse) (encR (l.take cut.toNat)) (encR (l.drop cut.toNat)) l m (commonN l m) cut w hs0
        (lets_kin hok hl) hlm hmm hn.1 hn.2 hstop hcut HAW ?_ ?_ ?_ ?_ ?_ ?_ ?_ ?_ ?_ ?_ ?_ ?_ ?_ ?_ ?_
      · intro wx h; rw [← hbs]; exact HL.out _ hs wx h
      · intro wx h; rw [← hbm]; exact HL.out _ hv wx h
      · intro L c wx h hsl; rw [← htext]; exact HTx.out L c l (by omega) wx h hsl
      · intro wx h; rw [← htu]; exact HTu.out _ hs wx h
      · intro wx h; rw [← htx]; exact HTu.out _ hv wx h
      · intro wx h; rw [← hback]; exact HTu.out _ mu wx h
      · intro wx h
        have := HC.out _ _ hs hv wx h
        rw [hcom] at this
        exact this
      · intro wx h; rw [← hp1]; exact HP.out _ _ _ hs z0 zn wx h
      · intro wx h; rw [← hp2]; exact HP.out _ _ _ hv z0 zn wx h
      · intro wx h; rw [← hj1]; exact HJ.out _ _ hs hv wx h
      · intro wx h hsm; rw [← (hl.append hm hsm).turned hok]; exact HTu.out _ mb wx h
      · intro wx h hsm; rw [← hj2]; exact HJ.out _ _ mx mu wx h
      · intro wx h h0 h1
        have := hl.part hok 0 cut.toNat (Nat.zero_le _) (by omega)
        rw [Int.toNat_of_nonneg h0, List.drop_zero, Nat.sub_zero] at this
        rw [← this]
        exact HP.out _ _ _ hs z0 hcut wx h
      · intro wx h h0 h1
        have := hl.part hok cut.toNat l.length (by omega) (Nat.le_refl _)
        rw [Int.toNat_of_nonneg h0, List.take_of_length_le (by rw [List.length_drop]; exact Nat.le_refl _)] at this
        rw [← this]
        exact HP.out _ _ _ hs hcut zl wx h
      · intro wx h h0 h1
        have := (hl.take cut.toNat).join hok (hl.drop cut.toNat)
        rw [List.take_append_drop] at this
        rw [← this]
        exact HJ.out _ _ m1 m2 wx h
    · have r1 := Lib.hid (HL.out s hs)
      have r2 := Lib.hid (HL.out v hv)
      generalize lettersS a s = R at *
      generalize lettersS a v = S at *
      obtain ⟨l, E⟩ := R
      obtain ⟨m, F⟩ := S
      simp only at h1 h2
      subst h1
      have hne : (F != 0) = true := by rw [bne_iff_ne]; exact h2
      clear HL HTx HTu HC HP HJ hin hT hs hv h2 hEs hEv
      go_enter Tryd.func5, Tryd.ntmps5
      go_wp2_with fail
      refine (HAW.out _ hs0).mono ?_
      rintro e w1 ⟨rfl, hb1⟩
      have hs1 := hs0.on hb1
      have hl1 := hs1.row.lt
      obtain ⟨hr1, _⟩ := hs1.row.cel (i := 0) rfl
      obtain ⟨hq1, _⟩ := hs1.row.cel (i := 1) rfl
      clear hb1 hs0 HAW
      go_wp2_with fail
      refine (r1.out _ hs1).mono ?_
      rintro e w2 ⟨X, cx, rfl, hx2, hb2⟩
      have hs2 := hs1.on hb2
      have hl2 := hs2.row.lt
      obtain ⟨hr2, _⟩ := hs2.row.cel (i := 0) rfl
      obtain ⟨hq2, _⟩ := hs2.row.cel (i := 1) rfl
      clear hs1 hr1 hq1 hx2
      go_wp2_with fail
      refine (r2.out _ hs2).mono ?_
      rintro e w3 ⟨Y, cy, rfl, hy3, hb3⟩
      have HF := Lib.hid (hs2.on hb3).below
      clear hs2 hr2 hq2 hy3 hb3 hb2
      go_wp2_with fail
      go_ret
      exact ⟨rfl, HF.out⟩
  · have hl0 : (lettersS a s).1 = [] := by rcases hEs with h | ⟨_, _, h⟩; exact absurd h h1; exact h
    have r1 := Lib.hid (HL.out s hs)
    have r2 := Lib.hid (HL.out v hv)
    generalize lettersS a s = R at *
    generalize lettersS a v = S at *
    obtain ⟨l, E⟩ := R
    obtain ⟨m, F⟩ := S
    simp only at h1 hl0
    subst hl0
    have hne : (E != 0) = true := by rw [bne_iff_ne]; exact h1
    have hnq : (E == 0) = false := by rw [beq_eq_false_iff_ne]; exact h1
    clear HL HTx HTu HC HP HJ hin hT hs hv h1 hEs hEv
    go_enter Tryd.func5, Tryd.ntmps5
    go_wp2_with fail
    refine (HAW.out _ hs0).mono ?_
    rintro e w1 ⟨rfl, hb1⟩
    have hs1 := hs0.on hb1
    have hl1 := hs1.row.lt
    obtain ⟨hr1, _⟩ := hs1.row.cel (i := 0) rfl
    obtain ⟨hq1, _⟩ := hs1.row.cel (i := 1) rfl
    clear hb1 hs0 HAW
    go_wp2_with fail
    refine (r1.out _ hs1).mono ?_
    rintro e w2 ⟨X, cx, rfl, hx2, hb2⟩
    have hs2 := hs1.on hb2
    have hl2 := hs2.row.lt
    obtain ⟨hr2, _⟩ := hs2.row.cel (i := 0) rfl
    obtain ⟨hq2, _⟩ := hs2.row.cel (i := 1) rfl
    clear hs1 hr1 hq1 hx2
    go_wp2_with fail
    refine (r2.out _ hs2).mono ?_
    rintro e w3 ⟨Y, cy, rfl, hy3, hb3⟩
    have HF := Lib.hid (hs2.on hb3).below
    clear hs2 hr2 hq2 hy3 hb3 hb2
    go_wp2_with fail
    go_ret
    exact ⟨rfl, HF.out⟩
end Go.Proofs.YtfjccjjdgbkbiaaDoor
namespace Go.Proofs.YtfjccjjdgbkbiaaDoor
open Go.ChangeShapes Go.WideShapes Go.RowKit
set_option linter.unusedVariables false

def tLt : Ty Lt := ⟨3, vLt, fun _ => 4, fun _ => True⟩
set_option maxRecDepth 100000 in
theorem opens_Lt {H : Type} {enc : TypeId × Value → H} {w : World} : Opens enc Tryd.prog w 84 tLt := by
  refine ⟨by kernel_rfl, vLt_good, fun {fuel cs x ps} h hf => ?_⟩
  obtain ⟨ys, n, _, hx, hlen, hyl, hfs⟩ := DataW.trod_struct Tryd.underlying84 h
  have hlen' : cs.length = 3 := hlen.trans (by kernel_rfl)
  match cs, hlen', ys, hyl with
  | [c0, c1, c2], _, [y0, y1, y2], _ =>
    simp only [Prod.mk.injEq] at hx
    obtain ⟨rfl, rfl⟩ := hx
    have g0 := hfs 0 _ rfl
    have g1 := hfs 1 _ rfl
    have g2 := hfs 2 _ rfl
    have o0 := (opens_int Tryd.underlying21 (by kernel_rfl) : Opens enc Tryd.prog w _ _)
    have e0 : Tryd.prog.cellsOf _ = 1 := o0.size
    obtain ⟨a0, ⟨p0, k0⟩, _, m0, _⟩ := o0.cells (cs := [c0]) (x := y0.1) (ps := y0.2) (by simpa [e0] using g0) (fun b o hm => hf b o (List.mem_flatMap.2 ⟨y0, by simp, hm⟩))
    have o1 := (opens_int Tryd.underlying38 (by kernel_rfl) : Opens enc Tryd.prog w _ _)
    have e1 : Tryd.prog.cellsOf _ = 1 := o1.size
    obtain ⟨a1, ⟨p1, k1⟩, _, m1, _⟩ := o1.cells (cs := [c1]) (x := y1.1) (ps := y1.2) (by simpa [e1] using g1) (fun b o hm => hf b o (List.mem_flatMap.2 ⟨y1, by simp, hm⟩))
    obtain ⟨a2, ⟨p2, k2⟩, _, m2, _⟩ := o1.cells (cs := [c2]) (x := y2.1) (ps := y2.2) (by simpa [e1] using g2) (fun b o hm => hf b o (List.mem_flatMap.2 ⟨y2, by simp, hm⟩))
    have k1 := kin_u32 k1
    have k2 := kin_u32 k2
    have n1 : ((a1.toNat : Nat) : Int) = a1 := Int.toNat_of_nonneg k1.1
    have n2 : ((a2.toNat : Nat) : Int) = a2 := Int.toNat_of_nonneg k2.1
    simp only [List.cons.injEq, and_true] at p0 p1 p2
    refine ⟨⟨a0, a1.toNat, a2.toNat⟩, ⟨by rw [p0, p1, p2, n1, n2], k0, by show a1.toNat < _; omega, by show a2.toNat < _; omega⟩, rfl, ?_, fun _ => trivial⟩
    simp only [tLt, tInt, List.map_cons, List.map_nil, Rows.uptoBulk, Rows.uptoBulkAll] at m0 m1 m2 ⊢
    omega

def vAl : Rep Al := fun w lo hi cs x => ∃ c0 c1, cs = [c0, c1] ∧ vSl 1 vStr w lo hi [c0] x.feats ∧ vSl 3 vLt w lo hi [c1] x.lets
theorem vAl_good : vAl.Good :=
  ⟨fun k ⟨c0, c1, e, h0, h1⟩ => ⟨c0, c1, e, (vSl_good vStr_good).keep k h0, (vSl_good vLt_good).keep k h1⟩, fun a b ⟨c0, c1, e, h0, h1⟩ => ⟨c0, c1, e, (vSl_good vStr_good).wide a b h0, (vSl_good vLt_good).wide a b h1⟩⟩
def tAl : Ty Al := ⟨2, vAl, fun x => (tSl 16 tStr).m x.feats + (tSl 12 tLt).m x.lets + 1, fun x => (tSl 16 tStr).Q x.feats ∧ (tSl 12 tLt).Q x.lets⟩
set_option maxRecDepth 100000 in
theorem opens_Al {H : Type} {enc : TypeId × Value → H} {w : World} : Opens enc Tryd.prog w 25 tAl := by
  refine ⟨by kernel_rfl, vAl_good, fun {fuel cs x ps} h hf => ?_⟩
  obtain ⟨ys, n, _, hx, hlen, hyl, hfs⟩ := DataW.trod_struct Tryd.underlying25 h
  have hlen' : cs.length = 2 := hlen.trans (by kernel_rfl)
  match cs, hlen', ys, hyl with
  | [c0, c1], _, [y0, y1], _ =>
    simp only [Prod.mk.injEq] at hx
    obtain ⟨rfl, rfl⟩ := hx
    have g0 := hfs 0 _ rfl
    have g1 := hfs 1 _ rfl
    have o0 : Opens enc Tryd.prog w _ (tSl 16 tStr) := opens_slice Tryd.underlying22 (by kernel_rfl) (by kernel_rfl) (by decide) (opens_str Tryd.underlying9 (by kernel_rfl))
    have e0 : Tryd.prog.cellsOf _ = 1 := o0.size
    obtain ⟨a0, p0, _, m0, q0⟩ := o0.cells (cs := [c0]) (x := y0.1) (ps := y0.2) (by simpa [e0] using g0) (fun b o hm => hf b o (List.mem_flatMap.2 ⟨y0, by simp, hm⟩))
    have o1 : Opens enc Tryd.prog w _ (tSl 12 tLt) := opens_slice Tryd.underlying23 (by kernel_rfl) (by kernel_rfl) (by decide) opens_Lt
    have e1 : Tryd.prog.cellsOf _ = 1 := o1.size
    obtain ⟨a1, p1, _, m1, q1⟩ := o1.cells (cs := [c1]) (x := y1.1) (ps := y1.2) (by simpa [e1] using g1) (fun b o hm => hf b o (List.mem_flatMap.2 ⟨y1, by simp, hm⟩))
    refine ⟨⟨a0, a1⟩, ⟨c0, c1, rfl, p0, p1⟩, rfl, ?_, fun hq => ⟨q0 fun n hn => hq n (by simp only [DataW.weights, Tryd.underlying25]; exact weights_each 0 rfl rfl hn), q1 fun n hn => hq n (by simp only [DataW.weights, Tryd.underlying25]; exact weights_each 1 rfl rfl hn)⟩⟩
    simp only [tAl, List.map_cons, List.map_nil, Rows.uptoBulk, Rows.uptoBulkAll]
    omega
theorem al_cells {w : World} {lo hi : Nat} {cs : List Value} {x : Al} (h : vAl w lo hi cs x) :
    ∃ A1 c1 A2 c2, cs = [.slice A1 x.feats.length c1, .slice A2 x.lets.length c2] ∧ AlIn w lo hi A1 A2 x := by
  obtain ⟨s0, s1, rfl, ⟨A1, c1, e1, h1, h2, h3⟩, ⟨A2, c2, e2, h4, h5, h6⟩⟩ := h
  simp only [List.cons.injEq, and_true] at e1 e2
  unfold maxLen at h2 h5
  exact ⟨A1, c1, A2, c2, by rw [e1, e2], h3, h6, by omega, by omega⟩
end Go.Proofs.YtfjccjjdgbkbiaaDoor
namespace Go.Proofs.YtfjccjjdgbkbiaaDoor.wordParts
open Go.ChangeShapes Go.WideShapes Go.ChangeAt Go.RowKit
set_option linter.unusedVariables false

set_option maxRecDepth 100000 in
theorem contract (H : Type) (enc : TypeId × Value → H) (W : World) (base : Nat) (args : Array Value) (ds gs : List (DataW H)) (before : List MemPlace)
    (hval : ∀ (j : Nat) t v, Tryd.f5.params[j]? = some t → args[j]? = some v → Value.okWide Tryd.prog W .any base t v)
    (hW : DataW.Whole enc Tryd.prog Tryd.f5.params.toList Rows.wordPartsSpec.vars false W args.toList ds gs before) (hL : laidMetH Tryd.prog utf8List W) :
    Calls Tryd.prog 5 args W fun e W' => ∃ v, e = .returned v ∧ Rows.wordPartsSpec.post enc Tryd.prog Tryd.f5 false true false false W args v W' := by
  have hW' := hW
  have hfr := free_of_whole hW
  obtain ⟨p, q, hA0, hV, rfl, hfz, hnd⟩ := hW
  have hA : DataW.TrodAll enc Tryd.prog W 0 (fun _ => true) true Tryd.f5.params.toList args.toList ds p := hA0
  rw [Tryd.params5] at hA hval
  obtain ⟨v0, vs0, d0, ds0, p0, q0, hargs, rfl, rfl, h0, r0⟩ := trodAll_cons hA
  obtain ⟨v1, vs1, d1, ds1, p1, q1, rfl, rfl, rfl, h1, r1⟩ := trodAll_cons r0
  obtain ⟨v2, vs2, d2, ds2, p2, q2, rfl, rfl, rfl, h2, r2⟩ := trodAll_cons r1
  obtain ⟨v3, vs3, d3, ds3, p3, q3, rfl, rfl, rfl, h3, r3⟩ := trodAll_cons r2
  obtain ⟨rfl, rfl, rfl⟩ := trodAll_nil r3
  obtain rfl : args = #[v0, v1, v2, v3] := by cases args; simp_all
  obtain ⟨rfl, rfl⟩ := trodVars_none hV
  obtain ⟨cs0, a, rfl, hva, _, _⟩ := (opens_Al (enc := enc) (w := W)).struct_arg Tryd.underlying25 (hval 0 25 v0 rfl rfl) h0 hfr.left.left
  obtain ⟨A1a, c1a, A2a, c2a, hcs0, ha⟩ := al_cells hva
  obtain rfl : cs0 = #[.slice A1a a.feats.length c1a, .slice A2a a.lets.length c2a] := by cases cs0; simp_all
  obtain ⟨s, rfl, hs, _, _⟩ := Opens.str_arg Tryd.underlying9 (hval 1 9 v1 rfl rfl) h1
  obtain ⟨v, rfl, hv, _, _⟩ := Opens.str_arg Tryd.underlying9 (hval 2 9 v2 rfl rfl) h2
  obtain ⟨cut, rfl, hcut⟩ := Opens.int_arg Tryd.underlying3 (hval 3 3 v3 rfl rfl) h3
  refine (parts_walk A1a A2a c1a c2a a s v cut W ha (tabs_laid hL) hs hv (kin_i64 hcut)).mono fun e W' ⟨he, hb⟩ => ?_
  subst he
  exact ⟨_, rfl, post_true laidOut (by rw [Tryd.params5]; intro t ht; simp only [List.mem_cons, List.not_mem_nil, or_false] at ht; rcases ht with rfl | rfl | rfl | rfl <;> exact ⟨by kernel_rfl, of_decide_eq_true (by kernel_rfl)⟩) (by kernel_rfl) Tryd.underlying4 rfl ⟨rfl, rfl, rfl⟩ hW' hb⟩

theorem reads (os : Os) {H : Type} (enc : TypeId × Value → H) : ∃ places, DataW.whole enc Tryd.prog ((laidWorld os).forCall (fun _ _ => 0) ⟨#[], #[.agg #[.slice none 0 0, .slice none 0 0], .string ⟨#[]⟩, .string ⟨#[]⟩, .int .i64 0], []⟩).memory Tryd.f5.params.toList Rows.wordPartsSpec.vars false #[Value.agg #[.slice none 0 0, .slice none 0 0], .string ⟨#[]⟩, .string ⟨#[]⟩, .int .i64 0].toList 8 = some ([.agg [.nil, .nil], .lit (.string []), .lit (.string []), .lit (.int .i64 0)], [], places) :=
  ⟨[], by kernel_rfl⟩

set_option maxRecDepth 100000 in
theorem lifted (os : Os) (started : os.Started) (H : Type) (enc : TypeId × Value → H) (F : Stop.Interp) :
    ReturnsInHanded {} Tryd.checked os 5 .any ((OpenSpec.ofChange Rows.wordPartsSpec).preRow enc Tryd.prog Tryd.f5 Rows.wordPartsRow.domain false Rows.wordPartsRow.laid) (((OpenSpec.ofChange Rows.wordPartsSpec).at F).post enc Tryd.prog Tryd.f5 false true false false) := by
  obtain ⟨places, hx⟩ := reads os enc
  refine returnsInHanded_of_row (C := Tryd.checked) (s := OpenSpec.ofChange Rows.wordPartsSpec) own started (by kernel_rfl) Tryd.func5
    (witness_row_at (enc := enc) (C := Tryd.checked) false (laidWorld os) #[.agg #[.slice none 0 0, .slice none 0 0], .string ⟨#[]⟩, .string ⟨#[]⟩, .int .i64 0] rfl (by kernel_rfl) (by kernel_rfl) (by kernel_rfl)
      (OpenSpec.preRow_of_cond 8 hx (by kernel_rfl) (fun k hk => by cases hk) (by kernel_rfl) (laid_met os _))) ?_
  intro W base args ds gs before hval hW _ _ _ hL _ _
  exact contract H enc W base args ds gs before hval hW hL

theorem said : Rows.WordPartsSaid :=
  OpenClaim.holds_of_cond 5 Tryd.f5 rfl rfl rfl rfl rfl rfl rfl ⟨rfl, rfl, rfl, rfl, rfl⟩ rfl rfl rfl rfl rfl (by kernel_rfl) Tryd.func5 (by kernel_rfl)
    (of_decide_eq_true (by kernel_rfl)) (by unfold Func.isWrapper; first | (rw [if_pos (by decide +kernel)]; kernel_rfl) | (rw [if_neg (by decide +kernel)]; exact ⟨rfl, rfl⟩))
    (fun os started H enc _ F => by rw [OpenClaim.pre_eq_preRow]; exact lifted os started H enc F)

/-- No parameter wants a stand-in; the program's own looks are off. -/
theorem plain (f : FuncId) (fn : Func) (hf : Tryd.pinned.checked.prog.funcNamed "cognate/cognatelaw03.WordParts" = some f) (hfn : Tryd.pinned.checked.prog.funcs[f]? = some fn) :
    false = Tryd.pinned.checked.prog.looks [] ∧ ∀ (j : Nat) t, fn.params[j]? = some t → Tryd.pinned.checked.prog.wantsStandIn t = false := by
  obtain rfl : f = 5 := Option.some.inj ((show Tryd.prog.funcNamed "cognate/cognatelaw03.WordParts" = some 5 by kernel_rfl).symm.trans hf) |>.symm
  obtain rfl : fn = Tryd.f5 := (Option.some.inj (Tryd.func5.symm.trans hfn)).symm
  refine ⟨by kernel_rfl, fun j t ht => ?_⟩
  rw [Tryd.params5] at ht
  have hm := Array.mem_of_getElem? ht
  simp only [List.mem_toArray, List.mem_cons, List.not_mem_nil, or_false] at hm
  rcases hm with rfl | rfl | rfl | rfl
  · exact (show Tryd.prog.wantsStandIn 25 = false by kernel_rfl)
  · exact (show Tryd.prog.wantsStandIn 9 = false by kernel_rfl)
  · exact (show Tryd.prog.wantsStandIn 9 = false by kernel_rfl)
  · exact (show Tryd.prog.wantsStandIn 3 = false by kernel_rfl)

theorem proved : Rows.WordPartsCardSaid :=
  Claim7.holds_tied_plain_at .later [] _ _ _ _ said (fun _ h => by cases h) (by kernel_rfl) (fun _ h => by cases h) wordParts_row_tie rfl ⟨rfl, rfl⟩ (by kernel_rfl) rfl plain (by kernel_rfl)
#print axioms proved
end Go.Proofs.YtfjccjjdgbkbiaaDoor.wordParts
