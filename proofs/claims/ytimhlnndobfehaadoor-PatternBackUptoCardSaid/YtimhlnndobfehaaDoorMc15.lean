/- The ends of a letter, of a class, of any letter. -/
import Derived.Test.YtimhlnndobfehaaDoorMc14
namespace Go.Proofs.YtimhlnndobfehaaDoor
open Go.RowKit
set_option linter.unusedVariables false

section
variable {ns : List Nd} {L : List Lt} {An Al : Option Addr} {cn cl sp b : Nat} {Z : Nat → Prop} {w wr w' : World}
set_option maxHeartbeats 4000000 in
theorem find_leaf {x : Nd} {k i : Nat} {B : Option Addr} {cc : Nat} (hx : NdIn ns x k b B cc w) (hk : x.kind = 2 ∨ x.kind = 3 ∨ x.kind = 4) (h : Srch ns L An Al cn cl sp b Z w) (hZ : ∀ g, Z g → g < w.heap.size) (hi : i ≤ L.length) :
    Calls Tryd.prog 75 #[.pointer (some ⟨sp, 0, none⟩), .agg #[.int .u8 x.kind, .int .i32 x.rune, .int .u32 x.plus, .int .u32 x.minus, .slice B x.kids.length cc], .int .i64 (i : Int)] w (FillOut ns L An Al cn cl sp b Z w (Lies ns L k i)) := by
  have HL : Hid (∀ q, Lies ns L k i q ↔ q = i + 1 ∧ ∃ l, L[i]? = some l ∧ takesB x l = true) := fun q => by
    rw [lies_iff h.kids hx.at_]
    unfold Body
    rw [if_neg (by omega), if_neg (by omega), if_neg (by omega), if_neg (by omega), if_neg (by omega), if_neg (by omega)]
  have hb1 : Below w.heap.size w (w.alloc (.cells #[.int .u8 x.kind, .int .i32 x.rune, .int .u32 x.plus, .int .u32 x.minus, .slice B x.kids.length cc] 44)) := (Below.refl _ _).alloc (Nat.le_refl _) _
  have hs1 := h.below hb1
  have hrw : Row (w.alloc (.cells #[.int .u8 x.kind, .int .i32 x.rune, .int .u32 x.plus, .int .u32 x.minus, .slice B x.kids.length cc] 44)) w.heap.size 44 [.int .u8 x.kind, .int .i32 x.rune, .int .u32 x.plus, .int .u32 x.minus, .slice B x.kids.length cc] := Row.new w 44 _
  have hspl := h.row.lt
  have hn2 := h.n2
  have hbw := h.lt
  have e1 : (x.kind == 1) = false := by rw [beq_eq_false_iff_ne]; omega
  have e5 : (x.kind == 5) = false := by rw [beq_eq_false_iff_ne]; omega
  have e6 : (x.kind == 6) = false := by rw [beq_eq_false_iff_ne]; omega
  have e7 : (x.kind == 7) = false := by rw [beq_eq_false_iff_ne]; omega
  have e9 : (x.kind == 9) = false := by rw [beq_eq_false_iff_ne]; omega
  have e8 : (x.kind == 8) = false := by rw [beq_eq_false_iff_ne]; omega
  have HNO : Hid (∀ wx, Below (w.alloc (.cells #[.int .u8 x.kind, .int .i32 x.rune, .int .u32 x.plus, .int .u32 x.minus, .slice B x.kids.length cc] 44)).heap.size (w.alloc (.cells #[.int .u8 x.kind, .int .i32 x.rune, .int .u32 x.plus, .int .u32 x.minus, .slice B x.kids.length cc] 44)) wx → (∀ q, ¬ Lies ns L k i q) → FillOut ns L An Al cn cl sp b Z w (Lies ns L k i) (.returned (.slice none 0 0)) wx) := fun wx hwx hno =>
    ⟨[], _, _, rfl, by simp, fun y => by simp [hno], ((Fill.nil (hs1.below hwx) fun g hg => Nat.lt_of_lt_of_le (hZ g hg) (Nat.le_trans hb1.size hwx.size)).on (Fr.of_below (hb1.trans (hwx.mono hb1.size))))⟩
  have HYES : Hid (∀ wx, Below (w.alloc (.cells #[.int .u8 x.kind, .int .i32 x.rune, .int .u32 x.plus, .int .u32 x.minus, .slice B x.kids.length cc] 44)).heap.size (w.alloc (.cells #[.int .u8 x.kind, .int .i32 x.rune, .int .u32 x.plus, .int .u32 x.minus, .slice B x.kids.length cc] 44)) wx → (∀ q, Lies ns L k i q ↔ q = i + 1) → FillOut ns L An Al cn cl sp b Z w (Lies ns L k i) (.returned (.slice (some ⟨wx.heap.size, 0, none⟩) 1 1)) (wx.alloc (.cells #[.int .i64 ((i : Int) + 1)] 3))) := fun wx hwx hyes => by
    have hf := Fill.fresh (hs1.below hwx) (Fr.of_below (hb1.trans (hwx.mono hb1.size))) (fun g hg => Nat.lt_of_lt_of_le (hZ g hg) (Nat.le_trans hb1.size hwx.size)) hbw [(i : Int) + 1] (by unfold maxLen; simp)
    exact ⟨[(i : Int) + 1], _, _, rfl, by simp, fun y => by
      simp only [hyes, List.mem_singleton]
      exact ⟨fun e => ⟨i + 1, by omega, rfl⟩, fun ⟨q, e, e2⟩ => by omega⟩, hf⟩
  by_cases hlt : i < L.length
  · have hlx := Lib.hid (show L[i]? = some L[i] from List.getElem?_eq_getElem hlt)
    obtain ⟨gl, ol, rfl, hg1, hg2, hc0, hc1, hc2, hlk⟩ := lt_at hs1.lets hlt
    have HT := Lib.hid (fun (wx : World) => takes_any x L[i] (.slice B x.kids.length cc) wx hx.k0 hx.k1 hx.k2 hx.k3 hlk)
    generalize L[i] = l at *
    have HCN : Hid (∀ wx, Below (w.alloc (.cells #[.int .u8 x.kind, .int .i32 x.rune, .int .u32 x.plus, .int .u32 x.minus, .slice B x.kids.length cc] 44)).heap.size (w.alloc (.cells #[.int .u8 x.kind, .int .i32 x.rune, .int .u32 x.plus, .int .u32 x.minus, .slice B x.kids.length cc] 44)) wx → wx.cell? ⟨w.heap.size, 0, none⟩ = some (.int .u8 x.kind) ∧ wx.cell? ⟨w.heap.size, 1, none⟩ = some (.int .i32 x.rune) ∧ wx.cell? ⟨w.heap.size, 2, none⟩ = some (.int .u32 x.plus) ∧ wx.cell? ⟨w.heap.size, 3, none⟩ = some (.int .u32 x.minus) ∧ wx.cell? ⟨w.heap.size, 4, none⟩ = some (.slice B x.kids.length cc)) := fun wx hwx => by
      have hr := hrw.below hwx hrw.lt
      exact ⟨(hr.cel (i := 0) rfl).1, (hr.cel (i := 1) rfl).1, (hr.cel (i := 2) rfl).1, (hr.cel (i := 3) rfl).1, (hr.cel (i := 4) rfl).1⟩
    have HCS : Hid (∀ wx, Below (w.alloc (.cells #[.int .u8 x.kind, .int .i32 x.rune, .int .u32 x.plus, .int .u32 x.minus, .slice B x.kids.length cc] 44)).heap.size (w.alloc (.cells #[.int .u8 x.kind, .int .i32 x.rune, .int .u32 x.plus, .int .u32 x.minus, .slice B x.kids.length cc] 44)) wx → wx.cell? ⟨sp, 1, none⟩ = some (.slice (some ⟨gl, ol, none⟩) L.length cl)) := fun wx hwx => ((hs1.row.below hwx hs1.row.lt).cel (i := 1) rfl).1
    have HCL : Hid (∀ wx, Below (w.alloc (.cells #[.int .u8 x.kind, .int .i32 x.rune, .int .u32 x.plus, .int .u32 x.minus, .slice B x.kids.length cc] 44)).heap.size (w.alloc (.cells #[.int .u8 x.kind, .int .i32 x.rune, .int .u32 x.plus, .int .u32 x.minus, .slice B x.kids.length cc] 44)) wx → wx.cell? ⟨gl, ol + i * 3, none⟩ = some (.int .i32 l.rune) ∧ wx.cell? ⟨gl, ol + i * 3 + 1, none⟩ = some (.int .u32 (l.plus : Int)) ∧ wx.cell? ⟨gl, ol + i * 3 + 2, none⟩ = some (.int .u32 (l.minus : Int))) := fun wx hwx =>
      ⟨(Cel.keep (Kp.of_below hwx) (Nat.zero_le _) hg2 hc0).1, (Cel.keep (Kp.of_below hwx) (Nat.zero_le _) hg2 hc1).1, (Cel.keep (Kp.of_below hwx) (Nat.zero_le _) hg2 hc2).1⟩
    have j1 : (i : Int) < (L.length : Int) := by omega
    have j2 : 0 ≤ (i : Int) := by omega
    have K1 : Hid (∀ wx, Below (w.alloc (.cells #[.int .u8 x.kind, .int .i32 x.rune, .int .u32 x.plus, .int .u32 x.minus, .slice B x.kids.length cc] 44)).heap.size (w.alloc (.cells #[.int .u8 x.kind, .int .i32 x.rune, .int .u32 x.plus, .int .u32 x.minus, .slice B x.kids.length cc] 44)) wx → Calls Tryd.prog 90 #[.agg #[.int .u8 x.kind, .int .i32 x.rune, .int .u32 x.plus, .int .u32 x.minus, .slice B x.kids.length cc], .agg #[.int .i32 l.rune, .int .u32 (l.plus : Int), .int .u32 (l.minus : Int)]] wx fun e w' => e = .returned (.bool (takesB x l)) ∧ Below (w.alloc (.cells #[.int .u8 x.kind, .int .i32 x.rune, .int .u32 x.plus, .int .u32 x.minus, .slice B x.kids.length cc] 44)).heap.size (w.alloc (.cells #[.int .u8 x.kind, .int .i32 x.rune, .int .u32 x.plus, .int .u32 x.minus, .slice B x.kids.length cc] 44)) w') := fun wx hwx => by
      refine (HT.out wx).mono ?_
      rintro e w' ⟨rfl, hb⟩
      exact ⟨rfl, hwx.trans (hb.mono hwx.size)⟩
    have HX := Lib.hid hlx.out
    obtain ⟨kd, rn, pl, mi, ks⟩ := x
    simp only at *
    clear hc0 hc1 hc2 hrw hx h hs1 HT hlx
    have hb2 := hb1
    have HB1 := Lib.hid hb1
    clear hb1 hb2
    cases hT : takesB ⟨kd, rn, pl, mi, ks⟩ l with
    | true =>
      have HA : Hid (∀ q, Lies ns L k i q ↔ q = i + 1) := fun q => (HL.out q).trans ⟨fun h => h.1, fun h => ⟨h, l, HX.out, hT⟩⟩
      rw [hT] at K1
      have HT2 := Lib.hid hT
      clear hT
      go_enter Tryd.func75, Tryd.ntmps75
      go_upto_region 28 with (fail)
      generalize hW : w.alloc (.cells #[.int .u8 kd, .int .i32 rn, .int .u32 pl, .int .u32 mi, .slice B ks.length cc] 44) = W2 at *
      have hd : Below W2.heap.size W2 W2.drew := below_drewN (Below.refl _ _) 1
      refine wp_region_class (fun wx => Below W2.heap.size W2 wx) (by kernel_rfl) (by kernel_rfl) hd ?_
      repeat (first
        | go_big_quiet_skip
        | (go_big_quiet_want; go_big_quiet_op; first
            | go_big_quiet_on
            | (apply Exists.intro
               refine ⟨fun wx hx => ?_, ?_⟩
               · (first
                  | exact rfl
                  | (have e1 := HCS.out wx hx; simp only [e1, Result.andThen]; exact ⟨trivial, rfl⟩)
                  | (obtain ⟨e1, e2, e3, e4, e5⟩ := HCN.out wx hx; simp only [e1, e2, e3, e4, e5, Result.andThen]; exact ⟨trivial, rfl⟩)
                  | (obtain ⟨e1, e2, e3⟩ := HCL.out wx hx; simp only [e1, e2, e3, Result.andThen]; exact ⟨trivial, rfl⟩)
                  | (go_at_call 90; with_reducible exact K1.out wx hx))
               go_big_quiet_on)))
      refine wpQuiet_nil ?_
      intro w7 hq
      have HQ := Lib.hid hq
      have HOUT := Lib.hid (HYES.out w7 hq HA.out)
      clear hq hd HCS HCN HCL K1 HNO HYES HL HA HB1
      go_wp2_with fail
      go_ret
      exact HOUT.out
    | false =>
      have HA : Hid (∀ q, ¬ Lies ns L k i q) := fun q hq => by
        obtain ⟨_, l2, e, ht⟩ := (HL.out q).1 hq
        rw [HX.out] at e
        obtain rfl := Option.some.inj e
        rw [hT] at ht
        cases ht
      rw [hT] at K1
      have HT2 := Lib.hid hT
      clear hT
      go_enter Tryd.func75, Tryd.ntmps75
      go_upto_region 28 with (fail)
      generalize hW : w.alloc (.cells #[.int .u8 kd, .int .i32 rn, .int .u32 pl, .int .u32 mi, .slice B ks.length cc] 44) = W2 at *
      have hd : Below W2.heap.size W2 W2.drew := below_drewN (Below.refl _ _) 1
      refine wp_region_class (fun wx => Below W2.heap.size W2 wx) (by kernel_rfl) (by kernel_rfl) hd ?_
      repeat (first
        | go_big_quiet_skip
        | (go_big_quiet_want; go_big_quiet_op; first
            | go_big_quiet_on
            | (apply Exists.intro
               refine ⟨fun wx hx => ?_, ?_⟩
               · (first
                  | exact rfl
                  | (have e1 := HCS.out wx hx; simp only [e1, Result.andThen]; exact ⟨trivial, rfl⟩)
                  | (obtain ⟨e1, e2, e3, e4, e5⟩ := HCN.out wx hx; simp only [e1, e2, e3, e4, e5, Result.andThen]; exact ⟨trivial, rfl⟩)
                  | (obtain ⟨e1, e2, e3⟩ := HCL.out wx hx; simp only [e1, e2, e3, Result.andThen]; exact ⟨trivial, rfl⟩)
                  | (go_at_call 90; with_reducible exact K1.out wx hx))
               go_big_quiet_on)))
      refine wpQuiet_nil ?_
      intro w7 hq
      have HQ := Lib.hid hq
      have HOUT := Lib.hid (HNO.out w7 hq HA.out)
      clear hq hd HCS HCN HCL K1 HNO HYES HL HA HB1
      go_wp2_with fail
      go_ret
      exact HOUT.out
  · have HA : Hid (∀ q, ¬ Lies ns L k i q) := fun q hq => by
      obtain ⟨_, l2, e, ht⟩ := (HL.out q).1 hq
      exact hlt (List.getElem?_eq_some_iff.1 e).1
    have HCS : Hid (∀ wx, Below (w.alloc (.cells #[.int .u8 x.kind, .int .i32 x.rune, .int .u32 x.plus, .int .u32 x.minus, .slice B x.kids.length cc] 44)).heap.size (w.alloc (.cells #[.int .u8 x.kind, .int .i32 x.rune, .int .u32 x.plus, .int .u32 x.minus, .slice B x.kids.length cc] 44)) wx → wx.cell? ⟨sp, 1, none⟩ = some (.slice Al L.length cl)) := fun wx hwx => ((hs1.row.below hwx hs1.row.lt).cel (i := 1) rfl).1
    have j1 : ¬ (i : Int) < (L.length : Int) := by omega
    have HB1 := Lib.hid hb1
    obtain ⟨kd, rn, pl, mi, ks⟩ := x
    simp only at *
    clear hrw hx h hs1 hb1
    go_enter Tryd.func75, Tryd.ntmps75
    go_upto_region 28 with (fail)
    generalize hW : w.alloc (.cells #[.int .u8 kd, .int .i32 rn, .int .u32 pl, .int .u32 mi, .slice B ks.length cc] 44) = W2 at *
    have hd : Below W2.heap.size W2 W2.drew := below_drewN (Below.refl _ _) 1
    refine wp_region_class (fun wx => Below W2.heap.size W2 wx) (by kernel_rfl) (by kernel_rfl) hd ?_
    repeat (first
      | go_big_quiet_skip
      | (go_big_quiet_want; go_big_quiet_op; first
          | go_big_quiet_on
          | (apply Exists.intro
             refine ⟨fun wx hx => ?_, ?_⟩
             · (first
                | exact rfl
                | (have e1 := HCS.out wx hx; simp only [e1, Result.andThen]; exact ⟨trivial, rfl⟩))
             go_big_quiet_on)))
    refine wpQuiet_nil ?_
    intro w7 hq
    have HOUT := Lib.hid (HNO.out w7 hq HA.out)
    clear hq hd HCS HNO HYES HL HA HB1
    go_wp2_with fail
    go_ret
    exact HOUT.out
end
end Go.Proofs.YtimhlnndobfehaaDoor
