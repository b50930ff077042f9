/- The ends of a letter, of a class, of any letter. The ends of a node from a place: known, or found. strings.Builder: copyCheck, WriteString, by walks; what else stands beside the builder stays. -/
import Derived.Test.YtimhlnndobfehaaGreatDoorMd09
import Derived.StillTailTactics
import Derived.Test.YtimhlnndobfehaaGreatDoorMd01
import Derived.Test.YtimhlnndobfehaaGreatDoorChecked
import Derived.Lib.Builder
import Derived.Lib.AppendStr
import Derived.Lib.UnsafeStr
import Derived.Lib.OthersKept
namespace Go.Proofs.YtimhlnndobfehaaGreatDoor
open Go.RowKit
set_option linter.unusedVariables false

section
variable {ns : List Nd} {L : List Lt} {An Al : Option Addr} {cn cl sp b : Nat} {Z : Nat → Prop} {w wr w' : World}
set_option maxHeartbeats 4000000 in
theorem find_leaf {x : Nd} {k i : Nat} {B : Option Addr} {cc : Nat} (hx : NdIn ns x k b B cc w) (hk : x.kind = 2 ∨ x.kind = 3 ∨ x.kind = 4) (h : Srch ns L An Al cn cl sp b Z w) (hZ : ∀ g, Z g → g < w.heap.size) (hi : i ≤ L.length) :
    Calls Tryz.prog 93 #[.pointer (some ⟨sp, 0, none⟩), .agg #[.int .u8 x.kind, .int .i32 x.rune, .int .u32 x.plus, .int .u32 x.minus, .slice B x.kids.length cc], .int .i64 (i : Int)] w (FillOut ns L An Al cn cl sp b Z w (Lies ns L k i)) := by
  have HL : Hid (∀ q, Lies ns L k i q ↔ q = i + 1 ∧ ∃ l, L[i]? = some l ∧ takesB x l = true) := fun q => by
    rw [lies_iff h.kids hx.at_]
    unfold Body
    rw [if_neg (by omega), if_neg (by omega), if_neg (by omega), if_neg (by omega), if_neg (by omega), if_neg (by omega)]
  have hb1 : Below w.heap.size w (w.alloc (.cells #[.int .u8 x.kind, .int .i32 x.rune, .int .u32 x.plus, .int .u32 x.minus, .slice B x.kids.length cc] 66)) := (Below.refl _ _).alloc (Nat.le_refl _) _
  have hs1 := h.below hb1
  have hrw : Row (w.alloc (.cells #[.int .u8 x.kind, .int .i32 x.rune, .int .u32 x.plus, .int .u32 x.minus, .slice B x.kids.length cc] 66)) w.heap.size 66 [.int .u8 x.kind, .int .i32 x.rune, .int .u32 x.plus, .int .u32 x.minus, .slice B x.kids.length cc] := Row.new w 66 _
  have hspl := h.row.lt
  have hn2 := h.n2
  have hbw := h.lt
  have e1 : (x.kind == 1) = false := by rw [beq_eq_false_iff_ne]; omega
  have e5 : (x.kind == 5) = false := by rw [beq_eq_false_iff_ne]; omega
  have e6 : (x.kind == 6) = false := by rw [beq_eq_false_iff_ne]; omega
  have e7 : (x.kind == 7) = false := by rw [beq_eq_false_iff_ne]; omega
  have e9 : (x.kind == 9) = false := by rw [beq_eq_false_iff_ne]; omega
  have e8 : (x.kind == 8) = false := by rw [beq_eq_false_iff_ne]; omega
  have HNO : Hid (∀ wx, Below (w.alloc (.cells #[.int .u8 x.kind, .int .i32 x.rune, .int .u32 x.plus, .int .u32 x.minus, .slice B x.kids.length cc] 66)).heap.size (w.alloc (.cells #[.int .u8 x.kind, .int .i32 x.rune, .int .u32 x.plus, .int .u32 x.minus, .slice B x.kids.length cc] 66)) wx → (∀ q, ¬ Lies ns L k i q) → FillOut ns L An Al cn cl sp b Z w (Lies ns L k i) (.returned (.slice none 0 0)) wx) := fun wx hwx hno =>
    ⟨[], _, _, rfl, by simp, fun y => by simp [hno], ((Fill.nil (hs1.below hwx) fun g hg => Nat.lt_of_lt_of_le (hZ g hg) (Nat.le_trans hb1.size hwx.size)).on (Fr.of_below (hb1.trans (hwx.mono hb1.size))))⟩
  have HYES : Hid (∀ wx, Below (w.alloc (.cells #[.int .u8 x.kind, .int .i32 x.rune, .int .u32 x.plus, .int .u32 x.minus, .slice B x.kids.length cc] 66)).heap.size (w.alloc (.cells #[.int .u8 x.kind, .int .i32 x.rune, .int .u32 x.plus, .int .u32 x.minus, .slice B x.kids.length cc] 66)) wx → (∀ q, Lies ns L k i q ↔ q = i + 1) → FillOut ns L An Al cn cl sp b Z w (Lies ns L k i) (.returned (.slice (some ⟨wx.heap.size, 0, none⟩) 1 1)) (wx.alloc (.cells #[.int .i64 ((i : Int) + 1)] 3))) := fun wx hwx hyes => by
    have hf := Fill.fresh (hs1.below hwx) (Fr.of_below (hb1.trans (hwx.mono hb1.size))) (fun g hg => Nat.lt_of_lt_of_le (hZ g hg) (Nat.le_trans hb1.size hwx.size)) hbw [(i : Int) + 1] (by unfold maxLen; simp)
    exact ⟨[(i : Int) + 1], _, _, rfl, by simp, fun y => by
      simp only [hyes, List.mem_singleton]
      exact ⟨fun e => ⟨i + 1, by omega, rfl⟩, fun ⟨q, e, e2⟩ => by omega⟩, hf⟩
  by_cases hlt : i < L.length
  · have hlx := Lib.hid (show L[i]? = some L[i] from List.getElem?_eq_getElem hlt)
    obtain ⟨gl, ol, rfl, hg1, hg2, hc0, hc1, hc2, hlk⟩ := lt_at hs1.lets hlt
    have HT := Lib.hid (fun (wx : World) => takes_any x L[i] (.slice B x.kids.length cc) wx hx.k0 hx.k1 hx.k2 hx.k3 hlk)
    generalize L[i] = l at *
    have HCN : Hid (∀ wx, Below (w.alloc (.cells #[.int .u8 x.kind, .int .i32 x.rune, .int .u32 x.plus, .int .u32 x.minus, .slice B x.kids.length cc] 66)).heap.size (w.alloc (.cells #[.int .u8 x.kind, .int .i32 x.rune, .int .u32 x.plus, .int .u32 x.minus, .slice B x.kids.length cc] 66)) wx → wx.cell? ⟨w.heap.size, 0, none⟩ = some (.int .u8 x.kind) ∧ wx.cell? ⟨w.heap.size, 1, none⟩ = some (.int .i32 x.rune) ∧ wx.cell? ⟨w.heap.size, 2, none⟩ = some (.int .u32 x.plus) ∧ wx.cell? ⟨w.heap.size, 3, none⟩ = some (.int .u32 x.minus) ∧ wx.cell? ⟨w.heap.size, 4, none⟩ = some (.slice B x.kids.length cc)) := fun wx hwx => by
      have hr := hrw.below hwx hrw.lt
      exact ⟨(hr.cel (i := 0) rfl).1, (hr.cel (i := 1) rfl).1, (hr.cel (i := 2) rfl).1, (hr.cel (i := 3) rfl).1, (hr.cel (i := 4) rfl).1⟩
    have HCS : Hid (∀ wx, Below (w.alloc (.cells #[.int .u8 x.kind, .int .i32 x.rune, .int .u32 x.plus, .int .u32 x.minus, .slice B x.kids.length cc] 66)).heap.size (w.alloc (.cells #[.int .u8 x.kind, .int .i32 x.rune, .int .u32 x.plus, .int .u32 x.minus, .slice B x.kids.length cc] 66)) wx → wx.cell? ⟨sp, 1, none⟩ = some (.slice (some ⟨gl, ol, none⟩) L.length cl)) := fun wx hwx => ((hs1.row.below hwx hs1.row.lt).cel (i := 1) rfl).1
    have HCL : Hid (∀ wx, Below (w.alloc (.cells #[.int .u8 x.kind, .int .i32 x.rune, .int .u32 x.plus, .int .u32 x.minus, .slice B x.kids.length cc] 66)).heap.size (w.alloc (.cells #[.int .u8 x.kind, .int .i32 x.rune, .int .u32 x.plus, .int .u32 x.minus, .slice B x.kids.length cc] 66)) wx → wx.cell? ⟨gl, ol + i * 3, none⟩ = some (.int .i32 l.rune) ∧ wx.cell? ⟨gl, ol + i * 3 + 1, none⟩ = some (.int .u32 (l.plus : Int)) ∧ wx.cell? ⟨gl, ol + i * 3 + 2, none⟩ = some (.int .u32 (l.minus : Int))) := fun wx hwx =>
      ⟨(Cel.keep (Kp.of_below hwx) (Nat.zero_le _) hg2 hc0).1, (Cel.keep (Kp.of_below hwx) (Nat.zero_le _) hg2 hc1).1, (Cel.keep (Kp.of_below hwx) (Nat.zero_le _) hg2 hc2).1⟩
    have j1 : (i : Int) < (L.length : Int) := by omega
    have j2 : 0 ≤ (i : Int) := by omega
    have K1 : Hid (∀ wx, Below (w.alloc (.cells #[.int .u8 x.kind, .int .i32 x.rune, .int .u32 x.plus, .int .u32 x.minus, .slice B x.kids.length cc] 66)).heap.size (w.alloc (.cells #[.int .u8 x.kind, .int .i32 x.rune, .int .u32 x.plus, .int .u32 x.minus, .slice B x.kids.length cc] 66)) wx → Calls Tryz.prog 123 #[.agg #[.int .u8 x.kind, .int .i32 x.rune, .int .u32 x.plus, .int .u32 x.minus, .slice B x.kids.length cc], .agg #[.int .i32 l.rune, .int .u32 (l.plus : Int), .int .u32 (l.minus : Int)]] wx fun e w' => e = .returned (.bool (takesB x l)) ∧ Below (w.alloc (.cells #[.int .u8 x.kind, .int .i32 x.rune, .int .u32 x.plus, .int .u32 x.minus, .slice B x.kids.length cc] 66)).heap.size (w.alloc (.cells #[.int .u8 x.kind, .int .i32 x.rune, .int .u32 x.plus, .int .u32 x.minus, .slice B x.kids.length cc] 66)) w') := fun wx hwx => by
      refine (HT.out wx).mono ?_
      rintro e w' ⟨rfl, hb⟩
      exact ⟨rfl, hwx.trans (hb.mono hwx.size)⟩
    have HX := Lib.hid hlx.out
    obtain ⟨kd, rn, pl, mi, ks⟩ := x
    simp only at *
    clear hc0 hc1 hc2 hrw hx h hs1 HT hlx
    have hb2 := hb1
    have HB1 := Lib.hid hb1
    clear hb1 hb2
    cases hT : takesB ⟨kd, rn, pl, mi, ks⟩ l with
    | true =>
      have HA : Hid (∀ q, Lies ns L k i q ↔ q = i + 1) := fun q => (HL.out q).trans ⟨fun h => h.1, fun h => ⟨h, l, HX.out, hT⟩⟩
      rw [hT] at K1
      have HT2 := Lib.hid hT
      clear hT
      go_enter Tryz.func93, Tryz.ntmps93
      go_upto_region 28 with (fail)
      generalize hW : w.alloc (.cells #[.int .u8 kd, .int .i32 rn, .int .u32 pl, .int .u32 mi, .slice B ks.length cc] 66) = W2 at *
      have hd : Below W2.heap.size W2 W2.drew := below_drewN (Below.refl _ _) 1
      refine wp_region_class (fun wx => Below W2.heap.size W2 wx) (by kernel_rfl) (by kernel_rfl) hd ?_
      repeat (first
        | go_big_quiet_skip
        | (go_big_quiet_want; go_big_quiet_op; first
            | go_big_quiet_on
            | (apply Exists.intro
               refine ⟨fun wx hx => ?_, ?_⟩
               · (first
                  | exact rfl
                  | (have e1 := HCS.out wx hx; simp only [e1, Result.andThen]; exact ⟨trivial, rfl⟩)
                  | (obtain ⟨e1, e2, e3, e4, e5⟩ := HCN.out wx hx; simp only [e1, e2, e3, e4, e5, Result.andThen]; exact ⟨trivial, rfl⟩)
                  | (obtain ⟨e1, e2, e3⟩ := HCL.out wx hx; simp only [e1, e2, e3, Result.andThen]; exact ⟨trivial, rfl⟩)
                  | (go_at_call 123; with_reducible exact K1.out wx hx))
               go_big_quiet_on)))
      refine wpQuiet_nil ?_
      intro w7 hq
      have HQ := Lib.hid hq
      have HOUT := Lib.hid (HYES.out w7 hq HA.out)
      clear hq hd HCS HCN HCL K1 HNO HYES HL HA HB1
      go_wp2_with fail
      go_ret
      exact HOUT.out
    | false =>
      have HA : Hid (∀ q, ¬ Lies ns L k i q) := fun q hq => by
        obtain ⟨_, l2, e, ht⟩ := (HL.out q).1 hq
        rw [HX.out] at e
        obtain rfl := Option.some.inj e
        rw [hT] at ht
        cases ht
      rw [hT] at K1
      have HT2 := Lib.hid hT
      clear hT
      go_enter Tryz.func93, Tryz.ntmps93
      go_upto_region 28 with (fail)
      generalize hW : w.alloc (.cells #[.int .u8 kd, .int .i32 rn, .int .u32 pl, .int .u32 mi, .slice B ks.length cc] 66) = W2 at *
      have hd : Below W2.heap.size W2 W2.drew := below_drewN (Below.refl _ _) 1
      refine wp_region_class (fun wx => Below W2.heap.size W2 wx) (by kernel_rfl) (by kernel_rfl) hd ?_
      repeat (first
        | go_big_quiet_skip
        | (go_big_quiet_want; go_big_quiet_op; first
            | go_big_quiet_on
            | (apply Exists.intro
               refine ⟨fun wx hx => ?_, ?_⟩
               · (first
                  | exact rfl
                  | (have e1 := HCS.out wx hx; simp only [e1, Result.andThen]; exact ⟨trivial, rfl⟩)
                  | (obtain ⟨e1, e2, e3, e4, e5⟩ := HCN.out wx hx; simp only [e1, e2, e3, e4, e5, Result.andThen]; exact ⟨trivial, rfl⟩)
                  | (obtain ⟨e1, e2, e3⟩ := HCL.out wx hx; simp only [e1, e2, e3, Result.andThen]; exact ⟨trivial, rfl⟩)
                  | (go_at_call 123; with_reducible exact K1.out wx hx))
               go_big_quiet_on)))
      refine wpQuiet_nil ?_
      intro w7 hq
      have HQ := Lib.hid hq
      have HOUT := Lib.hid (HNO.out w7 hq HA.out)
      clear hq hd HCS HCN HCL K1 HNO HYES HL HA HB1
      go_wp2_with fail
      go_ret
      exact HOUT.out
  · have HA : Hid (∀ q, ¬ Lies ns L k i q) := fun q hq => by
      obtain ⟨_, l2, e, ht⟩ := (HL.out q).1 hq
      exact hlt (List.getElem?_eq_some_iff.1 e).1
    have HCS : Hid (∀ wx, Below (w.alloc (.cells #[.int .u8 x.kind, .int .i32 x.rune, .int .u32 x.plus, .int .u32 x.minus, .slice B x.kids.length cc] 66)).heap.size (w.alloc (.cells #[.int .u8 x.kind, .int .i32 x.rune, .int .u32 x.plus, .int .u32 x.minus, .slice B x.kids.length cc] 66)) wx → wx.cell? ⟨sp, 1, none⟩ = some (.slice Al L.length cl)) := fun wx hwx => ((hs1.row.below hwx hs1.row.lt).cel (i := 1) rfl).1
    have j1 : ¬ (i : Int) < (L.length : Int) := by omega
    have HB1 := Lib.hid hb1
    obtain ⟨kd, rn, pl, mi, ks⟩ := x
    simp only at *
    clear hrw hx h hs1 hb1
    go_enter Tryz.func93, Tryz.ntmps93
    go_upto_region 28 with (fail)
    generalize hW : w.alloc (.cells #[.int .u8 kd, .int .i32 rn, .int .u32 pl, .int .u32 mi, .slice B ks.length cc] 66) = W2 at *
    have hd : Below W2.heap.size W2 W2.drew := below_drewN (Below.refl _ _) 1
    refine wp_region_class (fun wx => Below W2.heap.size W2 wx) (by kernel_rfl) (by kernel_rfl) hd ?_
    repeat (first
      | go_big_quiet_skip
      | (go_big_quiet_want; go_big_quiet_op; first
          | go_big_quiet_on
          | (apply Exists.intro
             refine ⟨fun wx hx => ?_, ?_⟩
             · (first
                | exact rfl
                | (have e1 := HCS.out wx hx; simp only [e1, Result.andThen]; exact ⟨trivial, rfl⟩))
             go_big_quiet_on)))
    refine wpQuiet_nil ?_
    intro w7 hq
    have HOUT := Lib.hid (HNO.out w7 hq HA.out)
    clear hq hd HCS HNO HYES HL HA HB1
    go_wp2_with fail
    go_ret
    exact HOUT.out
end
end Go.Proofs.YtimhlnndobfehaaGreatDoor
namespace Go.Proofs.YtimhlnndobfehaaGreatDoor
open Go.RowKit
set_option linter.unusedVariables false

open Classical in
/-- A key's number. -/
noncomputable def code2 (kl : Lit) : Nat := if h : ∃ p : Nat × Nat, p.1 < 256 ∧ p.2 ≤ 64 ∧ kl = K2 p.1 p.2 then h.choose.1 * 65 + h.choose.2 else 0
theorem code2_of {k i : Nat} (hk : k < 256) (hi : i ≤ 64) : code2 (K2 k i) = k * 65 + i := by
  have h : ∃ p : Nat × Nat, p.1 < 256 ∧ p.2 ≤ 64 ∧ K2 k i = K2 p.1 p.2 := ⟨(k, i), hk, hi, rfl⟩
  unfold code2
  rw [dif_pos h]
  obtain ⟨h1, h2, h3⟩ := h.choose_spec
  obtain ⟨e1, e2⟩ := key2_inj (by omega) (by omega) (by omega) (by omega) h3
  rw [← e1, ← e2]
section
variable {ns : List Nd} {L : List Lt} {An Al : Option Addr} {cn cl sp b : Nat} {Z : Nat → Prop} {w wr w' : World}
theorem MapV.look {P : Program} {k e t : TypeId} {F : Lit → Option Value} {b : Nat} {w : World} (h : MapV P k w b F) (K : Maps.Keyed P k) (ht : P.underlying t = some (.map k e)) {z : Value} (hz : (zeroValue e).run P w = .ok z w) {key : Value} {kl : Lit} (hkey : keyOf P k key = some kl) :
    (Instr.lookup t (.map (some b)) key true).run P w = .ok (.tuple #[(F kl).getD z, .bool (F kl).isSome]) w := by
  obtain ⟨n, D, h1, h2, h3⟩ := h
  obtain ⟨v, ps, hrun, hv⟩ := h1.look_ok K ht hz (zd := .held z) (zp := []) rfl hkey
  have e : v = (F kl).getD z := by
    have := (h3 kl).2 z
    unfold heldR at hv
    simp only [Option.some.injEq, Prod.mk.injEq] at hv
    have h4 := hv.1.trans this
    injection h4
  subst e
  rw [(h3 kl).1] at hrun
  exact hrun
/-- Nodes that may be. -/
def NodesOk (ns : List Nd) : Prop := ∀ (k : Nat) (x : Nd), ns[k]? = some x → nodeOk x = true ∧ x.kids.length ≤ 256
theorem find_any {x : Nd} {k i : Nat} {B : Option Addr} {cc : Nat} (hno : nodeOk x = true) (hx : NdIn ns x k b B cc w) (H : ∀ c ∈ x.kids, EndsOk ns L An Al cn cl sp b c.toNat) (h : Srch ns L An Al cn cl sp b Z w) (hZ : ∀ g, Z g → g < w.heap.size) (hi : i ≤ L.length) :
    Calls Tryz.prog 93 #[.pointer (some ⟨sp, 0, none⟩), .agg #[.int .u8 x.kind, .int .i32 x.rune, .int .u32 x.plus, .int .u32 x.minus, .slice B x.kids.length cc], .int .i64 (i : Int)] w (FillOut ns L An Al cn cl sp b Z w (Lies ns L k i)) := by
  rw [nodeOk_eq, Bool.and_eq_true] at hno
  have har := hno.1
  unfold arOk at har
  by_cases k6 : x.kind = 6
  · exact find_seq hx k6 H h hZ hi
  by_cases k7 : x.kind = 7
  · exact find_or hx k7 H h hZ hi
  rw [if_neg (by omega)] at har
  by_cases k89 : x.kind = 8 ∨ x.kind = 9
  · rw [if_pos k89, decide_eq_true_eq] at har
    rcases k89 with k8 | k9
    · exact find_star hx k8 har H h hZ hi
    · exact find_opt hx k9 har H h hZ hi
  rw [if_neg k89] at har
  by_cases k15 : 1 ≤ x.kind ∧ x.kind ≤ 5
  · by_cases k1 : x.kind = 1
    · exact find_empty hx k1 h hZ hi
    by_cases k5 : x.kind = 5
    · exact find_edge hx k5 h hZ hi
    exact find_leaf hx (by omega) h hZ hi
  · rw [if_neg k15] at har
    cases har
/-- What is known, and one thing more. -/
theorem Known.more {T : Nat → Prop} {k i : Nat} {A : Option Addr} {c : Nat} {F : Lit → Option Value} (hk : k < ns.length) (hi : i ≤ L.length) (hv : ∀ kl v, F kl = some v → ∃ k i A c, kl = K2 k i ∧ k < ns.length ∧ i ≤ L.length ∧ v = .slice A (endsI ns L k i).length c ∧ SlZ T b w A (endsI ns L k i))
    (hsl : SlZ Z b w A (endsI ns L k i)) (hT : ∀ g, Z g → T g) (hf : Fr (fun g => g = b) w w') (hm : MapV Tryz.prog 141 w' b (setAt F (K2 k i) (some (.slice A (endsI ns L k i).length c)))) : Known ns L Z b w' := by
  refine ⟨_, hm, fun kl v h => ?_⟩
  unfold setAt at h
  by_cases e : kl = K2 k i
  · rw [if_pos e] at h
    obtain rfl := Option.some.inj h
    exact ⟨k, i, A, c, e, hk, hi, rfl, hsl.fr hf fun g _ h1 h2 => by have h2 : g = b := h2; omega⟩
  · rw [if_neg e] at h
    obtain ⟨k', i', A', c', e1, e2, e3, e4, e5⟩ := hv kl v h
    exact ⟨k', i', A', c', e1, e2, e3, e4, (e5.weak (T := Z) fun g _ _ hz => hT g hz).fr hf fun g _ h1 h2 => by have h2 : g = b := h2; omega⟩
/-- Keys that are known have numbers of their own. -/
theorem code2_known {F : Lit → Option Value} (h1 : ns.length ≤ 256) (h2 : L.length ≤ 64) (hv : ∀ kl v, F kl = some v → ∃ k i A c, kl = K2 k i ∧ k < ns.length ∧ i ≤ L.length ∧ v = .slice A (endsI ns L k i).length c ∧ SlZ Z b w A (endsI ns L k i)) :
    (∀ kl v, F kl = some v → code2 kl < 20000) ∧ ∀ a c u v, F a = some u → F c = some v → code2 a = code2 c → a = c := by
  constructor
  · intro kl v h
    obtain ⟨k, i, _, _, rfl, hk, hi, _⟩ := hv kl v h
    rw [code2_of (by omega) (by omega)]
    omega
  · intro a c u v ha hc he
    obtain ⟨k, i, _, _, rfl, hk, hi, _⟩ := hv a u ha
    obtain ⟨m, j, _, _, rfl, hm, hj, _⟩ := hv c v hc
    rw [code2_of (by omega) (by omega), code2_of (by omega) (by omega)] at he
    obtain rfl : i = j := by omega
    obtain rfl : k = m := by omega
    rfl
theorem zero_ints (w : World) : (zeroValue 45).run Tryz.prog w = .ok (.slice none 0 0) w := by kernel_rfl
set_option maxHeartbeats 8000000 in
set_option maxRecDepth 100000 in
theorem ends_step {k : Nat} {x : Nd} (hx : ns[k]? = some x) (hno : nodeOk x = true) (hkl : x.kids.length ≤ 256) (H : ∀ c ∈ x.kids, EndsOk ns L An Al cn cl sp b c.toNat) : EndsOk ns L An Al cn cl sp b k := by
  intro i Z w hi hZ h
  have hk := (List.getElem?_eq_some_iff.1 hx).1
  have hn1 := h.n1
  have hn2 := h.n2
  have hbw := h.lt
  have hspl := h.row.lt
  have hzb := h.zb
  obtain ⟨bn, on, B, cc, rfl, _, hbn, hc0, hc1, hc2, hc3, hc4, hl1, hl2, hks, kk0, kk1, kk2, kk3⟩ := nd_at h.nodes hk
  have hxx : ns[k] = x := (List.getElem?_eq_some_iff.1 hx).2
  rw [hxx] at hc0 hc1 hc2 hc3 hc4 hl1 hks kk0 kk1 kk2 kk3
  have HS := Lib.hid h
  obtain ⟨F, hF, hFv⟩ := h.known
  have hkey := key2 (n := k) (i := i) (by omega) (by omega)
  have hHB : Below w.heap.size w (w.alloc (.cells #[.int .i64 (k : Int), .int .i64 (i : Int)] 141)) := (Below.refl _ _).alloc (Nat.le_refl _) _
  have hrw : Row (w.alloc (.cells #[.int .i64 (k : Int), .int .i64 (i : Int)] 141)) w.heap.size 141 [.int .i64 (k : Int), .int .i64 (i : Int)] := Row.new w 141 _
  have HCS : Hid (∀ wx, Below (w.alloc (.cells #[.int .i64 (k : Int), .int .i64 (i : Int)] 141)).heap.size (w.alloc (.cells #[.int .i64 (k : Int), .int .i64 (i : Int)] 141)) wx → wx.cell? ⟨sp, 2, none⟩ = some (.map (some b))) := fun wx hwx => (((h.below hHB).row.below hwx (h.below hHB).row.lt).cel (i := 2) rfl).1
  have HCK : Hid (∀ wx, Below (w.alloc (.cells #[.int .i64 (k : Int), .int .i64 (i : Int)] 141)).heap.size (w.alloc (.cells #[.int .i64 (k : Int), .int .i64 (i : Int)] 141)) wx → wx.cell? ⟨w.heap.size, 0, none⟩ = some (.int .i64 (k : Int)) ∧ wx.cell? ⟨w.heap.size, 1, none⟩ = some (.int .i64 (i : Int))) := fun wx hwx =>
    ⟨((hrw.below hwx hrw.lt).cel (i := 0) rfl).1, ((hrw.below hwx hrw.lt).cel (i := 1) rfl).1⟩
  have HLK : Hid (∀ wx, Below (w.alloc (.cells #[.int .i64 (k : Int), .int .i64 (i : Int)] 141)).heap.size (w.alloc (.cells #[.int .i64 (k : Int), .int .i64 (i : Int)] 141)) wx → (Instr.lookup 101 (.map (some b)) (.agg #[.int .i64 (k : Int), .int .i64 (i : Int)]) true).run Tryz.prog wx = .ok (.tuple #[(F (K2 k i)).getD (.slice none 0 0), .bool (F (K2 k i)).isSome]) wx) := fun wx hwx =>
    (hF.below (hHB.trans (hwx.mono hHB.size)) hbw).look keyed_key Tryz.underlying101 (zero_ints wx) hkey
  cases hFk : F (K2 k i) with
  | some v =>
    obtain ⟨k', i', A, c, e1, hk', hi', rfl, hsl⟩ := hFv _ v hFk
    obtain ⟨rfl, rfl⟩ := key2_inj (by omega) (by omega) (by omega) (by omega) e1
    rw [hFk] at HLK
    simp only [Option.getD_some, Option.isSome_some] at HLK
    have HOUT : Hid (∀ wx, Below (w.alloc (.cells #[.int .i64 (k : Int), .int .i64 (i : Int)] 141)).heap.size (w.alloc (.cells #[.int .i64 (k : Int), .int .i64 (i : Int)] 141)) wx → PlOut ns L (some ⟨bn, on, none⟩) Al cn cl sp b Z w (endsI ns L k i) (.returned (.slice A (endsI ns L k i).length c)) wx) := fun wx hwx => by
      have hb := hHB.trans (hwx.mono hHB.size)
      exact ⟨A, c, rfl, hsl.fr (T := fun _ => False) (Fr.of_below hb) (fun _ _ _ h => h.elim), h.below hb, Fr.of_below hb⟩
    clear h HS hF hFv hFk hsl hrw hHB hc0 hc1 hc2 hc3 hc4 hks H hkey
    generalize endsI ns L k i = E at *
    go_enter Tryz.func59, Tryz.ntmps59
    go_upto_region 2 with (fail)
    generalize hW : w.alloc (.cells #[.int .i64 (k : Int), .int .i64 (i : Int)] 141) = W2 at *
    have hd : Below W2.heap.size W2 W2.drew := below_drewN (Below.refl _ _) 1
    refine wp_region_class (fun wx => Below W2.heap.size W2 wx) (by kernel_rfl) (by kernel_rfl) hd ?_
    repeat (first
      | go_big_quiet_skip
      | (go_big_quiet_want; go_big_quiet_op; first
          | go_big_quiet_on
          | (apply Exists.intro
             refine ⟨fun wx hx => ?_, ?_⟩
             · (first
                | exact rfl
                | (have e1 := HCS.out wx hx; simp only [e1, Result.andThen]; exact ⟨trivial, rfl⟩)
                | (obtain ⟨e1, e2⟩ := HCK.out wx hx; simp only [e1, e2, Result.andThen]; exact ⟨trivial, rfl⟩)
                | (have e1 := HLK.out wx hx; simp only [e1, Result.andThen]; exact ⟨trivial, rfl⟩))
             go_big_quiet_on)))
    refine wpQuiet_nil ?_
    intro w7 hq
    have HO := Lib.hid (HOUT.out w7 hq)
    clear hq hd HCS HCK HLK HOUT
    go_wp2_with fail
    go_ret
    exact HO.out
  | none =>
    rw [hFk] at HLK
    simp only [Option.getD_none, Option.isSome_none] at HLK
    have HC0 : Hid (∀ wx, Below (w.alloc (.cells #[.int .i64 (k : Int), .int .i64 (i : Int)] 141)).heap.size (w.alloc (.cells #[.int .i64 (k : Int), .int .i64 (i : Int)] 141)) wx → Srch ns L (some ⟨bn, on, none⟩) Al cn cl sp b Z wx) := fun wx hwx => h.below (hHB.trans (hwx.mono hHB.size))
    have HND : Hid (∀ wx, Below w.heap.size w wx → NdIn ns x k b B cc wx ∧ Cel wx bn (on + k * 5) (.int .u8 x.kind) ∧ Cel wx bn (on + k * 5 + 1) (.int .i32 x.rune) ∧ Cel wx bn (on + k * 5 + 2) (.int .u32 x.plus) ∧ Cel wx bn (on + k * 5 + 3) (.int .u32 x.minus) ∧ Cel wx bn (on + k * 5 + 4) (.slice B x.kids.length cc)) := fun wx hb =>
      ⟨⟨hx, hks.below (vInt_good _) hb (Nat.le_of_lt hbw), hkl, ⟨hl1, hl2⟩, kk0, kk1, kk2, kk3⟩, hc0.keep (Kp.of_below hb) (Nat.zero_le _) (by omega), hc1.keep (Kp.of_below hb) (Nat.zero_le _) (by omega), hc2.keep (Kp.of_below hb) (Nat.zero_le _) (by omega), hc3.keep (Kp.of_below hb) (Nat.zero_le _) (by omega), hc4.keep (Kp.of_below hb) (Nat.zero_le _) (by omega)⟩
    have HRW := Lib.hid hrw
    have HHB := Lib.hid hHB
    have HH := Lib.hid H
    have HKEY := Lib.hid hkey
    clear h HS hF hFv hFk hrw hHB hc0 hc1 hc2 hc3 hc4 hks H hkey
    go_enter Tryz.func59, Tryz.ntmps59
    go_upto_region 2 with (fail)
    generalize hW : w.alloc (.cells #[.int .i64 (k : Int), .int .i64 (i : Int)] 141) = W2 at *
    have hd : Below W2.heap.size W2 W2.drew := below_drewN (Below.refl _ _) 1
    refine wp_region_class (fun wx => Below W2.heap.size W2 wx) (by kernel_rfl) (by kernel_rfl) hd ?_
    repeat (first
      | go_big_quiet_skip
      | (go_big_quiet_want; go_big_quiet_op; first
          | go_big_quiet_on
          | (apply Exists.intro
             refine ⟨fun wx hx => ?_, ?_⟩
             · (first
                | exact rfl
                | (have e1 := HCS.out wx hx; simp only [e1, Result.andThen]; exact ⟨trivial, rfl⟩)
                | (obtain ⟨e1, e2⟩ := HCK.out wx hx; simp only [e1, e2, Result.andThen]; exact ⟨trivial, rfl⟩)
                | (have e1 := HLK.out wx hx; simp only [e1, Result.andThen]; exact ⟨trivial, rfl⟩))
             go_big_quiet_on)))
    refine wpQuiet_nil ?_
    intro w7 hq
    have hs7 := HC0.out w7 hq
    have hb7 := HHB.out.trans (hq.mono HHB.out.size)
    obtain ⟨hnd, ⟨y0, _⟩, ⟨y1, _⟩, ⟨y2, _⟩, ⟨y3, _⟩, ⟨y4, _⟩⟩ := HND.out w7 hb7
    obtain ⟨z0, _⟩ := hs7.row.cel (i := 0) rfl
    have hcall := Lib.hid (find_any hno hnd HH.out hs7 (fun g hg => Nat.lt_of_lt_of_le (hZ g hg) hb7.size) hi)
    have hkey7 : Row w7 w.heap.size 141 [.int .i64 (k : Int), .int .i64 (i : Int)] := HRW.out.below hq HRW.out.lt
    have HK7 := Lib.hid hkey7
    have HB7 := Lib.hid hb7
    have j1 : (k : Int) < (ns.length : Int) := by omega
    have j2 : 0 ≤ (k : Int) := by omega
    have hz7 := hb7.size
    have hbn7 : bn < w7.heap.size := by omega
    have hsp7 : sp < w7.heap.size := by omega
    clear hq hd HCS HCK HLK HC0 HND HRW HHB HH hnd hs7 hb7 hkey7
    go_wp2_with fail
    refine hcall.out.mono ?_
    rintro e w8 ⟨acc, A, c, rfl, hl, hm, hfill⟩
    have hsort := Lib.hid (sortInt_any hfill.own (by omega))
    have HFI := Lib.hid hfill
    clear hfill hcall y0 y1 y2 y3 y4 z0
    go_wp2_with fail
    refine hsort.out.mono ?_
    rintro e w9 ⟨rfl, hfr9, hown9⟩
    have hfill9 := HFI.out.grow (acc' := srtL acc) (by omega) (by rw [srt_len]; exact hown9) hfr9 (fun g hg => .inl (by rw [srt_len] at hg; exact hg))
    have hcomp := Lib.hid (compactInt_any hfill9.own (by rw [srt_len]; omega))
    have HFI9 := Lib.hid hfill9
    rw [srt_len] at hcomp
    clear hfill9 hown9 hfr9 hsort HFI
    go_wp2_with fail
    refine hcomp.out.mono ?_
    rintro e w10 ⟨A3, c3, e3, rfl, hfr10, hown10⟩
    injection e3 with e4 e5 e6
    subst e4 e6
    have ecut : Lib.compact (srtL acc) = endsI ns L k i := cut_ends hi hm
    rw [ecut] at hown10 ⊢
    have hfill10 := HFI9.out.grow (by omega) (acc' := endsI ns L k i) hown10 (by rw [srt_len]; exact hfr10) (fun g hg => .inl (by rw [own_blk _ _ _ (endsI ns L k i).length c]; exact hg))
    have hele := endsI_len ns L k i
    have hekin : ∀ y ∈ endsI ns L k i, kin .i64 y := fun y hy => by
      obtain ⟨q, rfl, hq⟩ := (endsI_mem hi).1 hy
      have := rel_max ns L _ _ _ _ hi hq
      exact kin_mk64 (by omega)
    have hsl10 : SlZ Z b w10 A (endsI ns L k i) := ⟨own_ints hfill10.own hekin (by omega), fun hn ad e hz => by
      subst e
      have h1 := (hfill10.own.lt ad.block rfl).1
      have h2 := hZ _ hz
      omega⟩
    obtain ⟨F2, hF2, hF2v⟩ := hfill10.s.known
    obtain ⟨hcode1, hcode2⟩ := code2_known hn1 hn2 hF2v
    have hfw : Fr (fun g => g = b) w w10 := (Fr.of_below HB7.out).trans hfill10.fr fun _ _ h => h
    obtain ⟨z2, _⟩ := hfill10.s.row.cel (i := 2) rfl
    have hk10 : Row w10 w.heap.size 141 [.int .i64 (k : Int), .int .i64 (i : Int)] := (hfill10.fr.block _ (by have := HK7.out.lt; omega) (by show ¬ w.heap.size = b; omega)).trans HK7.out
    obtain ⟨q0, _⟩ := hk10.cel (i := 0) rfl
    obtain ⟨q1, _⟩ := hk10.cel (i := 1) rfl
    have hkl10 := hk10.lt
    have hsp10 := hfill10.s.row.lt
    have HFIN : Hid (∀ w11, MapV Tryz.prog 141 w11 b (setAt F2 (K2 k i) (some (.slice A (endsI ns L k i).length c))) → w10.drew.grownBy w11 (some b) → PlOut ns L (some ⟨bn, on, none⟩) Al cn cl sp b Z w (endsI ns L k i) (.returned (.slice A (endsI ns L k i).length c)) w11) := fun w11 hm11 hg11 => by
      have hf11 : Fr (fun g => g = b) w10 w11 := (Fr.of_below (S := fun g => g = b) (below_drewN (Below.refl _ w10) 1)).trans (Fr.of_grown (S := fun g => g = b) hg11 fun g e => (Option.some.inj e).symm) fun _ _ h => h
      have hkn := Known.more hk hi hF2v hsl10 (fun g hz => .inl hz) hf11 hm11
      exact ⟨A, c, rfl, hsl10.fr hf11 fun g _ h1 h2 => by have h2 : g = b := h2; omega, (hfill10.s.weak (T := Z) (fun g _ hz => .inl hz) hzb).fr hf11 (fun g _ h => .inr h) hkn, hfw.trans hf11 fun _ _ h => h⟩
    have hF2d : MapV Tryz.prog 141 w10.drew b F2 := hF2.same rfl
    clear hcomp HFI9 hfr10 hown10 hfill10 hsl10 hF2 hF2v hfw hk10 hm ecut hekin HK7 HB7
    generalize endsI ns L k i = E at *
    go_wp2_with fail
    go_still_tail 6, (by kernel_rfl)
    change wpList _ _ _ _ _ w10.drew
    refine wpList_update_mapV (by rfl) _ _ _ 101 rfl 141 45 keyed_key Tryz.underlying101 b 20000 F2 code2 hcode1 hcode2 (by unfold maxLen; omega) rfl hF2d _ _ (K2 k i) rfl rfl HKEY.out ?_
    intro w11 hm11 hg11
    have HO := Lib.hid (HFIN.out w11 hm11 hg11)
    clear hm11 hg11 HFIN hF2d hcode1 hcode2 z2 q0 q1
    go_wp2_with fail
    go_ret
    exact HO.out
theorem ends_any (hns : NodesOk ns) (hkids : Kids ns) : ∀ (f k : Nat), ns.length - k ≤ f → k < ns.length → EndsOk ns L An Al cn cl sp b k
  | 0, k, h1, h2 => by omega
  | f + 1, k, h1, h2 => by
    have hx : ns[k]? = some ns[k] := List.getElem?_eq_getElem h2
    obtain ⟨hno, hkl⟩ := hns k _ hx
    refine ends_step hx hno hkl fun c hc => ?_
    have := hkids k _ hx c hc
    exact ends_any hns hkids f c.toNat (by omega) (by omega)
end
end Go.Proofs.YtimhlnndobfehaaGreatDoor
namespace Go.Proofs.YtimhlnndobfehaaGreatDoor
open Go.RowKit
set_option linter.unusedVariables false

theorem bld_size : (Tryz.prog.info? 70).map (·.size) = some 2 := by kernel_rfl
theorem bld_lies : liesAt Tryz.prog Tryz.prog.depth 70 (2 / Tryz.prog.cellsOf 70) 0 70 1 = true := by kernel_rfl
theorem bld_byte : (Tryz.prog.info? 5).map (fun i => (i.zero, i.size, i.bytes)) = some (some (.int .u8 0), 1, 1) := by kernel_rfl

/-- A builder of the call's own in block b, from block B on, that holds the bytes l. -/
def Bld (B b : Nat) (l : List UInt8) (w : World) : Prop := Lib.IsBuilder 70 5 B b (Lib.byteCells l) w
/-- All blocks but b and rows of bytes stand as they stood. -/
def Oth (b : Nat) (w w' : World) : Prop := Lib.OthersKept 5 (some b) w w'

set_option maxHeartbeats 1000000 in
set_option maxRecDepth 100000 in
theorem copyCheck_used (b : Nat) (w : World) (h0 : w.cell? ⟨b, 0, none⟩ = some (.pointer (some ⟨b, 0, none⟩))) :
    Calls Tryz.prog 72 #[.pointer (some ⟨b, 0, none⟩)] w fun e w' => e = .returned (.tuple #[]) ∧ w = w' := by
  obtain ⟨j, hj, _⟩ := Option.map_eq_some_iff.1 bld_size
  go_enter Tryz.func72, Tryz.ntmps72
  go_wp2
  rw [Lib.run_neq_ptr_same w _ Tryz.underlying67 hj]
  go_wp2
  go_end0
  exact ⟨rfl, rfl⟩

set_option maxHeartbeats 1000000 in
set_option maxRecDepth 100000 in
theorem copyCheck_fresh (b : Nat) (w : World) (h0 : w.cell? ⟨b, 0, none⟩ = some (.pointer none)) (hsh : w.shape? b = some (70, 2)) (hfz : w.frozen? ⟨b, 0, none⟩ = false) :
    Calls Tryz.prog 72 #[.pointer (some ⟨b, 0, none⟩)] w fun e w' => e = .returned (.tuple #[]) ∧ w' = w.setCell ⟨b, 0, none⟩ (.pointer (some ⟨b, 0, none⟩)) := by
  obtain ⟨j, hj, hjs⟩ := Option.map_eq_some_iff.1 bld_size
  go_enter Tryz.func72, Tryz.ntmps72
  go_wp2
  rw [Lib.run_to_unsafe w ⟨b, 0, none⟩ Tryz.underlying67 Tryz.underlying151 hj (by rw [hjs]; decide) hsh (Nat.zero_lt_succ 1)]
  simp only [Result.andThen]
  rw [Oper.upon_value]
  go_wp2
  rw [run_callFunc_extern Tryz.func102 (by kernel_rfl) (by kernel_rfl) (by kernel_rfl) (e := Extern.AbiNoEscape.same) (by kernel_rfl)]
  rw [Lib.run_noEscape]
  simp only [Result.andThen]
  rw [Oper.upon_value]
  go_wp2
  rw [Lib.run_from_unsafe w ⟨b, 0, none⟩ Tryz.underlying151 Tryz.underlying67 hj hsh bld_lies]
  simp only [Result.andThen]
  rw [Oper.upon_value]
  go_wp2
  go_end0
  exact ⟨rfl, rfl⟩

theorem copyCheck_any (B b : Nat) (bs : List Value) (w : World) (h : Lib.IsBuilder 70 5 B b bs w) :
    Calls Tryz.prog 72 #[.pointer (some ⟨b, 0, none⟩)] w fun e w' => e = .returned (.tuple #[]) ∧ Lib.BuilderAt 70 5 B b (.pointer (some ⟨b, 0, none⟩)) bs w' ∧ Below B w w' ∧ Oth b w w' := by
  rcases h with h | h
  · refine (copyCheck_fresh b w h.cell0 h.shape h.frozen0).mono ?_
    rintro e w' ⟨rfl, rfl⟩
    exact ⟨rfl, h.used _, (Below.refl B w).setCell (p := ⟨b, 0, none⟩) h.1 _, (Lib.OthersKept.refl _ (some b) w).setCell ⟨b, 0, none⟩ rfl _⟩
  · refine (copyCheck_used b w h.cell0).mono ?_
    rintro e w' ⟨rfl, rfl⟩
    exact ⟨rfl, h, Below.refl B _, Lib.OthersKept.refl _ _ _⟩

theorem own_kind {w : World} {B : Nat} {e : TypeId} {v : Value} {n : Nat} {xs : List Value} (h : w.ownsRow B e 1 v n xs) : ∀ g, v.ownBlock = some g → ∃ c fz, w.heap[g]? = some (.cells c e fz) := by
  intro g hg
  rcases h.2 with ⟨rfl, _⟩ | ⟨g', cap, cur, rfl, _, hgg, _⟩
  · simp [Value.ownBlock] at hg
  · simp [Value.ownBlock] at hg
    subst hg
    exact ⟨cur, _, hgg⟩

set_option maxHeartbeats 1000000 in
set_option maxRecDepth 100000 in
theorem WriteString_any (B b : Nat) (l : List UInt8) (s : ByteArray) (w : World) (h : Bld B b l w) (hlen : l.length + s.size ≤ 140737488355328) (hBw : B ≤ w.heap.size) :
    Calls Tryz.prog 43 #[.pointer (some ⟨b, 0, none⟩), .string s] w fun e w' => e = .returned (.tuple #[.int .i64 s.size, .nilIface]) ∧ Bld B b (l ++ s.data.toList) w' ∧ Below B w w' ∧ Oth b w w' := by
  obtain ⟨i0, hi, hz0, hz1, hz2⟩ := info_parts bld_byte
  have hlen' : (Lib.byteCells l).length + s.size ≤ 140737488355328 := by rw [Lib.byteCells_length]; exact hlen
  go_enter Tryz.func43, Tryz.ntmps43
  go_wp2_with (go_at_call 72; refine (copyCheck_any B b (Lib.byteCells l) _ h).mono ?_)
  rintro e w1 ⟨rfl, h1, hb1, hk1⟩
  obtain ⟨hB, v, hbk, hown, hne⟩ := h1
  have c0 : w1.cell? ⟨b, 0, none⟩ = some (.pointer (some ⟨b, 0, none⟩)) := by rw [Lib.cell_of_heap hbk]; rfl
  have c1 : w1.cell? ⟨b, 1, none⟩ = some v := by rw [Lib.cell_of_heap hbk]; rfl
  go_wp2_with (at_builtin; refine Lib.wpList_append_own_string _ rfl _ _ 68 9 rfl B 5 i0 Tryz.underlying68 Tryz.underlying9 hi hz0 hz1 hz2 _ _ _ rfl hown s rfl ?c3 ?c4 ?c5 ?_)
  case c3 => unfold maxLen; omega
  case c4 => omega
  case c5 => have := hb1.size; omega
  intro v' w2 hown' hgrow _
  have hlt : b < w1.heap.size := by
    rcases Nat.lt_or_ge b w1.heap.size with h' | h'
    · exact h'
    · simp [Array.getElem?_eq_none h'] at hbk
  have hb2 : w2.heap[b]? = some (.cells #[.pointer (some ⟨b, 0, none⟩), v] 70 (0, 0)) := by
    rw [hgrow.block b hlt (fun e => hne e.symm)]
    exact hbk
  have d0 : w2.cell? ⟨b, 0, none⟩ = some (.pointer (some ⟨b, 0, none⟩)) := by rw [Lib.cell_of_heap hb2]; rfl
  have d1 : w2.cell? ⟨b, 1, none⟩ = some v := by rw [Lib.cell_of_heap hb2]; rfl
  have f1 : w2.frozen? ⟨b, 1, none⟩ = false := Lib.frozen_of_heap hb2 1
  obtain ⟨ao, n', cap, rfl⟩ : ∃ ao n' cap, v' = .slice ao n' cap := by
    rcases hown'.2 with ⟨hv, _⟩ | ⟨g, cap, cur, hv, _⟩
    · exact ⟨_, _, _, hv⟩
    · exact ⟨_, _, _, hv⟩
  go_wp2
  go_ret2
  refine ⟨rfl, ?_, ?_, (hk1.grown hgrow (own_kind hown)).setCell ⟨b, 1, none⟩ rfl _⟩
  · refine Or.inr ?_
    rw [Lib.byteCells_append, ← Lib.strCells_eq]
    exact Lib.BuilderAt.put (T := 70) (e := 5) hB hb2 (bs' := Lib.byteCells l ++ Lib.strCells s) (by simpa [Lib.strCells_length] using hown') (by decide)
  · exact (hb1.grown hgrow (by have := hb1.size; omega) (fun k hk => (hown.lt k hk).1)).setCell (p := ⟨b, 1, none⟩) hB _
end Go.Proofs.YtimhlnndobfehaaGreatDoor
