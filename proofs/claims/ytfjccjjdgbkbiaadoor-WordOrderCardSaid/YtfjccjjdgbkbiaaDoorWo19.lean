/- The document's Text; SameRunes; the example that every statement on words opens with. What one of the document's examples says of words. -/
import Derived.Test.YtfjccjjdgbkbiaaDoorWo18
namespace Go.Proofs.YtfjccjjdgbkbiaaDoor
open Go.RowKit
open Go.Lib (Utf8Tabs)
set_option linter.unusedVariables false

set_option maxHeartbeats 2000000 in
theorem sameRunes_yes (A B : Option Addr) (c d : Nat) (l : List Int) (w : World) (h1 : RunesAt w A l) (h2 : RunesAt w B l) :
    Calls Tryd.prog 20 #[.slice A l.length c, .slice B l.length d] w fun e w' => e = .returned (.bool true) ∧ w = w' := by
  have k1 := conv_runes (P := Tryd.prog) (src := 26) (dst := 9) (n := l.length) (c := c) Tryd.underlying26 Tryd.underlying21 Tryd.underlying9 h1 rfl
  have k2 := conv_runes (P := Tryd.prog) (src := 26) (dst := 9) (n := l.length) (c := d) Tryd.underlying26 Tryd.underlying21 Tryd.underlying9 h2 rfl
  generalize encR l = X at *
  generalize l.length = n at *
  clear h1 h2
  go_enter Tryd.func20, Tryd.ntmps20
  go_wp2_with fail
  go_ret
  exact ⟨rfl, rfl⟩

def RTextSt (a : Al) (l : List Int) (W : World) (i : Value) (wr : World) : Prop := ∃ k : Nat, k ≤ l.length ∧ i = .int .i64 (k : Int) ∧ l.all (isLet a) = (l.drop k).all (isLet a) ∧ Below W.heap.size W wr
set_option maxHeartbeats 4000000 in
set_option maxRecDepth 100000 in
theorem rtext_any (A1 A2 A : Option Addr) (c1 c2 c lo hi : Nat) (a : Al) (l : List Int) (w : World) (hin : AlIn w lo w.heap.size A1 A2 a) (hsl : Sl 1 (vInt .i32) w lo w.heap.size A l) (hn : l.length ≤ 9223372036854775807) :
    Calls Tryd.prog 13 #[.agg #[.slice A1 a.feats.length c1, .slice A2 a.lets.length c2], .slice A l.length c] w (StrOut (textS a l) w) := by
  have hal : Below w.heap.size w (w.alloc (.cells #[.slice A1 a.feats.length c1, .slice A2 a.lets.length c2] 25)) := (Below.refl _ _).alloc (Nat.le_refl _) _
  have hr0 := Row.new w 25 [.slice A1 a.feats.length c1, .slice A2 a.lets.length c2]
  have hcall := Lib.hid (rcheck_any A1 A2 c1 c2 lo a _ (hin.on hal))
  have HT : Hid (textS a l = if alOk a = false then (⟨#[]⟩, 7) else if 256 < l.length then (⟨#[]⟩, 4) else if l.all (isLet a) then (encR l, 0) else (⟨#[]⟩, 5)) := rfl
  cases hok : alOk a with
  | false =>
    have he : alE a = 7 := by unfold alE; rw [hok]; rfl
    rw [he] at hcall
    have HTT : Hid (textS a l = (⟨#[]⟩, 7)) := by show _ = _; rw [HT.out, if_pos hok]
    clear hok he HT
    go_enter Tryd.func13, Tryd.ntmps13
    go_wp2_with fail
    refine hcall.out.mono ?_
    rintro e w1 ⟨rfl, hb1⟩
    go_wp2_with fail
    go_ret2
    exact StrOut.mk' HTT.out (hal.trans (hb1.mono (by simp)))
  | true =>
    have he : alE a = 0 := alE_zero.2 hok
    rw [he] at hcall
    have HT1 : Hid (textS a l = if 256 < l.length then (⟨#[]⟩, 4) else if l.all (isLet a) then (encR l, 0) else (⟨#[]⟩, 5)) := by show _ = _; rw [HT.out, if_neg (by rw [hok]; simp)]
    clear hok he HT
    by_cases hlong : 256 < l.length
    · have HTT : Hid (textS a l = (⟨#[]⟩, 4)) := by show _ = _; rw [HT1.out, if_pos hlong]
      go_enter Tryd.func13, Tryd.ntmps13
      go_wp2_with fail
      refine hcall.out.mono ?_
      rintro e w1 ⟨rfl, hb1⟩
      go_wp2_with fail
      go_ret2
      exact StrOut.mk' HTT.out (hal.trans (hb1.mono (by simp)))
    · have HT2 : Hid (textS a l = if l.all (isLet a) then (encR l, 0) else (⟨#[]⟩, 5)) := by show _ = _; rw [HT1.out, if_neg hlong]
      clear HT1
      go_enter Tryd.func13, Tryd.ntmps13
      go_wp2_with fail
      refine hcall.out.mono ?_
      rintro e w1 ⟨rfl, hb1⟩
      have hbw := hal.trans (hb1.mono (by simp))
      have hr1 := hr0.below hb1 hr0.lt
      have hrl := hr1.lt
      have hz1 := hbw.size
      have hs1 := hsl.below (vInt_good _) hbw (Nat.le_refl _)
      clear hcall hb1 hal
      go_wp2_with fail
      go_loopw [7] (fun i wr => RTextSt a l w1 i wr) (fun i _ => l.length - (intOf i).toNat)
      case atStart => exact ⟨0, by omega, rfl, by rw [List.drop_zero], Below.refl _ _⟩
      case round =>
        obtain ⟨k, hk, rfl, hall, hb⟩ := hrel
        have HA := Lib.hid hall
        clear hall
        have hbs := hb.size
        by_cases hlt : k < l.length
        · obtain ⟨bp, op, rfl, _, hbp, ⟨c0, f0⟩, hkin⟩ := ints_at (hs1.below (vInt_good _) hb hz1) hlt
          have hkr := kin_i32 hkin
          have hstep := all_step (isLet a) l k hlt
          have hr2 := hr1.below hb hrl
          obtain ⟨q0, g0⟩ := hr2.cel (i := 0) rfl
          obtain ⟨q1, g1⟩ := hr2.cel (i := 1) rfl
          have hc1 : ∀ wx, Below wr.heap.size wr wx → wx.cell? ⟨bp, op + k, none⟩ = some (.int .i32 l[k]) ∧ wx.cell? ⟨w.heap.size, 0, none⟩ = some (.slice A1 a.feats.length c1) ∧ wx.cell? ⟨w.heap.size, 1, none⟩ = some (.slice A2 a.lets.length c2) := fun wx hx =>
            ⟨(Cel.keep (Kp.of_below hx) (Nat.zero_le _) (by omega) ⟨c0, f0⟩).1, (Cel.keep (Kp.of_below hx) (Nat.zero_le _) (by omega) ⟨q0, g0⟩).1, (Cel.keep (Kp.of_below hx) (Nat.zero_le _) (by omega) ⟨q1, g1⟩).1⟩
          have hnum : ∀ wx, Below wr.heap.size wr wx → Calls Tryd.prog 45 #[.agg #[.slice A1 a.feats.length c1, .slice A2 a.lets.length c2], .int .i32 l[k]] wx fun e w' => e = .returned (.int .i64 (numI a l[k])) ∧ Below wr.heap.size wr w' := fun wx hx => by
            refine (number_any A1 A2 c1 c2 lo a l[k] wx (hin.on ((hbw.trans (hb.mono hz1)).trans (hx.mono (by omega)))) hkr).mono ?_
            rintro e w' ⟨rfl, hy⟩
            exact ⟨rfl, hx.trans (hy.mono hx.size)⟩
          generalize l[k] = x at *
          have HS := Lib.hid hstep
          have HC := Lib.hid hc1
          have HNUM := Lib.hid hnum
          clear hstep hkin hc1 hnum hr2
          have hd : Below wr.heap.size wr wr.drew := below_drewN (Below.refl _ _) 1
          have j0 : 0 ≤ (k : Int) := by omega
          have j1 : (k : Int) < (l.length : Int) := by omega
          cases hisl : isLet a x with
          | false =>
            have hni := numI_no hisl
            rw [hni] at HNUM
            have HF := Lib.hid (fun w2 h => StrOut.mk' (W := w) (w' := w2) (show textS a l = (⟨#[]⟩, 5) by rw [HT2.out, HA.out, HS.out, hisl]; rfl) h)
            clear hisl HA HS HT2 hni
            go_upto_region 9 with (fail)
            refine wp_region_class (fun wx => Below wr.heap.size wr wx) (by kernel_rfl) (by kernel_rfl) hd ?_
            repeat (first
              | go_big_quiet_skip
              | (go_big_quiet_want; go_big_quiet_op; first
                  | go_big_quiet_on
                  | (apply Exists.intro
                     refine ⟨fun wx hx => ?_, ?_⟩
                     · (first
                        | exact rfl
                        | (have e1 := (HC.out wx hx).1; simp only [e1, Result.andThen]; exact ⟨trivial, rfl⟩)
                        | (have e1 := (HC.out wx hx).2.1; have e2 := (HC.out wx hx).2.2; simp only [e1, e2, Result.andThen]; exact ⟨trivial, rfl⟩)
                        | (go_at_call 45; with_reducible exact HNUM.out wx hx))
                     go_big_quiet_on)))
            refine wpQuiet_nil ?_
            intro w5 hq
            have hb5 := hb.trans (hq.mono hbs)
            clear HC HNUM
            go_wp2_with fail
            go_ret2
            exact HF.out _ (hbw.trans (hb5.mono hz1))
          | true =>
            have hni := (numI_yes hisl).1
            generalize numI a x = ni at *
            have HN : Hid (l.all (isLet a) = (l.drop (k + 1)).all (isLet a)) := by show _ = _; rw [HA.out, HS.out, hisl, Bool.true_and]
            clear hisl HA HS
            go_upto_region 9 with (fail)
            refine wp_region_class (fun wx => Below wr.heap.size wr wx) (by kernel_rfl) (by kernel_rfl) hd ?_
            repeat (first
              | go_big_quiet_skip
              | (go_big_quiet_want; go_big_quiet_op; first
                  | go_big_quiet_on
                  | (apply Exists.intro
                     refine ⟨fun wx hx => ?_, ?_⟩
                     · (first
                        | exact rfl
                        | (have e1 := (HC.out wx hx).1; simp only [e1, Result.andThen]; exact ⟨trivial, rfl⟩)
                        | (have e1 := (HC.out wx hx).2.1; have e2 := (HC.out wx hx).2.2; simp only [e1, e2, Result.andThen]; exact ⟨trivial, rfl⟩)
                        | (go_at_call 45; with_reducible exact HNUM.out wx hx))
                     go_big_quiet_on)))
            refine wpQuiet_nil ?_
            intro w5 hq
            have hb5 := hb.trans (hq.mono hbs)
            clear HC HNUM
            go_wp2_with fail
            exact ⟨⟨k + 1, by omega, by go_num, HN.out, hb5⟩, by simp [intOf]; omega⟩
        · obtain rfl : k = l.length := by omega
          have HF := Lib.hid (StrOut.mk' (show textS a l = (encR l, 0) by rw [HT2.out, HA.out, List.drop_length]; rfl) (hbw.trans (hb.mono hz1)))
          have hconv := conv_runes (P := Tryd.prog) (src := 26) (dst := 9) (n := l.length) (c := c) Tryd.underlying26 Tryd.underlying21 Tryd.underlying9 (runes_sl (hs1.below (vInt_good _) hb hz1)) rfl
          generalize encR l = X at *
          clear HA HT2
          go_wp2_with fail
          go_ret2
          exact HF.out
end Go.Proofs.YtfjccjjdgbkbiaaDoor
namespace Go.Proofs.YtfjccjjdgbkbiaaDoor
open Go.RowKit
open Go.Lib (Utf8Tabs)
set_option linter.unusedVariables false

def abcA : Al := ⟨[⟨#[118]⟩], [⟨97, 1, 0⟩, ⟨98, 0, 1⟩, ⟨99, 0, 1⟩]⟩
def AbcOut (w : World) (e : Ending) (w' : World) : Prop := ∃ b, e = .returned (.agg #[.slice (some ⟨b, 0, none⟩) 1 1, .slice (some ⟨b + 1, 0, none⟩) 3 3]) ∧ AlIn w' 0 w'.heap.size (some ⟨b, 0, none⟩) (some ⟨b + 1, 0, none⟩) abcA ∧ Below w.heap.size w w'
theorem res_alphabet {fn : Func} {p : Tmp} (h : fn.results = #[.cell p 25]) (tmps : Array Value) (w : World) (g : Nat) (c0 c1 : Value) (hp : tmps.getD p undef = .pointer (some ⟨g, 0, none⟩)) (hg : Row w g 25 [c0, c1]) :
    (results fn tmps).run Tryd.prog w = .ok (.agg #[c0, c1]) w :=
  results_cell_row h tmps w g 25 #[c0, c1] (0, 0) _ hp hg Tryd.underlying25 rfl (by kernel_rfl)
theorem kin32 {n : Int} (h : -2147483648 ≤ n ∧ n ≤ 2147483647) : kin .i32 n := by simpa [kin, Lit.wf, IntKind.min, IntKind.max, IntKind.signed, IntKind.bits]
theorem row_lets {w : World} {g lo hi : Nat} {t : TypeId} (h : Row w g t [.int .i32 97, .int .u32 1, .int .u32 0, .int .i32 98, .int .u32 0, .int .u32 1, .int .i32 99, .int .u32 0, .int .u32 1]) (h1 : lo ≤ g) (h2 : g < hi) :
    Sl 3 vLt w lo hi (some ⟨g, 0, none⟩) abcA.lets := fun _ => by
  refine ⟨g, 0, rfl, h1, h2, fun i x hx => ?_⟩
  match i, hx with
  | 0, hx =>
    obtain rfl := Option.some.inj hx
    refine ⟨[.int .i32 97, .int .u32 1, .int .u32 0], rfl, fun j v hj => ?_, rfl, kin32 (by decide), by decide, by decide⟩
    match j, hj with
    | 0, hj => obtain rfl := Option.some.inj hj; exact h.cel (i := 0) rfl
    | 1, hj => obtain rfl := Option.some.inj hj; exact h.cel (i := 1) rfl
    | 2, hj => obtain rfl := Option.some.inj hj; exact h.cel (i := 2) rfl
  | 1, hx =>
    obtain rfl := Option.some.inj hx
    refine ⟨[.int .i32 98, .int .u32 0, .int .u32 1], rfl, fun j v hj => ?_, rfl, kin32 (by decide), by decide, by decide⟩
    match j, hj with
    | 0, hj => obtain rfl := Option.some.inj hj; exact h.cel (i := 3) rfl
    | 1, hj => obtain rfl := Option.some.inj hj; exact h.cel (i := 4) rfl
    | 2, hj => obtain rfl := Option.some.inj hj; exact h.cel (i := 5) rfl
  | 2, hx =>
    obtain rfl := Option.some.inj hx
    refine ⟨[.int .i32 99, .int .u32 0, .int .u32 1], rfl, fun j v hj => ?_, rfl, kin32 (by decide), by decide, by decide⟩
    match j, hj with
    | 0, hj => obtain rfl := Option.some.inj hj; exact h.cel (i := 6) rfl
    | 1, hj => obtain rfl := Option.some.inj hj; exact h.cel (i := 7) rfl
    | 2, hj => obtain rfl := Option.some.inj hj; exact h.cel (i := 8) rfl
theorem boxes3 (w : World) (t1 t2 t3 : TypeId) (l1 l2 l3 : List Value) :
    Row (((w.alloc (.cells l1.toArray t1)).alloc (.cells l2.toArray t2)).alloc (.cells l3.toArray t3)) w.heap.size t1 l1 ∧ Row (((w.alloc (.cells l1.toArray t1)).alloc (.cells l2.toArray t2)).alloc (.cells l3.toArray t3)) (w.heap.size + 1) t2 l2 ∧
    Row (((w.alloc (.cells l1.toArray t1)).alloc (.cells l2.toArray t2)).alloc (.cells l3.toArray t3)) (w.heap.size + 1 + 1) t3 l3 ∧ Below w.heap.size w (((w.alloc (.cells l1.toArray t1)).alloc (.cells l2.toArray t2)).alloc (.cells l3.toArray t3)) ∧ (((w.alloc (.cells l1.toArray t1)).alloc (.cells l2.toArray t2)).alloc (.cells l3.toArray t3)).heap.size = w.heap.size + 3 := by
  have h1 := Row.new w t1 l1
  have h2 := Row.new (w.alloc (.cells l1.toArray t1)) t2 l2
  have h3 := Row.new ((w.alloc (.cells l1.toArray t1)).alloc (.cells l2.toArray t2)) t3 l3
  rw [show (w.alloc (.cells l1.toArray t1)).heap.size = w.heap.size + 1 by simp] at h2
  rw [show ((w.alloc (.cells l1.toArray t1)).alloc (.cells l2.toArray t2)).heap.size = w.heap.size + 1 + 1 by simp] at h3
  exact ⟨(h1.alloc _).alloc _, h2.alloc _, h3, (((Below.refl _ _).alloc (Nat.le_refl _) _).alloc (by simp) _).alloc (by simp; omega) _, by simp⟩

set_option maxHeartbeats 2000000 in
theorem abc_any (w : World) : Calls Tryd.prog 40 #[] w (AbcOut w) := by
  go_enter Tryd.func40, Tryd.ntmps40
  go_wp2_with fail
  obtain ⟨r1, r2, r3, hb, hz⟩ := boxes3 w 25 9 84 [.slice (some ⟨w.heap.size + 1, 0, none⟩) 1 1, .slice (some ⟨w.heap.size + 1 + 1, 0, none⟩) 3 3] [.string ⟨#[118]⟩] [.int .i32 97, .int .u32 1, .int .u32 0, .int .i32 98, .int .u32 0, .int .u32 1, .int .i32 99, .int .u32 0, .int .u32 1]
  refine bodyPost_ret (res_alphabet rfl _ _ w.heap.size _ _ rfl r1) rfl ?_
  refine ⟨w.heap.size + 1, rfl, ⟨?_, row_lets r3 (Nat.zero_le _) (by rw [hz]; omega), by decide, by decide⟩, hb⟩
  refine Row.sl (V := vStr) (xs := ([⟨#[118]⟩] : List ByteArray)) r2 rfl (Nat.zero_le _) (by rw [hz]; omega) (fun i x v hx hv => ?_)
  match i, hx, hv with
  | 0, hx, hv =>
    obtain rfl := Option.some.inj hx
    obtain rfl := Option.some.inj hv
    exact ⟨rfl, by decide⟩
theorem abc_turned : turnedS abcA ⟨#[97, 98, 99]⟩ = (⟨#[99, 98, 97]⟩, 0) := by kernel_rfl

set_option maxHeartbeats 2000000 in
theorem awake_any (w : World) (hT : Utf8Tabs 0 1 w) : Calls Tryd.prog 9 #[] w fun e w' => e = .returned (.bool true) ∧ Below w.heap.size w w' := by
  go_enter Tryd.func9, Tryd.ntmps9
  go_wp2_with (go_at_call 40; refine (abc_any _).mono ?_; rintro e w1 ⟨b, rfl, hin, hb1⟩)
  have hc := turned_any _ _ 1 3 0 abcA ⟨#[97, 98, 99]⟩ w1 hin (Utf8Tabs_below hT hb1) (by decide)
  rw [show StrOut (turnedS abcA ⟨#[97, 98, 99]⟩) w1 = StrOut (⟨#[99, 98, 97]⟩, 0) w1 by rw [abc_turned]] at hc
  go_wp2_with (go_at_call 16; refine Calls.mono hc ?_; rintro e w2 ⟨rfl, hb2⟩)
  go_ret
  exact ⟨rfl, hb1.trans (hb2.mono hb1.size)⟩
end Go.Proofs.YtfjccjjdgbkbiaaDoor
