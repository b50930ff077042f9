/- spans, with the closure of All; with the closure of First. -/
import Derived.Test.YtimhlnndobfehaaDoorMc31
namespace Go.Proofs.YtimhlnndobfehaaDoor
open Go.RowKit
set_option linter.unusedVariables false

section
variable {ns : List Nd} {L : List Lt} {An Al : Option Addr} {cn cl sp b : Nat} {w wr w' : World}
theorem ends_last {ns : List Nd} {L : List Lt} {i : Nat} (h : 0 < (endsI ns L 0 i).length) : ∃ t : Nat, (endsL ns L 0 i).getLast? = some t ∧ (endsI ns L 0 i)[(endsI ns L 0 i).length - 1]? = some (t : Int) ∧ t ≤ L.length := by
  have hl : (endsI ns L 0 i).length = (endsL ns L 0 i).length := by unfold endsI; exact toI_len _
  have hne : (endsL ns L 0 i) ≠ [] := fun e => by rw [hl, e] at h; simp at h
  refine ⟨(endsL ns L 0 i).getLast hne, List.getLast?_eq_some_getLast hne, ?_, ends_le (List.getLast_mem hne)⟩
  rw [hl]
  unfold endsI toI
  rw [List.getElem?_map, ← List.getLast?_eq_getElem?, List.getLast?_eq_some_getLast hne]
  rfl
theorem ends_nil {ns : List Nd} {L : List Lt} {i : Nat} (h : (endsI ns L 0 i).length = 0) : endsL ns L 0 i = [] := by
  unfold endsI at h
  rw [toI_len] at h
  exact List.eq_nil_of_length_eq_zero h
def AlSt (ns : List Nd) (L : List Lt) (An Al : Option Addr) (cn cl sp b bl : Nat) (W : World) (x : Value) (wr : World) : Prop :=
  ∃ (i : Nat) (acc : List (Nat × Nat)) (A : Option Addr) (c : Nat), x = .int .i64 (i : Int) ∧ i ≤ L.length + 1 ∧ acc.length ≤ i ∧ Hid (spanL ns L 0 = acc ++ spanL ns L i) ∧ SpCell W wr bl acc A c ∧ Srch ns L An Al cn cl sp b (fun g => g = bl ∨ (Value.slice A acc.length c).ownBlock = some g) wr ∧ Fr (fun g => g = b ∨ g = bl) W wr
set_option maxHeartbeats 8000000 in
set_option maxRecDepth 100000 in
theorem spans_all {bl : Nat} (hns : NodesOk ns) (hpos : 1 ≤ ns.length) (h : Srch ns L An Al cn cl sp b (fun g => g = bl) w) (hr : Row w bl 58 [.slice none 0 0]) :
    Calls Tryd.prog 59 #[.pointer (some ⟨sp, 0, none⟩), .func (.func 60) #[] #[.pointer (some ⟨bl, 0, none⟩)]] w fun e w' => e = .returned (.tuple #[]) ∧ (∃ A c, SpCell w w' bl (spanL ns L 0) A c) ∧ Fr (fun g => g = b ∨ g = bl) w w' := by
  have hn2 := h.n2
  have hbw := h.lt
  have hblw := hr.lt
  have hbl := h.zb bl rfl
  have hst : AlSt ns L An Al cn cl sp b bl w (.int .i64 0) w := ⟨0, [], none, 0, rfl, by omega, by simp, by show _ = _; simp, ⟨hr, World.ownsRow_nil _ _ _ _⟩, h.weak (fun g _ hg => hg.elim id fun e => by cases e) (fun g hg => hg.elim (fun e => by omega) fun e => by cases e), Fr.refl _ _⟩
  have HST := Lib.hid hst
  clear hst h hr
  go_enter Tryd.func59, Tryd.ntmps59
  go_wp2_with fail
  go_loopw [4] (fun x wr => AlSt ns L An Al cn cl sp b bl w x wr) (fun x _ => L.length + 2 - (intOf x).toNat)
  case atStart => exact HST.out
  case round =>
    clear HST
    obtain ⟨i, acc, A, c, rfl, hi, hal, hsp, hcell, hs, hfr⟩ := hrel
    have hbs := hfr.size
    obtain ⟨z1, _⟩ := hs.row.cel (i := 1) rfl
    have hspl := hs.row.lt
    by_cases hlt : i ≤ L.length
    · have hcall := Lib.hid (hs.ends hns hpos (fun g hg => hg.elim (fun e => by omega) fun e => (hcell.own.lt g e).2) hlt)
      have j1 : (i : Int) ≤ (L.length : Int) := by omega
      have HCELL := Lib.hid hcell
      have HFR := Lib.hid hfr
      clear hcell hs hfr
      by_cases h0 : (endsI ns L 0 i).length = 0
      · have hen := ends_nil h0
        have HSP : Hid (spanL ns L 0 = acc ++ spanL ns L (i + 1)) := by show _ = _; rw [hsp.out, span_none hlt hen]
        have h0' : ((endsI ns L 0 i).length : Int) = 0 := by omega
        clear hsp hen
        generalize endsI ns L 0 i = E at *
        go_wp2_with fail
        refine hcall.out.mono ?_
        rintro e w2 ⟨A2, c2, rfl, hsl2, hs2, hfr2⟩
        have hfin : AlSt ns L An Al cn cl sp b bl w (.int .i64 ((i : Int) + 1)) w2 :=
          ⟨i + 1, acc, A, c, by simp, by omega, by omega, HSP.out, ⟨(hfr2.block bl HCELL.out.row.lt (by show ¬ bl = b; omega)).trans HCELL.out.row, own_fr HCELL.out.own hfr2 (fun g hg e => by have h1 := (HCELL.out.own.lt g hg).1; have h2 : g = b := e; omega)⟩, hs2, HFR.out.trans hfr2 fun g _ e => .inl e⟩
        have HFIN := Lib.hid hfin
        clear hfin hsl2 hs2 hfr2 hcall HSP HCELL HFR
        go_wp2_with fail
        exact ⟨HFIN.out, by simp [intOf]; omega⟩
      · obtain ⟨t, ht1, ht2, ht3⟩ := ends_last (Nat.pos_of_ne_zero h0)
        have HSP : Hid (spanL ns L 0 = (acc ++ [(i, t)]) ++ spanL ns L (max (i + 1) t)) := by show _ = _; rw [hsp.out, span_some hlt ht1]; simp
        have h0' : ¬ ((endsI ns L 0 i).length : Int) = 0 := by omega
        have hel := endsI_len ns L 0 i
        clear hsp ht1
        generalize endsI ns L 0 i = E at *
        go_wp2_with fail
        refine hcall.out.mono ?_
        rintro e w2 ⟨A2, c2, rfl, hsl2, hs2, hfr2⟩
        have hcell2 : SpCell w w2 bl acc A c := ⟨(hfr2.block bl HCELL.out.row.lt (by show ¬ bl = b; omega)).trans HCELL.out.row, own_fr HCELL.out.own hfr2 (fun g hg e => by have h1 := (HCELL.out.own.lt g hg).1; have h2 : g = b := e; omega)⟩
        have hfr3 := HFR.out.trans hfr2 (fun g _ e => .inl e)
        obtain ⟨ge, oe, rfl, _, hge, ⟨y0, _⟩, _⟩ := ints_at hsl2.1 (i := E.length - 1) (by omega)
        have hel1 : E[E.length - 1]'(by omega) = (t : Int) := (List.getElem?_eq_some_iff.1 ht2).2
        rw [hel1] at y0
        have j3 : 0 ≤ (E.length : Int) - 1 := by omega
        have j4 : (E.length : Int) - 1 < (E.length : Int) := by omega
        have j5 : ((E.length : Int) - 1).toNat = E.length - 1 := by omega
        have hc1 := Lib.hid (all1_any hcell2 hblw hfr3.size (by omega) (i, t))
        have HS2 := Lib.hid hs2
        have HFR3 := Lib.hid hfr3
        have HC2 := Lib.hid hcell2
        clear hcall HCELL HFR hsl2 hs2 hfr2 hcell2 hfr3 hel1 ht2
        go_wp2_with fail
        refine hc1.out.mono ?_
        rintro e w3 ⟨rfl, A3, c3, hcell3, hfr4, hat⟩
        have hs3 : Srch ns L An Al cn cl sp b (fun g => g = bl ∨ (Value.slice A3 (acc ++ [(i, t)]).length c3).ownBlock = some g) w3 := by
          have h1 := HS2.out.weak (T := fun g => (g = bl ∨ (Value.slice A acc.length c).ownBlock = some g) ∨ (Value.slice A3 (acc ++ [(i, t)]).length c3).ownBlock = some g) (fun g hg hz => by
            rcases hz with hz | hz
            · exact hz
            · rcases hat g hz with h | h
              · exact .inr h
              · omega) (fun g hz => by
            rcases hz with hz | hz
            · exact HS2.out.zb g hz
            · have := (hcell3.own.lt g hz).1; omega)
          have h2 := h1.touch hfr4 fun g _ hg => .inl hg
          exact h2.weak (fun g _ hz => hz.elim (fun e => .inl (.inl e)) .inr) (fun g hz => h2.zb g (hz.elim (fun e => .inl (.inl e)) .inr))
        have hfr5 : Fr (fun g => g = b ∨ g = bl) w w3 := HFR3.out.trans hfr4 fun g hg e => e.elim .inr fun e => absurd (HC2.out.own.lt g e).1 (by omega)
        have hfin : AlSt ns L An Al cn cl sp b bl w (.int .i64 (max ((i : Int) + 1) (t : Int))) w3 := by
          rw [show max ((i : Int) + 1) (t : Int) = ((max (i + 1) t : Nat) : Int) by omega]
          exact ⟨max (i + 1) t, acc ++ [(i, t)], A3, c3, rfl, by omega, by rw [List.length_append]; simp; omega, HSP.out, hcell3, hs3, hfr5⟩
        have HFIN := Lib.hid hfin
        clear hfin hcell3 hs3 hfr4 hfr5 hat hc1 HSP HS2 HFR3 HC2 y0
        go_wp2_with fail
        exact ⟨HFIN.out, by simp [intOf]; omega⟩
    · have j1 : ¬ (i : Int) ≤ (L.length : Int) := by omega
      have hF : spanL ns L 0 = acc := by rw [hsp.out, span_end (by omega), List.append_nil]
      have HFIN : Hid ((∃ A c, SpCell w wr bl (spanL ns L 0) A c) ∧ Fr (fun g => g = b ∨ g = bl) w wr) := ⟨⟨A, c, by rw [hF]; exact hcell⟩, hfr⟩
      clear hsp hcell hs hfr hF
      go_wp2_with fail
      go_end0
      exact ⟨rfl, HFIN.out⟩
/-- The first span, in two cells. -/
structure FirCell (w : World) (b1 b2 : Nat) (x : Option (Nat × Nat)) : Prop where
  r1 : Row w b1 62 (spanC (x.getD (0, 0)))
  r2 : Row w b2 4 [.bool x.isSome]
set_option maxHeartbeats 4000000 in
theorem first1_any {w : World} {b1 b2 : Nat} {y : Option (Nat × Nat)} (h : FirCell w b1 b2 y) (hne : b1 ≠ b2) (x : Nat × Nat) :
    Calls Tryd.prog 62 #[.agg #[.int .i64 (x.1 : Int), .int .i64 (x.2 : Int)], .pointer (some ⟨b1, 0, none⟩), .pointer (some ⟨b2, 0, none⟩)] w fun e w' => e = .returned (.bool false) ∧ FirCell w' b1 b2 (some x) ∧ Fr (fun g => g = b1 ∨ g = b2) w w' := by
  obtain ⟨h1, h2⟩ := h
  obtain ⟨x1, x2⟩ := x
  obtain ⟨c0, f0⟩ := h1.cel (i := 0) rfl
  obtain ⟨c1, f1⟩ := h1.cel (i := 1) rfl
  obtain ⟨c2, f2⟩ := h2.cel (i := 0) rfl
  have l1 := h1.lt
  have l2 := h2.lt
  simp only at *
  have hfin : FirCell ((((w.setCell ⟨b1, 0, none⟩ (.int .i64 (x1 : Int))).setCell ⟨b1, 1, none⟩ (.int .i64 (x2 : Int))).setCell ⟨b2, 0, none⟩ (.bool true)).alloc (.cells #[.int .i64 (x1 : Int), .int .i64 (x2 : Int)] 62)) b1 b2 (some (x1, x2)) ∧ Fr (fun g => g = b1 ∨ g = b2) w ((((w.setCell ⟨b1, 0, none⟩ (.int .i64 (x1 : Int))).setCell ⟨b1, 1, none⟩ (.int .i64 (x2 : Int))).setCell ⟨b2, 0, none⟩ (.bool true)).alloc (.cells #[.int .i64 (x1 : Int), .int .i64 (x2 : Int)] 62)) := by
    have q1 := (((h1.set_ 0 (.int .i64 (x1 : Int))).set_ 1 (.int .i64 (x2 : Int))).far (p := ⟨b2, 0, none⟩) hne (.bool true)).alloc (.cells #[.int .i64 (x1 : Int), .int .i64 (x2 : Int)] 62)
    have q2 := (((h2.far (p := ⟨b1, 0, none⟩) (Ne.symm hne) (.int .i64 (x1 : Int))).far (p := ⟨b1, 1, none⟩) (Ne.symm hne) (.int .i64 (x2 : Int))).set_ 0 (.bool true)).alloc (.cells #[.int .i64 (x1 : Int), .int .i64 (x2 : Int)] 62)
    exact ⟨⟨q1, q2⟩, ((((Fr.refl _ w).setc _ _ fun _ => .inl rfl).setc _ _ fun _ => .inl rfl).setc _ _ fun _ => .inr rfl).alloc _⟩
  have HFIN := Lib.hid hfin
  clear hfin h1 h2
  go_enter Tryd.func62, Tryd.ntmps62
  go_wp2_with fail
  go_ret
  exact ⟨rfl, HFIN.out⟩
def FiSt (ns : List Nd) (L : List Lt) (An Al : Option Addr) (cn cl sp b b1 b2 : Nat) (W : World) (x : Value) (wr : World) : Prop :=
  ∃ (i : Nat), x = .int .i64 (i : Int) ∧ i ≤ L.length + 1 ∧ Hid (spanL ns L 0 = spanL ns L i) ∧ FirCell wr b1 b2 none ∧ Srch ns L An Al cn cl sp b (fun g => g = b1 ∨ g = b2) wr ∧ Fr (fun g => g = b ∨ g = b1 ∨ g = b2) W wr
set_option maxHeartbeats 8000000 in
set_option maxRecDepth 100000 in
theorem spans_first {b1 b2 : Nat} (hns : NodesOk ns) (hpos : 1 ≤ ns.length) (h : Srch ns L An Al cn cl sp b (fun g => g = b1 ∨ g = b2) w) (hr : FirCell w b1 b2 none) (hne : b1 ≠ b2) :
    Calls Tryd.prog 59 #[.pointer (some ⟨sp, 0, none⟩), .func (.func 62) #[] #[.pointer (some ⟨b1, 0, none⟩), .pointer (some ⟨b2, 0, none⟩)]] w fun e w' => e = .returned (.tuple #[]) ∧ FirCell w' b1 b2 (spanL ns L 0).head? ∧ Fr (fun g => g = b ∨ g = b1 ∨ g = b2) w w' := by
  have hn2 := h.n2
  have hbw := h.lt
  have hb1 := h.zb b1 (.inl rfl)
  have hb2 := h.zb b2 (.inr rfl)
  have hst : FiSt ns L An Al cn cl sp b b1 b2 w (.int .i64 0) w := ⟨0, rfl, by omega, rfl, hr, h, Fr.refl _ _⟩
  have HST := Lib.hid hst
  clear hst h hr
  go_enter Tryd.func59, Tryd.ntmps59
  go_wp2_with fail
  go_loopw [4] (fun x wr => FiSt ns L An Al cn cl sp b b1 b2 w x wr) (fun x _ => L.length + 2 - (intOf x).toNat)
  case atStart => exact HST.out
  case round =>
    clear HST
    obtain ⟨i, rfl, hi, hsp, hcell, hs, hfr⟩ := hrel
    have hbs := hfr.size
    obtain ⟨z1, _⟩ := hs.row.cel (i := 1) rfl
    have hspl := hs.row.lt
    by_cases hlt : i ≤ L.length
    · have hcall := Lib.hid (hs.ends hns hpos (fun g hg => hg.elim (fun e => by rw [e]; exact hcell.r1.lt) fun e => by rw [e]; exact hcell.r2.lt) hlt)
      have j1 : (i : Int) ≤ (L.length : Int) := by omega
      have HCELL := Lib.hid hcell
      have HFR := Lib.hid hfr
      clear hcell hs hfr
      by_cases h0 : (endsI ns L 0 i).length = 0
      · have hen := ends_nil h0
        have HSP : Hid (spanL ns L 0 = spanL ns L (i + 1)) := by show _ = _; rw [hsp.out, span_none hlt hen]
        have h0' : ((endsI ns L 0 i).length : Int) = 0 := by omega
        clear hsp hen
        generalize endsI ns L 0 i = E at *
        go_wp2_with fail
        refine hcall.out.mono ?_
        rintro e w2 ⟨A2, c2, rfl, hsl2, hs2, hfr2⟩
        have hfin : FiSt ns L An Al cn cl sp b b1 b2 w (.int .i64 ((i : Int) + 1)) w2 :=
          ⟨i + 1, by simp, by omega, HSP.out, ⟨(hfr2.block b1 HCELL.out.r1.lt (by show ¬ b1 = b; omega)).trans HCELL.out.r1, (hfr2.block b2 HCELL.out.r2.lt (by show ¬ b2 = b; omega)).trans HCELL.out.r2⟩, hs2, HFR.out.trans hfr2 fun g _ e => .inl e⟩
        have HFIN := Lib.hid hfin
        clear hfin hsl2 hs2 hfr2 hcall HSP HCELL HFR
        go_wp2_with fail
        exact ⟨HFIN.out, by simp [intOf]; omega⟩
      · obtain ⟨t, ht1, ht2, ht3⟩ := ends_last (Nat.pos_of_ne_zero h0)
        have HSP : Hid ((spanL ns L 0).head? = some (i, t)) := by show _ = _; rw [hsp.out, span_some hlt ht1]; rfl
        have h0' : ¬ ((endsI ns L 0 i).length : Int) = 0 := by omega
        have hel := endsI_len ns L 0 i
        clear hsp ht1
        generalize endsI ns L 0 i = E at *
        go_wp2_with fail
        refine hcall.out.mono ?_
        rintro e w2 ⟨A2, c2, rfl, hsl2, hs2, hfr2⟩
        have hcell2 : FirCell w2 b1 b2 none := ⟨(hfr2.block b1 HCELL.out.r1.lt (by show ¬ b1 = b; omega)).trans HCELL.out.r1, (hfr2.block b2 HCELL.out.r2.lt (by show ¬ b2 = b; omega)).trans HCELL.out.r2⟩
        have hfr3 := HFR.out.trans hfr2 (fun g _ e => .inl e)
        obtain ⟨ge, oe, rfl, _, hge, ⟨y0, _⟩, _⟩ := ints_at hsl2.1 (i := E.length - 1) (by omega)
        have hel1 : E[E.length - 1]'(by omega) = (t : Int) := (List.getElem?_eq_some_iff.1 ht2).2
        rw [hel1] at y0
        have j3 : 0 ≤ (E.length : Int) - 1 := by omega
        have j4 : (E.length : Int) - 1 < (E.length : Int) := by omega
        have j5 : ((E.length : Int) - 1).toNat = E.length - 1 := by omega
        have hc1 := Lib.hid (first1_any hcell2 hne (i, t))
        have HFR3 := Lib.hid hfr3
        clear hcall HCELL HFR hsl2 hs2 hfr2 hcell2 hfr3 hel1 ht2
        go_wp2_with fail
        refine hc1.out.mono ?_
        rintro e w3 ⟨rfl, hcell3, hfr4⟩
        have HFIN : Hid (FirCell w3 b1 b2 (spanL ns L 0).head? ∧ Fr (fun g => g = b ∨ g = b1 ∨ g = b2) w w3) := ⟨by rw [HSP.out]; exact hcell3, HFR3.out.trans hfr4 fun g _ e => .inr e⟩
        clear hcell3 hfr4 hc1 HSP HFR3 y0
        go_wp2_with fail
        (try simp only [Exit.inBlock, Exit.then])
        refine bodyPost_ret (results_none rfl _ _ _) rfl ?_
        exact ⟨rfl, HFIN.out⟩
    · have j1 : ¬ (i : Int) ≤ (L.length : Int) := by omega
      have HFIN : Hid (FirCell wr b1 b2 (spanL ns L 0).head? ∧ Fr (fun g => g = b ∨ g = b1 ∨ g = b2) w wr) := ⟨by rw [hsp.out, span_end (by omega)]; exact hcell, hfr⟩
      clear hsp hcell hs hfr
      go_wp2_with fail
      go_end0
      exact ⟨rfl, HFIN.out⟩
end
end Go.Proofs.YtimhlnndobfehaaDoor
