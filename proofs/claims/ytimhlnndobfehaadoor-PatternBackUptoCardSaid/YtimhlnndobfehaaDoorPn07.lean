/- pattern.Parse. strings.Builder: WriteByte, WriteRune, by walks. The closure of pattern.Text, walked: one theorem for each kind of node. Printed by gen_write.py. -/
import Derived.Test.YtimhlnndobfehaaDoorPn04
import Derived.Test.YtimhlnndobfehaaDoorPn06
import Derived.Test.YtimhlnndobfehaaDoorMc17
import Derived.Test.YtimhlnndobfehaaDoorShelf
import Derived.Test.YtimhlnndobfehaaDoorMc03
import Derived.Deep.AppendLies
import Derived.Lib.RuneBytes
import Derived.Test.YtimhlnndobfehaaDoorPn01
import Derived.Test.YtimhlnndobfehaaDoorMc23
import Derived.Test.YtimhlnndobfehaaDoorMc35
import Derived.Deep.DeepCutAuto
import Derived.Deep.CutBlock
import Derived.BigQuiet
import Derived.StillTailTactics
namespace Go.Proofs.YtimhlnndobfehaaDoor
open Go.RowKit
open Go.Lib (Utf8Tabs)
set_option linter.unusedVariables false

theorem post_kids_len : ∀ (f : Fo) (b : Nat), (∀ x ∈ (f.post b).1, x.kids.length ≤ f.size)
  | .nil, b => by simp [Fo.post]
  | .nd k r p m ks n, b => fun x hx => by
    have h1 := post_kids_len ks b
    have h2 := post_kids_len n (b + ks.size + 1)
    have h3 := (post_len ks b).2
    have h4 := count_le ks
    simp only [Fo.post, List.mem_append, List.mem_cons] at hx
    simp only [Fo.size]
    rcases hx with hx | rfl | hx
    · have := h1 x hx; omega
    · simp only; omega
    · have := h2 x hx; omega
theorem readF_one {a : Al} {s : ByteArray} {t : Fo} {i : Nat} (h : readF a s = .ok t i) : OneT t ∧ i = s.size := by
  unfold readF at h
  split at h
  · rename_i t0 i0 h0
    obtain ⟨h1, _, h3, _⟩ := pars_went (dec_went a s) _ .node 0 t0 i0 h0
    split at h
    · cases h
    · simp only [PR.ok.injEq] at h
      obtain ⟨rfl, rfl⟩ := h
      exact ⟨h1, by omega⟩
  · cases h
/-- A tree's nodes, numbered kids first, walked through. -/
theorem sub_top {t : Fo} (h : OneT t) : sub (t.post 0).1 false (t.post 0).1.length 0 (t.size - 1) = (t.pre 0).1 := by
  have h1 := sub_post t 0 (t.post 0).1 (t.post 0).1.length 0 (fun j x hx => by rw [Nat.zero_add]; exact hx) (by rw [(post_len t 0).1]; exact Nat.le_refl _)
  rw [h.num 0] at h1
  simp only [subs, List.append_nil] at h1
  have h2 := congrArg Prod.fst h1
  simp only at h2
  rw [← h2]
  congr 1
  omega
theorem results_cell_two {fn : Func} {p u v : Tmp} {ty : TypeId} (h : fn.results = #[.cell p ty, .tmp u, .tmp v]) (tmps : Array Value) (P : Program) (w : World) :
    (results fn tmps).run P w = ((do let c ← loadVar ty (← asAddr (tmps.getD p undef)); pure (Value.tuple #[c, tmps.getD u undef, tmps.getD v undef]) : Sem Value).run P w) := by
  unfold results
  rw [h]
  simp
theorem res_pat2 {fn : Func} {p q u : Tmp} (h : fn.results = #[.cell p 28, .tmp q, .tmp u]) (tmps : Array Value) (w : World) (g : Nat) (c0 : Value) (hp : tmps.getD p undef = .pointer (some ⟨g, 0, none⟩)) (hg : Row w g 28 [c0]) :
    (results fn tmps).run Tryd.prog w = .ok (.tuple #[.agg #[c0], tmps.getD q undef, tmps.getD u undef]) w := by
  have hl := run_loadVar_row (P := Tryd.prog) w g 28 28 #[c0] (0, 0) _ hg Tryd.underlying28 rfl (by kernel_rfl)
  rw [results_cell_two h, hp]
  simp [asAddr, hl, Result.andThen]
/-- A pattern of new memory, a place, an error. -/
def ParOut (r : List Nd × Nat × Int) (W : World) (e : Ending) (w' : World) : Prop := ∃ v, e = .returned (.tuple #[v, .int .i64 (r.2.1 : Int), .int .i64 r.2.2]) ∧ PatRes W w' v r.1
theorem ParOut.no {r : List Nd × Nat × Int} {q : Nat} {E : Int} {W w' : World} (h : r = ([], q, E)) (hb : Below W.heap.size W w') : ParOut r W (.returned (.tuple #[.agg #[.slice none 0 0], .int .i64 (q : Int), .int .i64 E])) w' := by
  subst h
  exact ⟨_, rfl, PatRes.nothing hb⟩
set_option maxHeartbeats 8000000 in
set_option maxRecDepth 100000 in
theorem pparse_any (A1 A2 : Option Addr) (c1 c2 : Nat) (a : Al) (s : ByteArray) (w : World) (hin : AlIn w 0 w.heap.size A1 A2 a) (hT : Utf8Tabs 0 1 w) (hs : s.size ≤ maxLen) :
    Calls Tryd.prog 13 #[.agg #[.slice A1 a.feats.length c1, .slice A2 a.lets.length c2], .string s] w (ParOut (parseS a s) w) := by
  unfold maxLen at hs
  obtain ⟨W2, hW2⟩ : ∃ W2, W2 = (w.alloc (.cells #[.slice A1 a.feats.length c1, .slice A2 a.lets.length c2] 25)).alloc (.cells #[.slice none 0 0] 28) := ⟨_, rfl⟩
  have hal : Below w.heap.size w W2 := by rw [hW2]; exact ((Below.refl _ _).alloc (Nat.le_refl _) _).alloc (by simp) _
  have hr0 : Row W2 w.heap.size 25 [.slice A1 a.feats.length c1, .slice A2 a.lets.length c2] := by rw [hW2]; exact (Row.new w _ _).alloc _
  have hr1 : Row W2 (w.heap.size + 1) 28 [.slice none 0 0] := by
    have h := Row.new (w.alloc (.cells #[.slice A1 a.feats.length c1, .slice A2 a.lets.length c2] 25)) 28 [.slice none 0 0]
    rw [hW2]
    simpa using h
  have hcall := Lib.hid (check_any A1 A2 c1 c2 0 a W2 (hin.on hal))
  have HRD := Lib.hid (fun (wx : World) (hb : Below w.heap.size w wx) (h6 : s.size ≤ 65536) => pread_any A1 A2 c1 c2 a s wx (hin.on hb) (Utf8Tabs_below hT hb) h6)
  have hX : parseS a s = if alE a ≠ 0 then ([], 0, alE a) else if 65536 < s.size then ([], 0, 3) else match readF a s with
    | .bad q => ([], q, 40)
    | .ok t _ => if 256 < t.size then ([], 0, 4) else ((t.pre 0).1, 0, 0) := rfl
  have HONE := Lib.hid (fun t i => readF_one (a := a) (s := s) (t := t) (i := i))
  generalize parseS a s = R at *
  generalize readF a s = RF at *
  have HAL := Lib.hid hal
  have HR0 := Lib.hid hr0
  have HR1 := Lib.hid hr1
  clear hin hT hal hr0 hr1
  by_cases hE : alE a = 0
  · rw [if_neg (by simp [hE])] at hX
    rw [hE] at hcall
    clear hE
    by_cases h6 : 65536 < s.size
    · have HX : Hid (R = ([], 0, 3)) := by show _ = _; rw [hX, if_pos h6]
      have j1 : (65536 : Int) < (s.size : Int) := by omega
      clear hX HRD HONE
      go_enter Tryd.func13, Tryd.ntmps13
      go_wp2_with fail
      rw [← hW2]
      clear hW2
      refine hcall.out.mono ?_
      rintro e w1 ⟨rfl, hb1⟩
      have hr1 := HR1.out.below hb1 HR1.out.lt
      obtain ⟨q0, g0⟩ := hr1.cel (i := 0) rfl
      have l1 := hr1.lt
      have HRW := Lib.hid (hr1.set_ 0 (.slice none 0 0))
      have HFIN := Lib.hid (ParOut.no HX.out ((HAL.out.trans (hb1.mono HAL.out.size)).setCell (p := ⟨w.heap.size + 1, 0, none⟩) (by show w.heap.size ≤ w.heap.size + 1; omega) (.slice none 0 0)))
      clear hb1 hr1 hcall
      go_wp2_with fail
      (try simp only [Exit.inBlock, Exit.then])
      refine bodyPost_ret (res_pat2 rfl _ _ (w.heap.size + 1) _ rfl HRW.out) rfl ?_
      exact HFIN.out
    · rw [if_neg h6] at hX
      have j1 : ¬ (65536 : Int) < (s.size : Int) := by omega
      have HX := Lib.hid hX
      clear hX
      go_enter Tryd.func13, Tryd.ntmps13
      go_wp2_with fail
      rw [← hW2]
      clear hW2
      refine hcall.out.mono ?_
      rintro e w1 ⟨rfl, hb1⟩
      have hbw := HAL.out.trans (hb1.mono HAL.out.size)
      have hr0 := HR0.out.below hb1 HR0.out.lt
      have hr1 := HR1.out.below hb1 HR1.out.lt
      obtain ⟨u0, _⟩ := hr0.cel (i := 0) rfl
      obtain ⟨u1, _⟩ := hr0.cel (i := 1) rfl
      have l0 := hr0.lt
      have l1 := hr1.lt
      have HR1' := Lib.hid hr1
      have HBW := Lib.hid hbw
      have hrd := Lib.hid (HRD.out w1 hbw (by omega))
      clear hb1 hbw hr0 hr1 hcall HRD HAL HR0 HR1
      cases RF with
      | bad q =>
        have HXB : Hid (R = ([], q, 40)) := HX.out
        clear HX HONE
        go_wp2_with fail
        refine hrd.out.mono ?_
        rintro e w2 ⟨he, hb2⟩
        subst he
        have hr2 := HR1'.out.below hb2 HR1'.out.lt
        obtain ⟨q0, g0⟩ := hr2.cel (i := 0) rfl
        have l2 := hr2.lt
        have HRW := Lib.hid (hr2.set_ 0 (.slice none 0 0))
        have HFIN := Lib.hid (ParOut.no HXB.out ((HBW.out.trans (hb2.mono HBW.out.size)).setCell (p := ⟨w.heap.size + 1, 0, none⟩) (by show w.heap.size ≤ w.heap.size + 1; omega) (.slice none 0 0)))
        have jq : (0 : Int) ≤ (q : Int) := by omega
        clear hb2 hr2 hrd u0 u1
        (try simp only)
        go_wp2_with fail
        (try simp only [Exit.inBlock, Exit.then])
        refine bodyPost_ret (res_pat2 rfl _ _ (w.heap.size + 1) _ rfl HRW.out) rfl ?_
        exact HFIN.out
      | ok t i =>
        have h1 := (HONE.out t i rfl).1
        have hp := h1.pos
        have hpl := (post_len t 0).1
        have HXO : Hid (R = if 256 < t.size then ([], 0, 4) else ((t.pre 0).1, 0, 0)) := HX.out
        clear HX HONE
        go_wp2_with fail
        refine hrd.out.mono ?_
        rintro e w2 ⟨⟨v, es, he, hnd, hes⟩, hb2⟩
        subst he
        obtain ⟨Av, cv, rfl, _, hcm, hsl⟩ := hnd.sl
        have hel : es.length = t.size := by rw [← List.length_map (f := Prod.fst), hes, hpl]
        have hr2 := HR1'.out.below hb2 HR1'.out.lt
        have HR2 := Lib.hid hr2
        obtain ⟨q0, g0⟩ := hr2.cel (i := 0) rfl
        have l2 := hr2.lt
        have HB2 := Lib.hid (HBW.out.trans (hb2.mono HBW.out.size))
        rw [hes] at hsl
        have HSL := Lib.hid hsl
        have HEL := Lib.hid hel
        rw [hel]
        clear hb2 hr2 hrd u0 u1 hnd hes hsl hel
        (try simp only)
        by_cases h256 : 256 < t.size
        · have HXB : Hid (R = ([], 0, 4)) := by show _ = _; rw [HXO.out, if_pos h256]
          have j2 : (256 : Int) < (t.size : Int) := by omega
          have HRW := Lib.hid (HR2.out.set_ 0 (.slice none 0 0))
          have HFIN := Lib.hid (ParOut.no HXB.out (HB2.out.setCell (p := ⟨w.heap.size + 1, 0, none⟩) (by show w.heap.size ≤ w.heap.size + 1; omega) (.slice none 0 0)))
          clear HXO hpl
          go_wp2_with fail
          (try simp only [Exit.inBlock, Exit.then])
          refine bodyPost_ret (res_pat2 rfl _ _ (w.heap.size + 1) _ rfl HRW.out) rfl ?_
          exact HFIN.out
        · have HXB : Hid (R = ((t.pre 0).1, 0, 0)) := by show _ = _; rw [HXO.out, if_neg h256]
          have j2 : ¬ (256 : Int) < (t.size : Int) := by omega
          have hst := sub_top h1
          have hsz : szN (t.post 0).1 (t.post 0).1.length (t.size - 1) = t.size := by rw [← sub_length (t.post 0).1 false (t.post 0).1.length 0, hst, (pre_len t 0).1]
          have hwk := walkedG_any (ns := (t.post 0).1) false (t.size - 1) (t.post 0).1.length (fun i => i) (fun i hi k hk => by
            have hx : (t.post 0).1[i]? = some ((t.post 0).1.getD i nd0) := by rw [List.getD_eq_getElem?_getD, List.getElem?_eq_getElem hi]; rfl
            have := (post_kids t 0).1 i _ hx k hk
            omega) (by omega) (by omega) (by omega) (fun x hx => by have := post_kids_len t 0 x hx; omega) (A := Av) (c := cv) (flo := w1.heap.size) (lo := w2.heap.size) (v := .slice none 0 0) (es := []) (w := w2) (by rw [hsz]; simp; omega) (Nat.le_refl _) HSL.out (Nodes.nil _ _)
          rw [hpl, show ((t.size - 1 : Nat) : Int) = ((t.size - 1 : Nat) : Int) from rfl] at hwk
          have HWK := Lib.hid hwk
          have HSTP : Hid (sub (t.post 0).1 false t.size 0 (t.size - 1) = (t.pre 0).1) := by show _ = _; rw [← hst, hpl]
          clear HXO hpl hst hsz hwk
          go_wp2_with fail
          refine HWK.out.mono ?_
          rintro e w3 ⟨v3, es3, rfl, hn3, he3, hf3⟩
          obtain ⟨A3, c3, rfl, _, _⟩ := own_form hn3.row
          have hb3 : Below w2.heap.size w2 w3 := hf3.below (fun g e => by cases e) (Nat.le_refl _)
          have hr3 := HR2.out.below hb3 HR2.out.lt
          obtain ⟨q3, g3⟩ := hr3.cel (i := 0) rfl
          have l3 := hr3.lt
          simp only [List.nil_append] at hn3
          have HRW := Lib.hid (hr3.set_ 0 (.slice A3 es3.length c3))
          have hfin : ParOut R w (.returned (.tuple #[.agg #[.slice A3 es3.length c3], .int .i64 0, .int .i64 0])) (w3.setCell ⟨w.heap.size + 1, 0, none⟩ (.slice A3 es3.length c3)) := by
            rw [HXB.out]
            refine ⟨_, rfl, _, es3, rfl, (hn3.same fun g hg => Below.heap_setCell _ _ _ g (fun e => ?_)).down (by have := HB2.out.size; omega), ?_, (HB2.out.trans (hb3.mono HB2.out.size)).setCell (by show w.heap.size ≤ w.heap.size + 1; omega) _⟩
            · have := (hn3.lt hg).1
              simp only at e
              omega
            · rw [he3]
              exact HSTP.out
          have HFIN := Lib.hid hfin
          clear hfin hn3 he3 hf3 hb3 hr3 q0 g0
          (try simp only [List.nil_append])
          go_wp2_with fail
          (try simp only [Exit.inBlock, Exit.then])
          refine bodyPost_ret (res_pat2 rfl _ _ (w.heap.size + 1) _ rfl HRW.out) rfl ?_
          exact HFIN.out
  · have HX : Hid (R = ([], 0, alE a)) := by show _ = _; rw [hX, if_pos hE]
    generalize alE a = E at *
    have hne : (E != 0) = true := by rw [bne_iff_ne]; exact hE
    clear hX HRD HONE hE
    go_enter Tryd.func13, Tryd.ntmps13
    go_wp2_with fail
    rw [← hW2]
    clear hW2
    refine hcall.out.mono ?_
    rintro e w1 ⟨rfl, hb1⟩
    have hr1 := HR1.out.below hb1 HR1.out.lt
    obtain ⟨q0, g0⟩ := hr1.cel (i := 0) rfl
    have l1 := hr1.lt
    have HRW := Lib.hid (hr1.set_ 0 (.slice none 0 0))
    have HFIN := Lib.hid (ParOut.no HX.out ((HAL.out.trans (hb1.mono HAL.out.size)).setCell (p := ⟨w.heap.size + 1, 0, none⟩) (by show w.heap.size ≤ w.heap.size + 1; omega) (.slice none 0 0)))
    clear hb1 hr1 hcall
    go_wp2_with fail
    (try simp only [Exit.inBlock, Exit.then])
    refine bodyPost_ret (res_pat2 rfl _ _ (w.heap.size + 1) _ rfl HRW.out) rfl ?_
    exact HFIN.out
end Go.Proofs.YtimhlnndobfehaaDoor
namespace Go.Proofs.YtimhlnndobfehaaDoor
open Go.RowKit
set_option linter.unusedVariables false

set_option maxHeartbeats 1000000 in
set_option maxRecDepth 100000 in
theorem WriteByte_any (B b : Nat) (l : List UInt8) (x : Nat) (w : World) (h : Bld B b l w) (hx : x < 256) (hlen : l.length + 1 ≤ 140737488355328) (hBw : B ≤ w.heap.size) :
    Calls Tryd.prog 38 #[.pointer (some ⟨b, 0, none⟩), .int .u8 (x : Int)] w fun e w' => e = .returned .nilIface ∧ Bld B b (l ++ [x.toUInt8]) w' ∧ Below B w w' ∧ Oth b w w' := by
  obtain ⟨i0, hi, hz0, hz1, hz2⟩ := info_parts bld_byte
  have hlen' : (Lib.byteCells l).length + 1 ≤ 140737488355328 := by rw [Lib.byteCells_length]; exact hlen
  go_enter Tryd.func38, Tryd.ntmps38
  go_wp2_with (go_at_call 63; refine (copyCheck_any B b (Lib.byteCells l) _ h).mono ?_)
  rintro e w1 ⟨rfl, h1, hb1, hk1⟩
  obtain ⟨hB, v, hbk, hown, hne⟩ := h1
  have c0 : w1.cell? ⟨b, 0, none⟩ = some (.pointer (some ⟨b, 0, none⟩)) := by rw [Lib.cell_of_heap hbk]; rfl
  have c1 : w1.cell? ⟨b, 1, none⟩ = some v := by rw [Lib.cell_of_heap hbk]; rfl
  have hlt : b < w1.heap.size := by
    rcases Nat.lt_or_ge b w1.heap.size with h' | h'
    · exact h'
    · simp [Array.getElem?_eq_none h'] at hbk
  obtain ⟨ao, cap, rfl, _, _⟩ := own_form hown
  obtain ⟨wA, hwA⟩ : ∃ wA, wA = w1.alloc (.cells #[.int .u8 (x : Int)] 5) := ⟨_, rfl⟩
  have hrA : Row wA w1.heap.size 5 [.int .u8 (x : Int)] := by rw [hwA]; exact Row.new _ _ _
  have hownA := hown.alloc (.cells #[.int .u8 (x : Int)] 5)
  rw [← hwA] at hownA
  have hnews := hrA.news
  have hlo : B ≤ wA.heap.size := by have := hb1.size; rw [hwA]; simp; omega
  have hone : ∀ u ∈ [Value.int .u8 (x : Int)], u.oneCell' = true := fun u hu => by rw [List.mem_singleton.1 hu]; rfl
  have h63 : (Lib.byteCells l).length + 1 ≤ maxLen := by unfold maxLen; omega
  have hby : ((Lib.byteCells l).length + 1) * 1 ≤ 140737488355328 := by omega
  have hkA : Oth b w wA := by rw [hwA]; exact hk1.alloc _
  have hbA : Below B w wA := by rw [hwA]; exact hb1.alloc (by have := hb1.size; omega) _
  have hbkA : wA.heap[b]? = some (.cells #[.pointer (some ⟨b, 0, none⟩), .slice ao (Lib.byteCells l).length cap] 72 (0, 0)) := by rw [hwA, Lib.alloc_old w1 _ b hlt]; exact hbk
  have hltA : b < wA.heap.size := by rw [hwA]; simp; omega
  have HB1 := Lib.hid hbA
  have HK1 := Lib.hid hkA
  have HBK := Lib.hid hbkA
  go_wp2_with (at_builtin; rw [← hwA]; refine wpList_append_lies _ rfl _ _ 70 rfl B 5 i0 (.int .u8 0) 1 1 Tryd.underlying70 hi hz0 hz1 hz2 rfl (by decide) (.slice ao (Lib.byteCells l).length cap) (Lib.byteCells l).length (Lib.byteCells l) rfl hownA ⟨w1.heap.size, 0, none⟩ 1 1 [.int .u8 (x : Int)] rfl rfl hnews hone (by decide) h63 hby hlo _ rfl ?_)
  intro g cap2 w2 hown' hgrow hat2 hlt2
  rw [← hwA] at hgrow
  have hb2 : w2.heap[b]? = some (.cells #[.pointer (some ⟨b, 0, none⟩), .slice ao (Lib.byteCells l).length cap] 72 (0, 0)) := by
    rw [hgrow.block b hltA (fun e => hne e.symm)]
    exact HBK.out
  have d0 : w2.cell? ⟨b, 0, none⟩ = some (.pointer (some ⟨b, 0, none⟩)) := by rw [Lib.cell_of_heap hb2]; rfl
  have d1 : w2.cell? ⟨b, 1, none⟩ = some (.slice ao (Lib.byteCells l).length cap) := by rw [Lib.cell_of_heap hb2]; rfl
  have f1 : w2.frozen? ⟨b, 1, none⟩ = false := Lib.frozen_of_heap hb2 1
  have hcx : Lib.byteCells (l ++ [x.toUInt8]) = Lib.byteCells l ++ [.int .u8 (x : Int)] := by
    rw [Lib.byteCells_append]
    congr 1
    simp [Lib.byteCells]
    omega
  have HG := Lib.hid hgrow
  have HO := Lib.hid hown'
  have HOA := Lib.hid hownA
  have HB2 := Lib.hid hb2
  clear hgrow hown' hownA hb2 hnews hrA
  go_wp2
  go_ret
  refine ⟨rfl, ?_, ?_, (HK1.out.grown HG.out (own_kind HOA.out)).setCell ⟨b, 1, none⟩ rfl _⟩
  · refine Or.inr ?_
    rw [hcx]
    exact Lib.BuilderAt.put (T := 72) (e := 5) hB HB2.out (bs' := Lib.byteCells l ++ [.int .u8 (x : Int)]) (by simpa using HO.out) (by decide)
  · exact (HB1.out.grown HG.out hlo (fun k hk => (HOA.out.lt k hk).1)).setCell (p := ⟨b, 1, none⟩) hB _

set_option maxHeartbeats 1000000 in
set_option maxRecDepth 100000 in
theorem WriteRune_any (B b : Nat) (l : List UInt8) (r : Int) (w : World) (h : Bld B b l w) (h0 : -2147483648 ≤ r) (h1' : r ≤ 2147483647) (hlen : l.length + 4 ≤ 140737488355328) (hBw : B ≤ w.heap.size) :
    Calls Tryd.prog 39 #[.pointer (some ⟨b, 0, none⟩), .int .i32 r] w fun e w' => e = .returned (.tuple #[.int .i64 ((Lib.encodeRune r).length : Int), .nilIface]) ∧ Bld B b (l ++ Lib.encodeRune r) w' ∧ Below B w w' ∧ Oth b w w' := by
  have hlen' : (Lib.byteCells l).length + 4 ≤ 140737488355328 := by rw [Lib.byteCells_length]; exact hlen
  have hk4 := Lib.runeCells_le r
  have HKL := Lib.hid (Lib.runeCells_length r)
  go_enter Tryd.func39, Tryd.ntmps39
  go_wp2_with (go_at_call 63; refine (copyCheck_any B b (Lib.byteCells l) _ h).mono ?_)
  rintro e w1 ⟨rfl, h1, hb1, hk1⟩
  obtain ⟨hB, v, hbk, hown, hne⟩ := h1
  obtain ⟨ao, cap, rfl, _, _⟩ := own_form hown
  have c0 : w1.cell? ⟨b, 0, none⟩ = some (.pointer (some ⟨b, 0, none⟩)) := by rw [Lib.cell_of_heap hbk]; rfl
  have c1 : w1.cell? ⟨b, 1, none⟩ = some (.slice ao (Lib.byteCells l).length cap) := by rw [Lib.cell_of_heap hbk]; rfl
  have hlt : b < w1.heap.size := by
    rcases Nat.lt_or_ge b w1.heap.size with h' | h'
    · exact h'
    · simp [Array.getElem?_eq_none h'] at hbk
  have hbs := hb1.size
  go_wp2_with (go_at_call 64; refine (Tryd.utf8_AppendRune_plain B _ (Lib.byteCells l).length (Lib.byteCells l) r h0 h1' _ hown hlen' (by omega)).mono ?_)
  rintro e w2 ⟨v', rfl, hown', o, hgrow⟩
  have hb2 : w2.heap[b]? = some (.cells #[.pointer (some ⟨b, 0, none⟩), .slice ao (Lib.byteCells l).length cap] 72 (0, 0)) := by
    rw [hgrow.block b (by simp; omega) (fun e => hne e.symm), Lib.alloc_old w1 _ b hlt]
    exact hbk
  have d0 : w2.cell? ⟨b, 0, none⟩ = some (.pointer (some ⟨b, 0, none⟩)) := by rw [Lib.cell_of_heap hb2]; rfl
  have d1 : w2.cell? ⟨b, 1, none⟩ = some (.slice ao (Lib.byteCells l).length cap) := by rw [Lib.cell_of_heap hb2]; rfl
  have f1 : w2.frozen? ⟨b, 1, none⟩ = false := Lib.frozen_of_heap hb2 1
  obtain ⟨g, cap', rfl⟩ : ∃ g cap', v' = .slice (some ⟨g, 0, none⟩) ((Lib.byteCells l).length + (Lib.runeCells r).length) cap' := by
    rcases hown'.2 with ⟨_, h0⟩ | ⟨g, cap', cur, hv, _⟩
    · omega
    · exact ⟨g, cap', hv⟩
  have HG := Lib.hid hgrow
  have HO := Lib.hid hown'
  have HOA := Lib.hid (hown.alloc o)
  have HB2 := Lib.hid hb2
  have HBW := Lib.hid hb1
  have HK1 := Lib.hid hk1
  clear hgrow hown' hb2 hown hbk hb1 hk1
  go_wp2
  go_ret2
  refine ⟨?_, ?_, ?_, ((HK1.out.alloc _).grown HG.out (own_kind HOA.out)).setCell ⟨b, 1, none⟩ rfl _⟩
  · have hkl := HKL.out
    have e : (((Lib.byteCells l).length : Int) + ((Lib.runeCells r).length : Int) - ((Lib.byteCells l).length : Int)) = ((Lib.encodeRune r).length : Int) := by omega
    rw [← e]
    simp
  · refine Or.inr ?_
    rw [Lib.byteCells_append, Lib.byteCells_encodeRune]
    exact Lib.BuilderAt.put (T := 72) (e := 5) hB HB2.out (bs' := Lib.byteCells l ++ Lib.runeCells r) (by simpa using HO.out) (by decide)
  · exact ((HBW.out.alloc (by omega) _).grown HG.out (by simp; omega) (fun k hk => (HOA.out.lt k hk).1)).setCell (p := ⟨b, 1, none⟩) hB _
end Go.Proofs.YtimhlnndobfehaaDoor
namespace Go.Proofs.YtimhlnndobfehaaDoor
open Go.RowKit
set_option linter.unusedVariables false

theorem bld_below {B b : Nat} {l : List UInt8} {w w' : World} (h : Bld B b l w) (hb : Below w.heap.size w w') : Bld B b l w' := by
  have key : ∀ p, Lib.BuilderAt 72 5 B b p (Lib.byteCells l) w → Lib.BuilderAt 72 5 B b p (Lib.byteCells l) w' := by
    rintro p ⟨hB, v, hbk, hown, hne⟩
    exact ⟨hB, v, (hb.block b (Array.getElem?_eq_some_iff.1 hbk).1).trans hbk, own_below hown hb, hne⟩
  exact h.imp (key _) (key _)
theorem bld_lt {B b : Nat} {l : List UInt8} {w : World} (h : Bld B b l w) : B ≤ b ∧ b < w.heap.size := by
  rcases h with h | h <;> exact ⟨h.1, h.lt⟩
theorem oth_below {b : Nat} {w w' : World} (hb : Below w.heap.size w w') : Oth b w w' := fun k o hk _ _ => (hb.block k (Array.getElem?_eq_some_iff.1 hk).1).trans hk
theorem row_oth {b g : Nat} {t : TypeId} {l : List Value} {w w' : World} (h : Row w g t l) (ho : Oth b w w') (hg : g ≠ b) (ht : t ≠ 5) : Row w' g t l :=
  ho g _ h (fun e => hg (Option.some.inj e)) (fun c fz e => ht (by injection e))

section
variable {a : Al} {ns : List Nd} {A1 A2 An : Option Addr} {c1 c2 cn b bf bp ba : Nat}
/-- What the writing call finds: an alphabet, the nodes, itself, the builder. -/
structure Ws (a : Al) (ns : List Nd) (A1 A2 An : Option Addr) (c1 c2 cn b bf bp ba : Nat) (l : List UInt8) (w : World) : Prop where
  al : AlIn w 0 b A1 A2 a
  nd : Sl 5 vNd w 0 b An ns
  la : ba < b
  lp : bp < b
  nf : bf ≠ b
  ra : Row w ba 25 [.slice A1 a.feats.length c1, .slice A2 a.lets.length c2]
  rp : Row w bp 28 [.slice An ns.length cn]
  rf : Row w bf 73 [.func (.func 37) #[] #[.pointer (some ⟨bp, 0, none⟩), .pointer (some ⟨b, 0, none⟩), .pointer (some ⟨ba, 0, none⟩), .pointer (some ⟨bf, 0, none⟩)]]
  bl : Bld b b l w
theorem Ws.on {l l' : List UInt8} {w w' : World} (h : Ws a ns A1 A2 An c1 c2 cn b bf bp ba l w) (hb : Below b w w') (ho : Oth b w w') (hl : Bld b b l' w') : Ws a ns A1 A2 An c1 c2 cn b bf bp ba l' w' :=
  ⟨h.al.below hb (Nat.le_refl _), h.nd.below vNd_good hb (Nat.le_refl _), h.la, h.lp, h.nf, h.ra.below hb h.la, h.rp.below hb h.lp, row_oth h.rf ho h.nf (by decide), hl⟩
theorem Ws.new {l : List UInt8} {w w' : World} (h : Ws a ns A1 A2 An c1 c2 cn b bf bp ba l w) (hb : Below w.heap.size w w') : Ws a ns A1 A2 An c1 c2 cn b bf bp ba l w' :=
  h.on (hb.mono (Nat.le_of_lt (bld_lt h.bl).2)) (oth_below hb) (bld_below h.bl hb)
/-- What it leaves. -/
def WrOut (b : Nat) (l : List UInt8) (w : World) (e : Ending) (w' : World) : Prop := e = .returned (.tuple #[]) ∧ Bld b b l w' ∧ Below b w w' ∧ Oth b w w'
theorem WrOut.mk' {l l' : List UInt8} {w w1 w' : World} (hb1 : Below b w w1) (ho1 : Oth b w w1) (hb : Below b w1 w') (ho : Oth b w1 w') (hl : Bld b b l' w') (e : l = l') : WrOut b l w (.returned (.tuple #[])) w' := by
  subst e
  exact ⟨rfl, hl, hb1.trans hb, ho1.trans ho⟩
set_option maxHeartbeats 8000000 in
set_option maxRecDepth 100000 in
theorem wr_empty {at_ : Nat} {rn pl mi : Int} {ks : List Int} {l : List UInt8} {w : World} (h : Ws a ns A1 A2 An c1 c2 cn b bf bp ba l w) (hat : at_ < ns.length) (hx : ns[at_] = ⟨1, rn, pl, mi, ks⟩) (hl : l.length ≤ 1000000) :
    Calls Tryd.prog 37 #[.int .i64 (at_ : Int), .pointer (some ⟨bp, 0, none⟩), .pointer (some ⟨b, 0, none⟩), .pointer (some ⟨ba, 0, none⟩), .pointer (some ⟨bf, 0, none⟩)] w (WrOut b (l ++ [126]) w) := by
  have hn := nd_at h.nd hat
  rw [hx] at hn
  dsimp only at hn
  obtain ⟨bb, off, B, cc, hA, _, hb, ⟨y0, f0⟩, ⟨y1, f1⟩, ⟨y2, f2⟩, ⟨y3, f3⟩, ⟨y4, f4⟩, hkl, hkc, hks, k0, k1, k2, k3⟩ := hn
  obtain ⟨cp, fp⟩ := h.rp.cel (i := 0) rfl
  rw [hA] at cp
  have lb := (bld_lt h.bl).2
  have lp := h.lp
  have hlt : (at_ : Int) < (ns.length : Int) := by omega
  have h0 : (0 : Int) ≤ (at_ : Int) := by omega
  have hW := Lib.hid (fun (wx : World) (hb : Below w.heap.size w wx) => h.new hb)
  have hsize : b ≤ w.heap.size := by omega
  have HN := Lib.hid (Row.new w 44 [.int .u8 1, .int .i32 rn, .int .u32 pl, .int .u32 mi, .slice B ks.length cc])
  have hal : Below w.heap.size w (w.alloc (.cells #[.int .u8 1, .int .i32 rn, .int .u32 pl, .int .u32 mi, .slice B ks.length cc] 44)) := (Below.refl _ _).alloc (Nat.le_refl _) _
  obtain ⟨wn, hwn⟩ : ∃ wn, wn = w.alloc (.cells #[.int .u8 1, .int .i32 rn, .int .u32 pl, .int .u32 mi, .slice B ks.length cc] 44) := ⟨_, rfl⟩
  have HW1 := Lib.hid (hW.out _ hal)
  have HAL := Lib.hid hal
  have hsn : (w.alloc (.cells #[.int .u8 1, .int .i32 rn, .int .u32 pl, .int .u32 mi, .slice B ks.length cc] 44)).heap.size = w.heap.size + 1 := by simp
  have HSN := Lib.hid hsn
  clear hsn hal h
  rw [← hwn] at HN HW1 HAL HSN
  have HC := Lib.hid (WriteByte_any b b l 126 wn HW1.out.bl (by decide) (by omega) (by rw [HSN.out]; omega))
  go_enter Tryd.func37, Tryd.ntmps37
  go_wp2_with fail
  rw [← hwn]
  refine HC.out.mono ?_
  rintro e w2 ⟨rfl, hb2, hbe2, ho2⟩
  have HFIN := Lib.hid (WrOut.mk' (HAL.out.mono hsize) (oth_below HAL.out) hbe2 ho2 hb2 rfl)
  clear hb2 hbe2 ho2 HC
  go_wp2_with fail
  go_end0
  exact HFIN.out
set_option maxHeartbeats 8000000 in
set_option maxRecDepth 100000 in
theorem wr_any {at_ : Nat} {rn pl mi : Int} {ks : List Int} {l : List UInt8} {w : World} (h : Ws a ns A1 A2 An c1 c2 cn b bf bp ba l w) (hat : at_ < ns.length) (hx : ns[at_] = ⟨4, rn, pl, mi, ks⟩) (hl : l.length ≤ 1000000) :
    Calls Tryd.prog 37 #[.int .i64 (at_ : Int), .pointer (some ⟨bp, 0, none⟩), .pointer (some ⟨b, 0, none⟩), .pointer (some ⟨ba, 0, none⟩), .pointer (some ⟨bf, 0, none⟩)] w (WrOut b (l ++ [46]) w) := by
  have hn := nd_at h.nd hat
  rw [hx] at hn
  dsimp only at hn
  obtain ⟨bb, off, B, cc, hA, _, hb, ⟨y0, f0⟩, ⟨y1, f1⟩, ⟨y2, f2⟩, ⟨y3, f3⟩, ⟨y4, f4⟩, hkl, hkc, hks, k0, k1, k2, k3⟩ := hn
  obtain ⟨cp, fp⟩ := h.rp.cel (i := 0) rfl
  rw [hA] at cp
  have lb := (bld_lt h.bl).2
  have lp := h.lp
  have hlt : (at_ : Int) < (ns.length : Int) := by omega
  have h0 : (0 : Int) ≤ (at_ : Int) := by omega
  have hW := Lib.hid (fun (wx : World) (hb : Below w.heap.size w wx) => h.new hb)
  have hsize : b ≤ w.heap.size := by omega
  have HN := Lib.hid (Row.new w 44 [.int .u8 4, .int .i32 rn, .int .u32 pl, .int .u32 mi, .slice B ks.length cc])
  have hal : Below w.heap.size w (w.alloc (.cells #[.int .u8 4, .int .i32 rn, .int .u32 pl, .int .u32 mi, .slice B ks.length cc] 44)) := (Below.refl _ _).alloc (Nat.le_refl _) _
  obtain ⟨wn, hwn⟩ : ∃ wn, wn = w.alloc (.cells #[.int .u8 4, .int .i32 rn, .int .u32 pl, .int .u32 mi, .slice B ks.length cc] 44) := ⟨_, rfl⟩
  have HW1 := Lib.hid (hW.out _ hal)
  have HAL := Lib.hid hal
  have hsn : (w.alloc (.cells #[.int .u8 4, .int .i32 rn, .int .u32 pl, .int .u32 mi, .slice B ks.length cc] 44)).heap.size = w.heap.size + 1 := by simp
  have HSN := Lib.hid hsn
  clear hsn hal h
  rw [← hwn] at HN HW1 HAL HSN
  have HC := Lib.hid (WriteByte_any b b l 46 wn HW1.out.bl (by decide) (by omega) (by rw [HSN.out]; omega))
  go_enter Tryd.func37, Tryd.ntmps37
  go_wp2_with fail
  rw [← hwn]
  refine HC.out.mono ?_
  rintro e w2 ⟨rfl, hb2, hbe2, ho2⟩
  have HFIN := Lib.hid (WrOut.mk' (HAL.out.mono hsize) (oth_below HAL.out) hbe2 ho2 hb2 rfl)
  clear hb2 hbe2 ho2 HC
  go_wp2_with fail
  go_end0
  exact HFIN.out
set_option maxHeartbeats 8000000 in
set_option maxRecDepth 100000 in
theorem wr_edge {at_ : Nat} {rn pl mi : Int} {ks : List Int} {l : List UInt8} {w : World} (h : Ws a ns A1 A2 An c1 c2 cn b bf bp ba l w) (hat : at_ < ns.length) (hx : ns[at_] = ⟨5, rn, pl, mi, ks⟩) (hl : l.length ≤ 1000000) :
    Calls Tryd.prog 37 #[.int .i64 (at_ : Int), .pointer (some ⟨bp, 0, none⟩), .pointer (some ⟨b, 0, none⟩), .pointer (some ⟨ba, 0, none⟩), .pointer (some ⟨bf, 0, none⟩)] w (WrOut b (l ++ [35]) w) := by
  have hn := nd_at h.nd hat
  rw [hx] at hn
  dsimp only at hn
  obtain ⟨bb, off, B, cc, hA, _, hb, ⟨y0, f0⟩, ⟨y1, f1⟩, ⟨y2, f2⟩, ⟨y3, f3⟩, ⟨y4, f4⟩, hkl, hkc, hks, k0, k1, k2, k3⟩ := hn
  obtain ⟨cp, fp⟩ := h.rp.cel (i := 0) rfl
  rw [hA] at cp
  have lb := (bld_lt h.bl).2
  have lp := h.lp
  have hlt : (at_ : Int) < (ns.length : Int) := by omega
  have h0 : (0 : Int) ≤ (at_ : Int) := by omega
  have hW := Lib.hid (fun (wx : World) (hb : Below w.heap.size w wx) => h.new hb)
  have hsize : b ≤ w.heap.size := by omega
  have HN := Lib.hid (Row.new w 44 [.int .u8 5, .int .i32 rn, .int .u32 pl, .int .u32 mi, .slice B ks.length cc])
  have hal : Below w.heap.size w (w.alloc (.cells #[.int .u8 5, .int .i32 rn, .int .u32 pl, .int .u32 mi, .slice B ks.length cc] 44)) := (Below.refl _ _).alloc (Nat.le_refl _) _
  obtain ⟨wn, hwn⟩ : ∃ wn, wn = w.alloc (.cells #[.int .u8 5, .int .i32 rn, .int .u32 pl, .int .u32 mi, .slice B ks.length cc] 44) := ⟨_, rfl⟩
  have HW1 := Lib.hid (hW.out _ hal)
  have HAL := Lib.hid hal
  have hsn : (w.alloc (.cells #[.int .u8 5, .int .i32 rn, .int .u32 pl, .int .u32 mi, .slice B ks.length cc] 44)).heap.size = w.heap.size + 1 := by simp
  have HSN := Lib.hid hsn
  clear hsn hal h
  rw [← hwn] at HN HW1 HAL HSN
  have HC := Lib.hid (WriteByte_any b b l 35 wn HW1.out.bl (by decide) (by omega) (by rw [HSN.out]; omega))
  go_enter Tryd.func37, Tryd.ntmps37
  go_wp2_with fail
  rw [← hwn]
  refine HC.out.mono ?_
  rintro e w2 ⟨rfl, hb2, hbe2, ho2⟩
  have HFIN := Lib.hid (WrOut.mk' (HAL.out.mono hsize) (oth_below HAL.out) hbe2 ho2 hb2 rfl)
  clear hb2 hbe2 ho2 HC
  go_wp2_with fail
  go_end0
  exact HFIN.out
set_option maxHeartbeats 8000000 in
set_option maxRecDepth 100000 in
theorem wr_rune {at_ : Nat} {rn pl mi : Int} {ks : List Int} {l : List UInt8} {w : World} (h : Ws a ns A1 A2 An c1 c2 cn b bf bp ba l w) (hat : at_ < ns.length) (hx : ns[at_] = ⟨2, rn, pl, mi, ks⟩) (hl : l.length ≤ 1000000) :
    Calls Tryd.prog 37 #[.int .i64 (at_ : Int), .pointer (some ⟨bp, 0, none⟩), .pointer (some ⟨b, 0, none⟩), .pointer (some ⟨ba, 0, none⟩), .pointer (some ⟨bf, 0, none⟩)] w (WrOut b (l ++ Lib.encodeRune rn) w) := by
  have hn := nd_at h.nd hat
  rw [hx] at hn
  dsimp only at hn
  obtain ⟨bb, off, B, cc, hA, _, hb, ⟨y0, f0⟩, ⟨y1, f1⟩, ⟨y2, f2⟩, ⟨y3, f3⟩, ⟨y4, f4⟩, hkl, hkc, hks, k0, k1, k2, k3⟩ := hn
  obtain ⟨cp, fp⟩ := h.rp.cel (i := 0) rfl
  rw [hA] at cp
  have lb := (bld_lt h.bl).2
  have lp := h.lp
  have hlt : (at_ : Int) < (ns.length : Int) := by omega
  have h0 : (0 : Int) ≤ (at_ : Int) := by omega
  have hW := Lib.hid (fun (wx : World) (hb : Below w.heap.size w wx) => h.new hb)
  have hsize : b ≤ w.heap.size := by omega
  have HN := Lib.hid (Row.new w 44 [.int .u8 2, .int .i32 rn, .int .u32 pl, .int .u32 mi, .slice B ks.length cc])
  have hal : Below w.heap.size w (w.alloc (.cells #[.int .u8 2, .int .i32 rn, .int .u32 pl, .int .u32 mi, .slice B ks.length cc] 44)) := (Below.refl _ _).alloc (Nat.le_refl _) _
  obtain ⟨wn, hwn⟩ : ∃ wn, wn = w.alloc (.cells #[.int .u8 2, .int .i32 rn, .int .u32 pl, .int .u32 mi, .slice B ks.length cc] 44) := ⟨_, rfl⟩
  have HW1 := Lib.hid (hW.out _ hal)
  have HAL := Lib.hid hal
  have hsn : (w.alloc (.cells #[.int .u8 2, .int .i32 rn, .int .u32 pl, .int .u32 mi, .slice B ks.length cc] 44)).heap.size = w.heap.size + 1 := by simp
  have HSN := Lib.hid hsn
  clear hsn hal h
  rw [← hwn] at HN HW1 HAL HSN
  have HC := Lib.hid (WriteRune_any b b l rn wn HW1.out.bl (kin_i32 k1).1 (kin_i32 k1).2 (by omega) (by rw [HSN.out]; omega))
  obtain ⟨z1, _⟩ := HN.out.cel (i := 1) rfl
  go_enter Tryd.func37, Tryd.ntmps37
  go_wp2_with fail
  (try rw [← hwn])
  refine HC.out.mono ?_
  rintro e w2 ⟨rfl, hb2, hbe2, ho2⟩
  have HFIN := Lib.hid (WrOut.mk' (HAL.out.mono hsize) (oth_below HAL.out) hbe2 ho2 hb2 rfl)
  clear hb2 hbe2 ho2 HC
  go_wp2_with fail
  go_end0
  exact HFIN.out
set_option maxHeartbeats 8000000 in
set_option maxRecDepth 100000 in
theorem wr_class {at_ : Nat} {rn pl mi : Int} {ks : List Int} {l : List UInt8} {w : World} (h : Ws a ns A1 A2 An c1 c2 cn b bf bp ba l w) (hat : at_ < ns.length) (hx : ns[at_] = ⟨3, rn, pl, mi, ks⟩) (hl : l.length ≤ 1000000) :
    Calls Tryd.prog 37 #[.int .i64 (at_ : Int), .pointer (some ⟨bp, 0, none⟩), .pointer (some ⟨b, 0, none⟩), .pointer (some ⟨ba, 0, none⟩), .pointer (some ⟨bf, 0, none⟩)] w (WrOut b (l ++ clsT a ⟨3, rn, pl, mi, ks⟩) w) := by
  have hn := nd_at h.nd hat
  rw [hx] at hn
  dsimp only at hn
  obtain ⟨bb, off, B, cc, hA, _, hb, ⟨y0, f0⟩, ⟨y1, f1⟩, ⟨y2, f2⟩, ⟨y3, f3⟩, ⟨y4, f4⟩, hkl, hkc, hks, k0, k1, k2, k3⟩ := hn
  obtain ⟨cp, fp⟩ := h.rp.cel (i := 0) rfl
  rw [hA] at cp
  have lb := (bld_lt h.bl).2
  have lp := h.lp
  have hlt : (at_ : Int) < (ns.length : Int) := by omega
  have h0 : (0 : Int) ≤ (at_ : Int) := by omega
  have hW := Lib.hid (fun (wx : World) (hb : Below w.heap.size w wx) => h.new hb)
  have hsize : b ≤ w.heap.size := by omega
  have HN := Lib.hid (Row.new w 44 [.int .u8 3, .int .i32 rn, .int .u32 pl, .int .u32 mi, .slice B ks.length cc])
  have hal : Below w.heap.size w (w.alloc (.cells #[.int .u8 3, .int .i32 rn, .int .u32 pl, .int .u32 mi, .slice B ks.length cc] 44)) := (Below.refl _ _).alloc (Nat.le_refl _) _
  obtain ⟨wn, hwn⟩ : ∃ wn, wn = w.alloc (.cells #[.int .u8 3, .int .i32 rn, .int .u32 pl, .int .u32 mi, .slice B ks.length cc] 44) := ⟨_, rfl⟩
  have HW1 := Lib.hid (hW.out _ hal)
  have HAL := Lib.hid hal
  have hsn : (w.alloc (.cells #[.int .u8 3, .int .i32 rn, .int .u32 pl, .int .u32 mi, .slice B ks.length cc] 44)).heap.size = w.heap.size + 1 := by simp
  have HSN := Lib.hid hsn
  obtain ⟨za, _⟩ := h.ra.cel (i := 0) rfl
  obtain ⟨zb, _⟩ := h.ra.cel (i := 1) rfl
  have lba := h.ra.lt
  clear hsn hal h
  rw [← hwn] at HN HW1 HAL HSN
  obtain ⟨p, rfl⟩ : ∃ p : Nat, pl = (p : Int) := ⟨pl.toNat, by have := (kin_u32 k2).1; omega⟩
  obtain ⟨m, rfl⟩ : ∃ m : Nat, mi = (m : Int) := ⟨mi.toNat, by have := (kin_u32 k3).1; omega⟩
  have hp : p < 4294967296 := by have := (kin_u32 k2).2; omega
  have hm : m < 4294967296 := by have := (kin_u32 k3).2; omega
  have HC := Lib.hid (ftext_any A1 A2 c1 c2 0 a p m wn (HW1.out.al.wide (Nat.le_refl _) (by rw [HSN.out]; omega)) hp hm)
  have HE : Hid (clsT a ⟨3, rn, (p : Int), (m : Int), ks⟩ = 91 :: ((classT a p m).1.data.toList ++ [93])) := by show _ = _; unfold clsT; simp
  have HLE := Lib.hid (cls_le a ⟨3, rn, (p : Int), (m : Int), ks⟩)
  generalize clsT a ⟨3, rn, (p : Int), (m : Int), ks⟩ = T at *
  generalize classT a p m = R at *
  obtain ⟨S, E⟩ := R
  obtain ⟨z2, _⟩ := HN.out.cel (i := 2) rfl
  obtain ⟨z3, _⟩ := HN.out.cel (i := 3) rfl
  go_enter Tryd.func37, Tryd.ntmps37
  go_wp2_with fail
  (try rw [← hwn])
  refine HC.out.mono ?_
  rintro e w2 ⟨rfl, hb2⟩
  have HW2 := Lib.hid (HW1.out.new hb2)
  have hs2 := hb2.size
  have hTS : (ByteArray.mk #[91] ++ S ++ ByteArray.mk #[93]).data.toList = T := by
    rw [HE.out]
    simp [ByteArray.data_append]
  have hsz : (ByteArray.mk #[91] ++ S ++ ByteArray.mk #[93]).size ≤ 800 := by
    have h1 := HLE.out
    rw [← hTS] at h1
    rw [show (ByteArray.mk #[91] ++ S ++ ByteArray.mk #[93]).size = (ByteArray.mk #[91] ++ S ++ ByteArray.mk #[93]).data.toList.length from Array.length_toList.symm]
    exact h1
  have HWS := Lib.hid (WriteString_any b b l (ByteArray.mk #[91] ++ S ++ ByteArray.mk #[93]) w2 HW2.out.bl (by omega) (by have := HSN.out; omega))
  have hS : S.size ≤ 800 := by
    simp only [ByteArray.size_append] at hsz
    omega
  have HO2 := Lib.hid ((oth_below HAL.out).trans (oth_below (b := b) hb2))
  have HB2 := Lib.hid ((HAL.out.mono hsize).trans (hb2.mono (show b ≤ wn.heap.size by rw [HSN.out]; omega)))
  have HTS := Lib.hid hTS
  clear hb2 hTS hsz HC
  go_wp2_with fail
  refine HWS.out.mono ?_
  rintro e w3 ⟨rfl, hb3, hbe3, ho3⟩
  have HFIN := Lib.hid (WrOut.mk' HB2.out HO2.out hbe3 ho3 hb3 (by rw [HTS.out]))
  clear hb3 hbe3 ho3 HWS
  go_wp2_with fail
  go_end0
  exact HFIN.out
theorem sum_take (h : Int → Nat) : ∀ (l : List Int) (j : Nat) (hj : j < l.length), ((l.take j).map h).sum + h l[j] ≤ (l.map h).sum
  | [], j, hj => by simp at hj
  | x :: r, 0, _ => by simp
  | x :: r, j + 1, hj => by
    have := sum_take h r j (by simpa using hj)
    simp only [List.take_succ_cons, List.map_cons, List.sum_cons, List.getElem_cons_succ]
    omega
set_option maxHeartbeats 8000000 in
set_option maxRecDepth 100000 in
theorem wr_seq {at_ : Nat} {rn pl mi : Int} {ks : List Int} {l : List UInt8} {w : World} (g : Int → List UInt8) (sz : Int → Nat) (h : Ws a ns A1 A2 An c1 c2 cn b bf bp ba l w) (hat : at_ < ns.length) (hx : ns[at_] = ⟨6, rn, pl, mi, ks⟩) (hl : l.length ≤ 1000000) (hsum : l.length + 900 * (1 + (ks.map sz).sum) ≤ 1000000) (hg : ∀ k ∈ ks, (g k).length + 1 ≤ 900 * sz k)
    (ih : ∀ k ∈ ks, ∀ (l1 : List UInt8) (wx : World), l1.length + 900 * sz k ≤ 1000000 → Ws a ns A1 A2 An c1 c2 cn b bf bp ba l1 wx → Calls Tryd.prog 37 #[.int .i64 k, .pointer (some ⟨bp, 0, none⟩), .pointer (some ⟨b, 0, none⟩), .pointer (some ⟨ba, 0, none⟩), .pointer (some ⟨bf, 0, none⟩)] wx (WrOut b (l1 ++ g k) wx)) :
    Calls Tryd.prog 37 #[.int .i64 (at_ : Int), .pointer (some ⟨bp, 0, none⟩), .pointer (some ⟨b, 0, none⟩), .pointer (some ⟨ba, 0, none⟩), .pointer (some ⟨bf, 0, none⟩)] w (WrOut b (l ++ (40 :: (catT g ks ++ [41]))) w) := by
  have hn := nd_at h.nd hat
  rw [hx] at hn
  dsimp only at hn
  obtain ⟨bb, off, B, cc, hA, _, hb, ⟨y0, f0⟩, ⟨y1, f1⟩, ⟨y2, f2⟩, ⟨y3, f3⟩, ⟨y4, f4⟩, hkl, hkc, hks, k0, k1, k2, k3⟩ := hn
  obtain ⟨cp, fp⟩ := h.rp.cel (i := 0) rfl
  rw [hA] at cp
  have lb := (bld_lt h.bl).2
  have lp := h.lp
  have hlt : (at_ : Int) < (ns.length : Int) := by omega
  have h0 : (0 : Int) ≤ (at_ : Int) := by omega
  have hW := Lib.hid (fun (wx : World) (hb : Below w.heap.size w wx) => h.new hb)
  have hsize : b ≤ w.heap.size := by omega
  have HN := Lib.hid (Row.new w 44 [.int .u8 6, .int .i32 rn, .int .u32 pl, .int .u32 mi, .slice B ks.length cc])
  have hal : Below w.heap.size w (w.alloc (.cells #[.int .u8 6, .int .i32 rn, .int .u32 pl, .int .u32 mi, .slice B ks.length cc] 44)) := (Below.refl _ _).alloc (Nat.le_refl _) _
  obtain ⟨wn, hwn⟩ : ∃ wn, wn = w.alloc (.cells #[.int .u8 6, .int .i32 rn, .int .u32 pl, .int .u32 mi, .slice B ks.length cc] 44) := ⟨_, rfl⟩
  have HW1 := Lib.hid (hW.out _ hal)
  have HAL := Lib.hid hal
  have hsn : (w.alloc (.cells #[.int .u8 6, .int .i32 rn, .int .u32 pl, .int .u32 mi, .slice B ks.length cc] 44)).heap.size = w.heap.size + 1 := by simp
  have HSN := Lib.hid hsn
  clear hsn hal h
  rw [← hwn] at HN HW1 HAL HSN
  have hkb : ks.length ≤ 1000000 := by
    have := catT_len (g := g) (h := sz) ks hg
    omega
  have HC := Lib.hid (WriteByte_any b b l 40 wn HW1.out.bl (by decide) (by omega) (by rw [HSN.out]; omega))
  go_enter Tryd.func37, Tryd.ntmps37
  go_wp2_with fail
  rw [← hwn]
  refine HC.out.mono ?_
  rintro e w2 ⟨rfl, hb2, hbe2, ho2⟩
  have HW2 := Lib.hid (HW1.out.on hbe2 ho2 hb2)
  have HB2 := Lib.hid ((HAL.out.mono hsize).trans hbe2)
  have HO2 := Lib.hid ((oth_below (b := b) HAL.out).trans ho2)
  have hrn := row_oth HN.out ho2 (by omega) (by decide)
  obtain ⟨z4, _⟩ := hrn.cel (i := 4) rfl
  have hs2 := hbe2.size
  have HKS := Lib.hid (fun (wx : World) (hb : Below b w wx) => hks.below (vInt_good _) hb (Nat.le_refl _))
  clear hb2 hbe2 ho2 hrn HC HN hW
  go_wp2_with fail
  go_loopw [55] (fun i wr => ∃ j : Nat, j ≤ ks.length ∧ i = .int .i64 j ∧ Ws a ns A1 A2 An c1 c2 cn b bf bp ba (l ++ 40 :: catT g (ks.take j)) wr ∧ Below b w wr ∧ Oth b w wr) (fun i _ => ks.length - (intOf i).toNat)
  case atStart => exact ⟨0, by omega, rfl, by rw [List.take_zero]; exact HW2.out, HB2.out, HO2.out⟩
  case round =>
    obtain ⟨j, hj, rfl, hst, hbe, ho⟩ := hrel
    by_cases hlt : j < ks.length
    · obtain ⟨gb, go, hB, _, hgb, ⟨z5, _⟩, _⟩ := ints_at (HKS.out wr hbe) hlt
      subst hB
      have hmem : ks[j] ∈ ks := List.getElem_mem hlt
      have hls := (bld_lt hst.bl).2
      obtain ⟨z6, _⟩ := hst.rf.cel (i := 0) rfl
      have lf := hst.rf.lt
      have h1 := sum_take sz ks j hlt
      have h2 := catT_len (g := g) (h := sz) (ks.take j) (fun k hk => hg k (List.mem_of_mem_take hk))
      have h3 := hg _ hmem
      have HJJ := Lib.hid (show (ks.take j).length = j by rw [List.length_take]; omega)
      have hlen : (l ++ 40 :: catT g (ks.take j)).length + 900 * sz ks[j] ≤ 1000000 := by
        have hjj := HJJ.out
        simp only [List.length_append, List.length_cons]
        omega
      have HI := Lib.hid (ih _ hmem _ wr hlen hst)
      have HSN' : Hid (catT g (ks.take (j + 1)) = catT g (ks.take j) ++ g ks[j]) := by
        show _ = _
        rw [List.take_succ_eq_append_getElem hlt, catT_snoc]
      generalize ks[j] = k at *
      have HST := Lib.hid hst
      have HBE := Lib.hid hbe
      have HO := Lib.hid ho
      have j1 : (j : Int) < (ks.length : Int) := by omega
      clear h1 h2 h3 hlen hst hbe ho ih
      go_wp2_with fail
      refine HI.out.mono ?_
      rintro e w5 ⟨rfl, hb5, hbe5, ho5⟩
      have hfin : Ws a ns A1 A2 An c1 c2 cn b bf bp ba (l ++ 40 :: catT g (ks.take (j + 1))) w5 := by
        rw [HSN'.out]
        exact HST.out.on hbe5 ho5 (by simpa using hb5)
      have HFIN := Lib.hid hfin
      have HBE5 := Lib.hid (HBE.out.trans hbe5)
      have HO5 := Lib.hid (HO.out.trans ho5)
      clear hfin hb5 hbe5 ho5 HI
      go_wp2_with fail
      exact ⟨⟨j + 1, by omega, by go_num, HFIN.out, HBE5.out, HO5.out⟩, by simp [intOf]; omega⟩
    · obtain rfl : j = ks.length := by omega
      have j1 : ¬ (ks.length : Int) < (ks.length : Int) := by omega
      have hls := (bld_lt hst.bl).2
      rw [List.take_length] at hst
      have h2 := catT_len (g := g) (h := sz) ks hg
      
      have HC3 := Lib.hid (WriteByte_any b b (l ++ 40 :: catT g ks) 41 wr hst.bl (by decide) (by simp only [List.length_append, List.length_cons]; omega) (by omega))
      have HBE := Lib.hid hbe
      have HO := Lib.hid ho
      clear hst hbe ho ih h2
      go_wp2_with fail
      refine HC3.out.mono ?_
      rintro e w5 ⟨rfl, hb5, hbe5, ho5⟩
      have HFIN := Lib.hid (WrOut.mk' HBE.out HO.out hbe5 ho5 hb5 (show l ++ (40 :: (catT g ks ++ [41])) = _ by simp))
      clear hb5 hbe5 ho5 HC3
      go_wp2_with fail
      go_end0
      exact HFIN.out
set_option maxHeartbeats 8000000 in
set_option maxRecDepth 100000 in
theorem wr_or {at_ : Nat} {rn pl mi : Int} {ks : List Int} {l : List UInt8} {w : World} (g : Int → List UInt8) (sz : Int → Nat) (h : Ws a ns A1 A2 An c1 c2 cn b bf bp ba l w) (hat : at_ < ns.length) (hx : ns[at_] = ⟨7, rn, pl, mi, ks⟩) (hl : l.length ≤ 1000000) (hsum : l.length + 900 * (1 + (ks.map sz).sum) ≤ 1000000) (hg : ∀ k ∈ ks, (g k).length + 1 ≤ 900 * sz k)
    (ih : ∀ k ∈ ks, ∀ (l1 : List UInt8) (wx : World), l1.length + 900 * sz k ≤ 1000000 → Ws a ns A1 A2 An c1 c2 cn b bf bp ba l1 wx → Calls Tryd.prog 37 #[.int .i64 k, .pointer (some ⟨bp, 0, none⟩), .pointer (some ⟨b, 0, none⟩), .pointer (some ⟨ba, 0, none⟩), .pointer (some ⟨bf, 0, none⟩)] wx (WrOut b (l1 ++ g k) wx)) :
    Calls Tryd.prog 37 #[.int .i64 (at_ : Int), .pointer (some ⟨bp, 0, none⟩), .pointer (some ⟨b, 0, none⟩), .pointer (some ⟨ba, 0, none⟩), .pointer (some ⟨bf, 0, none⟩)] w (WrOut b (l ++ (123 :: (orT g 0 ks ++ [125]))) w) := by
  have hn := nd_at h.nd hat
  rw [hx] at hn
  dsimp only at hn
  obtain ⟨bb, off, B, cc, hA, _, hb, ⟨y0, f0⟩, ⟨y1, f1⟩, ⟨y2, f2⟩, ⟨y3, f3⟩, ⟨y4, f4⟩, hkl, hkc, hks, k0, k1, k2, k3⟩ := hn
  obtain ⟨cp, fp⟩ := h.rp.cel (i := 0) rfl
  rw [hA] at cp
  have lb := (bld_lt h.bl).2
  have lp := h.lp
  have hlt : (at_ : Int) < (ns.length : Int) := by omega
  have h0 : (0 : Int) ≤ (at_ : Int) := by omega
  have hW := Lib.hid (fun (wx : World) (hb : Below w.heap.size w wx) => h.new hb)
  have hsize : b ≤ w.heap.size := by omega
  have HN := Lib.hid (Row.new w 44 [.int .u8 7, .int .i32 rn, .int .u32 pl, .int .u32 mi, .slice B ks.length cc])
  have hal : Below w.heap.size w (w.alloc (.cells #[.int .u8 7, .int .i32 rn, .int .u32 pl, .int .u32 mi, .slice B ks.length cc] 44)) := (Below.refl _ _).alloc (Nat.le_refl _) _
  obtain ⟨wn, hwn⟩ : ∃ wn, wn = w.alloc (.cells #[.int .u8 7, .int .i32 rn, .int .u32 pl, .int .u32 mi, .slice B ks.length cc] 44) := ⟨_, rfl⟩
  have HW1 := Lib.hid (hW.out _ hal)
  have HAL := Lib.hid hal
  have hsn : (w.alloc (.cells #[.int .u8 7, .int .i32 rn, .int .u32 pl, .int .u32 mi, .slice B ks.length cc] 44)).heap.size = w.heap.size + 1 := by simp
  have HSN := Lib.hid hsn
  clear hsn hal h
  rw [← hwn] at HN HW1 HAL HSN
  have hkb : ks.length ≤ 1000000 := by
    have := catT_len (g := g) (h := sz) ks hg
    omega
  have HC := Lib.hid (WriteByte_any b b l 123 wn HW1.out.bl (by decide) (by omega) (by rw [HSN.out]; omega))
  go_enter Tryd.func37, Tryd.ntmps37
  go_wp2_with fail
  rw [← hwn]
  refine HC.out.mono ?_
  rintro e w2 ⟨rfl, hb2, hbe2, ho2⟩
  have HW2 := Lib.hid (HW1.out.on hbe2 ho2 hb2)
  have HB2 := Lib.hid ((HAL.out.mono hsize).trans hbe2)
  have HO2 := Lib.hid ((oth_below (b := b) HAL.out).trans ho2)
  have hrn := row_oth HN.out ho2 (by omega) (by decide)
  obtain ⟨z4, _⟩ := hrn.cel (i := 4) rfl
  have hs2 := hbe2.size
  have HKS := Lib.hid (fun (wx : World) (hb : Below b w wx) => hks.below (vInt_good _) hb (Nat.le_refl _))
  clear hb2 hbe2 ho2 hrn HC HN hW
  go_wp2_with fail
  go_loopw [70] (fun i wr => ∃ j : Nat, j ≤ ks.length ∧ i = .int .i64 j ∧ Ws a ns A1 A2 An c1 c2 cn b bf bp ba (l ++ 123 :: orT g 0 (ks.take j)) wr ∧ Below b w wr ∧ Oth b w wr) (fun i _ => ks.length - (intOf i).toNat)
  case atStart => exact ⟨0, by omega, rfl, by rw [List.take_zero]; exact HW2.out, HB2.out, HO2.out⟩
  case round =>
    obtain ⟨j, hj, rfl, hst, hbe, ho⟩ := hrel
    by_cases hlt : j < ks.length
    · obtain ⟨gb, go, hB, _, hgb, ⟨z5, _⟩, _⟩ := ints_at (HKS.out wr hbe) hlt
      subst hB
      have hmem : ks[j] ∈ ks := List.getElem_mem hlt
      have hls := (bld_lt hst.bl).2
      obtain ⟨z6, _⟩ := hst.rf.cel (i := 0) rfl
      have lf := hst.rf.lt
      have h1 := sum_take sz ks j hlt
      have h2 := catT_len (g := g) (h := sz) (ks.take j) (fun k hk => hg k (List.mem_of_mem_take hk))
      have h3 := hg _ hmem
      have HJJ := Lib.hid (show (ks.take j).length = j by rw [List.length_take]; omega)
      have h4 := orT_len g (ks.take j) 0
      have hlen : (l ++ 123 :: orT g 0 (ks.take j)).length + 1 + 900 * sz ks[j] ≤ 1000000 := by
        have hjj := HJJ.out
        simp only [List.length_append, List.length_cons]
        omega
      have HSN' : Hid (orT g 0 (ks.take (j + 1)) = orT g 0 (ks.take j) ++ ((if 0 < j then [124] else []) ++ g ks[j])) := by
        show _ = _
        rw [List.take_succ_eq_append_getElem hlt, orT_snoc, HJJ.out, Nat.zero_add]
      have HI := Lib.hid (ih _ hmem)
      generalize ks[j] = k at *
      have HST := Lib.hid hst
      have HBE := Lib.hid hbe
      have HO := Lib.hid ho
      have j1 : (j : Int) < (ks.length : Int) := by omega
      by_cases hj0 : j = 0
      · subst hj0
        simp only [Nat.add_zero] at z5
        have HI2 := Lib.hid (HI.out _ wr (by omega) hst)
        have HS2 : Hid (orT g 0 (ks.take (0 + 1)) = orT g 0 (ks.take 0) ++ g k) := by show _ = _; rw [HSN'.out]; simp
        clear h1 h2 h3 h4 hlen hst hbe ho ih HSN' HI
        go_wp2_with fail
        refine HI2.out.mono ?_
        rintro e w5 ⟨rfl, hb5, hbe5, ho5⟩
        have hfin : Ws a ns A1 A2 An c1 c2 cn b bf bp ba (l ++ 123 :: orT g 0 (ks.take (0 + 1))) w5 := by
          rw [HS2.out]
          exact HST.out.on hbe5 ho5 (by simpa using hb5)
        have HFIN := Lib.hid hfin
        have HBE5 := Lib.hid (HBE.out.trans hbe5)
        have HO5 := Lib.hid (HO.out.trans ho5)
        clear hfin hb5 hbe5 ho5 HI2
        go_wp2_with fail
        exact ⟨⟨0 + 1, by omega, by go_num, HFIN.out, HBE5.out, HO5.out⟩, by simp [intOf]; omega⟩
      · have j0 : (0 : Int) < (j : Int) := by omega
        have HS2 : Hid (orT g 0 (ks.take (j + 1)) = orT g 0 (ks.take j) ++ (124 :: g k)) := by show _ = _; rw [HSN'.out, if_pos (by omega)]; rfl
        have HC2 := Lib.hid (WriteByte_any b b (l ++ 123 :: orT g 0 (ks.take j)) 124 wr hst.bl (by decide) (by omega) (by omega))
        have HLEN := Lib.hid hlen
        clear h1 h2 h3 h4 hlen hst hbe ho ih HSN'
        go_wp2_with fail
        refine HC2.out.mono ?_
        rintro e w4 ⟨rfl, hb4, hbe4, ho4⟩
        have hst4 := HST.out.on hbe4 ho4 hb4
        obtain ⟨y6, _⟩ := hst4.rf.cel (i := 0) rfl
        have HI2 := Lib.hid (HI.out _ w4 (by have := HLEN.out; rw [List.length_append]; simp only [List.length_singleton]; omega) hst4)
        have HST4 := Lib.hid hst4
        have HBE4 := Lib.hid (HBE.out.trans hbe4)
        have HO4 := Lib.hid (HO.out.trans ho4)
        have lf4 := hst4.rf.lt
        clear hb4 hbe4 ho4 hst4 HC2 HI z6 z5
        go_wp2_with fail
        refine HI2.out.mono ?_
        rintro e w5 ⟨rfl, hb5, hbe5, ho5⟩
        have hfin : Ws a ns A1 A2 An c1 c2 cn b bf bp ba (l ++ 123 :: orT g 0 (ks.take (j + 1))) w5 := by
          rw [HS2.out]
          exact HST4.out.on hbe5 ho5 (by simpa using hb5)
        have HFIN := Lib.hid hfin
        have HBE5 := Lib.hid (HBE4.out.trans hbe5)
        have HO5 := Lib.hid (HO4.out.trans ho5)
        clear hfin hb5 hbe5 ho5 HI2
        go_wp2_with fail
        exact ⟨⟨j + 1, by omega, by go_num, HFIN.out, HBE5.out, HO5.out⟩, by simp [intOf]; omega⟩
    · obtain rfl : j = ks.length := by omega
      have j1 : ¬ (ks.length : Int) < (ks.length : Int) := by omega
      have hls := (bld_lt hst.bl).2
      rw [List.take_length] at hst
      have h2 := catT_len (g := g) (h := sz) ks hg
      have h4 := orT_len g ks 0
      have HC3 := Lib.hid (WriteByte_any b b (l ++ 123 :: orT g 0 ks) 125 wr hst.bl (by decide) (by simp only [List.length_append, List.length_cons]; omega) (by omega))
      have HBE := Lib.hid hbe
      have HO := Lib.hid ho
      clear hst hbe ho ih h2
      go_wp2_with fail
      refine HC3.out.mono ?_
      rintro e w5 ⟨rfl, hb5, hbe5, ho5⟩
      have HFIN := Lib.hid (WrOut.mk' HBE.out HO.out hbe5 ho5 hb5 (show l ++ (123 :: (orT g 0 ks ++ [125])) = _ by simp))
      clear hb5 hbe5 ho5 HC3
      go_wp2_with fail
      go_end0
      exact HFIN.out
set_option maxHeartbeats 8000000 in
set_option maxRecDepth 100000 in
theorem wr_star {at_ : Nat} {rn pl mi : Int} {ks : List Int} {l : List UInt8} {w : World} (g : Int → List UInt8) (sz : Int → Nat) (h : Ws a ns A1 A2 An c1 c2 cn b bf bp ba l w) (hat : at_ < ns.length) (hx : ns[at_] = ⟨8, rn, pl, mi, ks⟩) (hl : l.length ≤ 1000000) (hsum : l.length + 900 * (1 + (ks.map sz).sum) ≤ 1000000) (hg : ∀ k ∈ ks, (g k).length + 1 ≤ 900 * sz k)
    (ih : ∀ k ∈ ks, ∀ (l1 : List UInt8) (wx : World), l1.length + 900 * sz k ≤ 1000000 → Ws a ns A1 A2 An c1 c2 cn b bf bp ba l1 wx → Calls Tryd.prog 37 #[.int .i64 k, .pointer (some ⟨bp, 0, none⟩), .pointer (some ⟨b, 0, none⟩), .pointer (some ⟨ba, 0, none⟩), .pointer (some ⟨bf, 0, none⟩)] wx (WrOut b (l1 ++ g k) wx)) (hone : ks.length = 1) :
    Calls Tryd.prog 37 #[.int .i64 (at_ : Int), .pointer (some ⟨bp, 0, none⟩), .pointer (some ⟨b, 0, none⟩), .pointer (some ⟨ba, 0, none⟩), .pointer (some ⟨bf, 0, none⟩)] w (WrOut b (l ++ (oneT g ks ++ [42])) w) := by
  have hn := nd_at h.nd hat
  rw [hx] at hn
  dsimp only at hn
  obtain ⟨bb, off, B, cc, hA, _, hb, ⟨y0, f0⟩, ⟨y1, f1⟩, ⟨y2, f2⟩, ⟨y3, f3⟩, ⟨y4, f4⟩, hkl, hkc, hks, k0, k1, k2, k3⟩ := hn
  obtain ⟨cp, fp⟩ := h.rp.cel (i := 0) rfl
  rw [hA] at cp
  have lb := (bld_lt h.bl).2
  have lp := h.lp
  have hlt : (at_ : Int) < (ns.length : Int) := by omega
  have h0 : (0 : Int) ≤ (at_ : Int) := by omega
  have hW := Lib.hid (fun (wx : World) (hb : Below w.heap.size w wx) => h.new hb)
  have hsize : b ≤ w.heap.size := by omega
  have HN := Lib.hid (Row.new w 44 [.int .u8 8, .int .i32 rn, .int .u32 pl, .int .u32 mi, .slice B ks.length cc])
  have hal : Below w.heap.size w (w.alloc (.cells #[.int .u8 8, .int .i32 rn, .int .u32 pl, .int .u32 mi, .slice B ks.length cc] 44)) := (Below.refl _ _).alloc (Nat.le_refl _) _
  obtain ⟨wn, hwn⟩ : ∃ wn, wn = w.alloc (.cells #[.int .u8 8, .int .i32 rn, .int .u32 pl, .int .u32 mi, .slice B ks.length cc] 44) := ⟨_, rfl⟩
  have HW1 := Lib.hid (hW.out _ hal)
  have HAL := Lib.hid hal
  have hsn : (w.alloc (.cells #[.int .u8 8, .int .i32 rn, .int .u32 pl, .int .u32 mi, .slice B ks.length cc] 44)).heap.size = w.heap.size + 1 := by simp
  have HSN := Lib.hid hsn
  clear hsn hal h
  rw [← hwn] at HN HW1 HAL HSN
  obtain ⟨k, rfl⟩ : ∃ k, ks = [k] := by
    match ks, hone with
    | [k], _ => exact ⟨k, rfl⟩
  have hg1 := hg k (by simp)
  have hsum1 : l.length + 900 * (1 + sz k) ≤ 1000000 := by simpa using hsum
  obtain ⟨wd, hwd⟩ : ∃ wd, wd = wn.drew := ⟨_, rfl⟩
  have hbd : Below wn.heap.size wn wd := by rw [hwd]; exact below_drewN (Below.refl _ wn) 1
  have hwsd := HW1.out.new hbd
  have hbw : Below w.heap.size w wd := HAL.out.trans (hbd.mono (by rw [HSN.out]; omega))
  have HI := Lib.hid (ih k (by simp) l wd (by omega) hwsd)
  obtain ⟨gb, go, hB, _, hgb, ⟨z5, _⟩, _⟩ := ints_at (i := 0) (hks.below (vInt_good _) (hbw.mono hsize) (Nat.le_refl _)) (by simp)
  subst hB
  have HND := Lib.hid (show Row wd w.heap.size 44 [.int .u8 8, .int .i32 rn, .int .u32 pl, .int .u32 mi, .slice (some ⟨gb, go, none⟩) [k].length cc] by rw [hwd]; exact HN.out)
  obtain ⟨z4, _⟩ := HND.out.cel (i := 4) rfl
  obtain ⟨z6, _⟩ := hwsd.rf.cel (i := 0) rfl
  simp only [List.getElem_cons_zero, Nat.add_zero] at z5
  have HBW := Lib.hid (hbw.mono hsize)
  have HOW := Lib.hid (oth_below (b := b) hbw)
  have HWD := Lib.hid hwd
  clear hsum hg ih hwsd hbw hbd hwd
  rw [show ([k] : List Int).length = 1 from rfl] at hwn
  go_enter Tryd.func37, Tryd.ntmps37
  go_wp2_with fail
  rw [← hwn]
  refine wp_region_still_tail 5 (by kernel_rfl) (by kernel_rfl) ?_
  simp only [List.take_succ_cons, List.take_zero, List.drop_succ_cons, List.drop_zero]
  change wpStill _ _ wn.drew _ _ _
  rw [← HWD.out]
  repeat still_step
  refine wpStill_nil ?_
  clear z4 z5 z6
  go_wp2_with fail
  have HI2 := HI.out
  rw [HWD.out, hwn] at HI2
  refine HI2.mono ?_
  clear HI2
  rintro e w3 ⟨rfl, hb3, hbe3, ho3⟩
  rw [← hwn, ← HWD.out] at hbe3 ho3
  have hs3 := hbe3.size
  have HC := Lib.hid (WriteByte_any b b (l ++ g k) 42 w3 hb3 (by decide) (by rw [List.length_append]; omega) (Nat.le_of_lt (bld_lt hb3).2))
  have HBE := Lib.hid (HBW.out.trans hbe3)
  have HO := Lib.hid (HOW.out.trans ho3)
  clear hb3 hbe3 ho3 HI
  go_wp2_with fail
  refine HC.out.mono ?_
  rintro e w5 ⟨rfl, hb5, hbe5, ho5⟩
  have HFIN := Lib.hid (WrOut.mk' HBE.out HO.out hbe5 ho5 hb5 (show l ++ (oneT g [k] ++ [42]) = _ by simp [oneT]))
  clear hb5 hbe5 ho5 HC
  go_wp2_with fail
  go_end0
  exact HFIN.out
set_option maxHeartbeats 8000000 in
set_option maxRecDepth 100000 in
theorem wr_opt {at_ : Nat} {rn pl mi : Int} {ks : List Int} {l : List UInt8} {w : World} (g : Int → List UInt8) (sz : Int → Nat) (h : Ws a ns A1 A2 An c1 c2 cn b bf bp ba l w) (hat : at_ < ns.length) (hx : ns[at_] = ⟨9, rn, pl, mi, ks⟩) (hl : l.length ≤ 1000000) (hsum : l.length + 900 * (1 + (ks.map sz).sum) ≤ 1000000) (hg : ∀ k ∈ ks, (g k).length + 1 ≤ 900 * sz k)
    (ih : ∀ k ∈ ks, ∀ (l1 : List UInt8) (wx : World), l1.length + 900 * sz k ≤ 1000000 → Ws a ns A1 A2 An c1 c2 cn b bf bp ba l1 wx → Calls Tryd.prog 37 #[.int .i64 k, .pointer (some ⟨bp, 0, none⟩), .pointer (some ⟨b, 0, none⟩), .pointer (some ⟨ba, 0, none⟩), .pointer (some ⟨bf, 0, none⟩)] wx (WrOut b (l1 ++ g k) wx)) (hone : ks.length = 1) :
    Calls Tryd.prog 37 #[.int .i64 (at_ : Int), .pointer (some ⟨bp, 0, none⟩), .pointer (some ⟨b, 0, none⟩), .pointer (some ⟨ba, 0, none⟩), .pointer (some ⟨bf, 0, none⟩)] w (WrOut b (l ++ (oneT g ks ++ [63])) w) := by
  have hn := nd_at h.nd hat
  rw [hx] at hn
  dsimp only at hn
  obtain ⟨bb, off, B, cc, hA, _, hb, ⟨y0, f0⟩, ⟨y1, f1⟩, ⟨y2, f2⟩, ⟨y3, f3⟩, ⟨y4, f4⟩, hkl, hkc, hks, k0, k1, k2, k3⟩ := hn
  obtain ⟨cp, fp⟩ := h.rp.cel (i := 0) rfl
  rw [hA] at cp
  have lb := (bld_lt h.bl).2
  have lp := h.lp
  have hlt : (at_ : Int) < (ns.length : Int) := by omega
  have h0 : (0 : Int) ≤ (at_ : Int) := by omega
  have hW := Lib.hid (fun (wx : World) (hb : Below w.heap.size w wx) => h.new hb)
  have hsize : b ≤ w.heap.size := by omega
  have HN := Lib.hid (Row.new w 44 [.int .u8 9, .int .i32 rn, .int .u32 pl, .int .u32 mi, .slice B ks.length cc])
  have hal : Below w.heap.size w (w.alloc (.cells #[.int .u8 9, .int .i32 rn, .int .u32 pl, .int .u32 mi, .slice B ks.length cc] 44)) := (Below.refl _ _).alloc (Nat.le_refl _) _
  obtain ⟨wn, hwn⟩ : ∃ wn, wn = w.alloc (.cells #[.int .u8 9, .int .i32 rn, .int .u32 pl, .int .u32 mi, .slice B ks.length cc] 44) := ⟨_, rfl⟩
  have HW1 := Lib.hid (hW.out _ hal)
  have HAL := Lib.hid hal
  have hsn : (w.alloc (.cells #[.int .u8 9, .int .i32 rn, .int .u32 pl, .int .u32 mi, .slice B ks.length cc] 44)).heap.size = w.heap.size + 1 := by simp
  have HSN := Lib.hid hsn
  clear hsn hal h
  rw [← hwn] at HN HW1 HAL HSN
  obtain ⟨k, rfl⟩ : ∃ k, ks = [k] := by
    match ks, hone with
    | [k], _ => exact ⟨k, rfl⟩
  have hg1 := hg k (by simp)
  have hsum1 : l.length + 900 * (1 + sz k) ≤ 1000000 := by simpa using hsum
  obtain ⟨wd, hwd⟩ : ∃ wd, wd = wn.drew := ⟨_, rfl⟩
  have hbd : Below wn.heap.size wn wd := by rw [hwd]; exact below_drewN (Below.refl _ wn) 1
  have hwsd := HW1.out.new hbd
  have hbw : Below w.heap.size w wd := HAL.out.trans (hbd.mono (by rw [HSN.out]; omega))
  have HI := Lib.hid (ih k (by simp) l wd (by omega) hwsd)
  obtain ⟨gb, go, hB, _, hgb, ⟨z5, _⟩, _⟩ := ints_at (i := 0) (hks.below (vInt_good _) (hbw.mono hsize) (Nat.le_refl _)) (by simp)
  subst hB
  have HND := Lib.hid (show Row wd w.heap.size 44 [.int .u8 9, .int .i32 rn, .int .u32 pl, .int .u32 mi, .slice (some ⟨gb, go, none⟩) [k].length cc] by rw [hwd]; exact HN.out)
  obtain ⟨z4, _⟩ := HND.out.cel (i := 4) rfl
  obtain ⟨z6, _⟩ := hwsd.rf.cel (i := 0) rfl
  simp only [List.getElem_cons_zero, Nat.add_zero] at z5
  have HBW := Lib.hid (hbw.mono hsize)
  have HOW := Lib.hid (oth_below (b := b) hbw)
  have HWD := Lib.hid hwd
  clear hsum hg ih hwsd hbw hbd hwd
  rw [show ([k] : List Int).length = 1 from rfl] at hwn
  go_enter Tryd.func37, Tryd.ntmps37
  go_wp2_with fail
  rw [← hwn]
  refine wp_region_still_tail 5 (by kernel_rfl) (by kernel_rfl) ?_
  simp only [List.take_succ_cons, List.take_zero, List.drop_succ_cons, List.drop_zero]
  change wpStill _ _ wn.drew _ _ _
  rw [← HWD.out]
  repeat still_step
  refine wpStill_nil ?_
  clear z4 z5 z6
  go_wp2_with fail
  have HI2 := HI.out
  rw [HWD.out, hwn] at HI2
  refine HI2.mono ?_
  clear HI2
  rintro e w3 ⟨rfl, hb3, hbe3, ho3⟩
  rw [← hwn, ← HWD.out] at hbe3 ho3
  have hs3 := hbe3.size
  have HC := Lib.hid (WriteByte_any b b (l ++ g k) 63 w3 hb3 (by decide) (by rw [List.length_append]; omega) (Nat.le_of_lt (bld_lt hb3).2))
  have HBE := Lib.hid (HBW.out.trans hbe3)
  have HO := Lib.hid (HOW.out.trans ho3)
  clear hb3 hbe3 ho3 HI
  go_wp2_with fail
  refine HC.out.mono ?_
  rintro e w5 ⟨rfl, hb5, hbe5, ho5⟩
  have HFIN := Lib.hid (WrOut.mk' HBE.out HO.out hbe5 ho5 hb5 (show l ++ (oneT g [k] ++ [63]) = _ by simp [oneT]))
  clear hb5 hbe5 ho5 HC
  go_wp2_with fail
  go_end0
  exact HFIN.out
end
end Go.Proofs.YtimhlnndobfehaaDoor
