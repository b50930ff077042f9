/- All; First. Where it begins, ended at a place; Begins. -/
import Derived.Test.YtimhlnndobfehaaDoorMc32
import Derived.Test.YtimhlnndobfehaaDoorMc31
namespace Go.Proofs.YtimhlnndobfehaaDoor
open Go.RowKit
open Go.Lib (Utf8Tabs)
set_option linter.unusedVariables false

def allM (a : Al) (ns : List Nd) (s : ByteArray) : List (Nat × Nat) × Int := if begE a ns s ≠ 0 then ([], begE a ns s) else (spanL ns (matW a s) 0, 0)
def SpsOut (r : List (Nat × Nat) × Int) (W : World) (e : Ending) (w' : World) : Prop :=
  ∃ A c, e = .returned (.tuple #[.slice A r.1.length c, .int .i64 r.2]) ∧ w'.ownsRow W.heap.size 62 2 (.slice A r.1.length c) r.1.length (spanVs r.1) ∧ Below W.heap.size W w'
theorem SpsOut.no {r : List (Nat × Nat) × Int} {E : Int} {W w' : World} (h : r = ([], E)) (hb : Below W.heap.size W w') : SpsOut r W (.returned (.tuple #[.slice none 0 0, .int .i64 E])) w' := by
  subst h
  exact ⟨none, 0, rfl, World.ownsRow_nil _ _ _ _, hb⟩
set_option maxHeartbeats 8000000 in
set_option maxRecDepth 100000 in
theorem all_op (A1 A2 An : Option Addr) (c1 c2 cn lo : Nat) (a : Al) (ns : List Nd) (s : ByteArray) (w : World) (hin : AlIn w lo w.heap.size A1 A2 a) (hT : Utf8Tabs 0 1 w) (hns : Sl 5 vNd w lo w.heap.size An ns) (hm : ns.length ≤ 9223372036854775807) (hs : s.size ≤ maxLen) :
    Calls Tryd.prog 32 #[.agg #[.slice A1 a.feats.length c1, .slice A2 a.lets.length c2], .agg #[.slice An ns.length cn], .string s] w (SpsOut (allM a ns s) w) := by
  have hal : Below w.heap.size w ((w.alloc (.cells #[.slice A1 a.feats.length c1, .slice A2 a.lets.length c2] 25)).alloc (.cells #[.slice An ns.length cn] 28)) := ((Below.refl _ _).alloc (Nat.le_refl _) _).alloc (by simp) _
  have hbeg := Lib.hid (begun_any A1 A2 An c1 c2 cn lo a ns s _ (hin.on hal) (Utf8Tabs_below hT hal) ((hns.below vNd_good hal (Nat.le_refl _)).wide vNd_good (Nat.le_refl _) hal.size) hm hs)
  have HS : Hid (allM a ns s = if begE a ns s ≠ 0 then ([], begE a ns s) else (spanL ns (matW a s) 0, 0)) := rfl
  have HBZ := Lib.hid (beg_zero (a := a) (ns := ns) (s := s))
  have HAL := Lib.hid hal
  generalize allM a ns s = R at *
  clear hal hin hT hns
  go_enter Tryd.func32, Tryd.ntmps32
  go_wp2_with fail
  refine hbeg.out.mono ?_
  rintro e w1 ⟨hb1, ⟨hne, rfl⟩ | ⟨hz, sp, b, Al, cl, rfl, hb, hsr⟩⟩
  · have HFIN := Lib.hid (SpsOut.no (W := w) (w' := w1) (show R = ([], begE a ns s) by rw [HS.out, if_pos hne]) (HAL.out.trans (hb1.mono HAL.out.size)))
    generalize begE a ns s = E at *
    have hE : (E != 0) = true := by rw [bne_iff_ne]; exact hne
    clear HS HBZ hbeg HAL hb1 hne
    go_wp2_with fail
    go_ret2
    exact HFIN.out
  · obtain ⟨htree, hl⟩ := HBZ.out hz
    have hR : R = (spanL ns (matW a s) 0, 0) := by rw [HS.out, if_neg (by simp [hz])]
    have hbw := HAL.out.trans (hb1.mono HAL.out.size)
    have hbge : w.heap.size ≤ b := by have := HAL.out.size; omega
    rw [show matL a (lettersS a s).1 = matW a s from rfl] at hsr
    generalize matW a s = L at *
    have hb2 : Below w1.heap.size w1 (w1.alloc (.cells #[.slice none 0 0] 58)) := (Below.refl _ _).alloc (Nat.le_refl _) _
    have hs2 := (hsr.weak (T := fun g => g = w1.heap.size) (fun g hg e => by omega) (fun g e => by have := hsr.lt; omega)).below hb2
    have hcall := Lib.hid (spans_all (tree_nodes htree) htree.pos hs2 (Row.new w1 58 [.slice none 0 0]))
    have hlb := hsr.lt
    have HR := Lib.hid hR
    have HBW := Lib.hid hbw
    have HB2 := Lib.hid hb2
    clear HS HBZ hbeg HAL hb1 hz htree hl hR hsr hbw hs2 hb2
    generalize spanL ns L 0 = E at *
    go_wp2_with fail
    refine hcall.out.mono ?_
    rintro e w3 ⟨rfl, ⟨A, c, hcell⟩, hfr⟩
    obtain ⟨z0, _⟩ := hcell.row.cel (i := 0) rfl
    have hlt := hcell.row.lt
    have hbw3 : Below w.heap.size w w3 := (HBW.out.trans (HB2.out.mono HBW.out.size)).trans (hfr.below (fun g e => by rcases e with e | e <;> have := HBW.out.size <;> omega) (by have := HBW.out.size; have := HB2.out.size; omega))
    have hfin : SpsOut R w (.returned (.tuple #[.slice A E.length c, .int .i64 0])) w3 := by
      rw [HR.out]
      exact ⟨A, c, rfl, own_low hcell.own (by have := HBW.out.size; have := HB2.out.size; omega), hbw3⟩
    have HFIN := Lib.hid hfin
    clear hfin hcell hfr hbw3 hcall
    go_wp2_with fail
    go_ret2
    exact HFIN.out
def firM (a : Al) (ns : List Nd) (s : ByteArray) : Option (Nat × Nat) × Int := if begE a ns s ≠ 0 then (none, begE a ns s) else ((spanL ns (matW a s) 0).head?, 0)
def FirOut (r : Option (Nat × Nat) × Int) (W : World) (e : Ending) (w' : World) : Prop :=
  e = .returned (.tuple #[.agg #[.int .i64 ((r.1.getD (0, 0)).1 : Int), .int .i64 ((r.1.getD (0, 0)).2 : Int)], .bool r.1.isSome, .int .i64 r.2]) ∧ Below W.heap.size W w'
theorem results_cell_2 {fn : Func} {p u v : Tmp} {ty : TypeId} (h : fn.results = #[.cell p ty, .tmp u, .tmp v]) (tmps : Array Value) (P : Program) (w : World) :
    (results fn tmps).run P w = ((do let c ← loadVar ty (← asAddr (tmps.getD p undef)); pure (Value.tuple #[c, tmps.getD u undef, tmps.getD v undef]) : Sem Value).run P w) := by
  unfold results
  rw [h]
  simp
theorem res_first {fn : Func} {p q u : Tmp} (h : fn.results = #[.cell p 62, .tmp q, .tmp u]) (tmps : Array Value) (w : World) (g : Nat) (c0 c1 : Value) (hp : tmps.getD p undef = .pointer (some ⟨g, 0, none⟩)) (hg : Row w g 62 [c0, c1]) :
    (results fn tmps).run Tryd.prog w = .ok (.tuple #[.agg #[c0, c1], tmps.getD q undef, tmps.getD u undef]) w := by
  have hl := run_loadVar_row (P := Tryd.prog) w g 62 62 #[c0, c1] (0, 0) _ hg Tryd.underlying62 rfl (by kernel_rfl)
  rw [results_cell_2 h, hp]
  simp [asAddr, hl, Result.andThen]
set_option maxHeartbeats 8000000 in
set_option maxRecDepth 100000 in
theorem first_op (A1 A2 An : Option Addr) (c1 c2 cn lo : Nat) (a : Al) (ns : List Nd) (s : ByteArray) (w : World) (hin : AlIn w lo w.heap.size A1 A2 a) (hT : Utf8Tabs 0 1 w) (hns : Sl 5 vNd w lo w.heap.size An ns) (hm : ns.length ≤ 9223372036854775807) (hs : s.size ≤ maxLen) :
    Calls Tryd.prog 36 #[.agg #[.slice A1 a.feats.length c1, .slice A2 a.lets.length c2], .agg #[.slice An ns.length cn], .string s] w (FirOut (firM a ns s) w) := by
  obtain ⟨W0, hW0⟩ : ∃ W0, W0 = ((w.alloc (.cells #[.slice A1 a.feats.length c1, .slice A2 a.lets.length c2] 25)).alloc (.cells #[.slice An ns.length cn] 28)).alloc (.cells #[.int .i64 0, .int .i64 0] 62) := ⟨_, rfl⟩
  have hal : Below w.heap.size w W0 := by rw [hW0]; exact (((Below.refl _ _).alloc (Nat.le_refl _) _).alloc (by simp) _).alloc (by simp; omega) _
  have hp0 : Row W0 (w.heap.size + 1 + 1) 62 [.int .i64 0, .int .i64 0] := by
    have h := Row.new ((w.alloc (.cells #[.slice A1 a.feats.length c1, .slice A2 a.lets.length c2] 25)).alloc (.cells #[.slice An ns.length cn] 28)) 62 [.int .i64 0, .int .i64 0]
    rw [hW0]
    simpa using h
  have hbeg := Lib.hid (begun_any A1 A2 An c1 c2 cn lo a ns s _ (hin.on hal) (Utf8Tabs_below hT hal) ((hns.below vNd_good hal (Nat.le_refl _)).wide vNd_good (Nat.le_refl _) hal.size) hm hs)
  have HS : Hid (firM a ns s = if begE a ns s ≠ 0 then (none, begE a ns s) else ((spanL ns (matW a s) 0).head?, 0)) := rfl
  have HBZ := Lib.hid (beg_zero (a := a) (ns := ns) (s := s))
  have HAL := Lib.hid hal
  have HP0 := Lib.hid hp0
  generalize firM a ns s = R at *
  rw [hW0] at hbeg
  clear hal hin hT hns hp0
  go_enter Tryd.func36, Tryd.ntmps36
  go_wp2_with fail
  refine hbeg.out.mono ?_
  rw [← hW0]
  rintro e w1 ⟨hb1, ⟨hne, rfl⟩ | ⟨hz, sp, b, Al, cl, rfl, hb, hsr⟩⟩
  · have hbw := HAL.out.trans (hb1.mono HAL.out.size)
    have hp1 := HP0.out.below hb1 HP0.out.lt
    obtain ⟨c0, f0⟩ := hp1.cel (i := 0) rfl
    obtain ⟨c1', f1⟩ := hp1.cel (i := 1) rfl
    have hl1 := hp1.lt
    have hrow := Lib.hid ((hp1.set_ 0 (.int .i64 0)).set_ 1 (.int .i64 0))
    have hR : R = (none, begE a ns s) := by rw [HS.out, if_pos hne]
    have hbw2 := (hbw.setCell (p := ⟨w.heap.size + 1 + 1, 0, none⟩) (by simp; omega) (.int .i64 0)).setCell (p := ⟨w.heap.size + 1 + 1, 1, none⟩) (by simp; omega) (.int .i64 0)
    have HFIN : Hid (FirOut R w (.returned (.tuple #[.agg #[.int .i64 0, .int .i64 0], .bool false, .int .i64 (begE a ns s)])) ((w1.setCell ⟨w.heap.size + 1 + 1, 0, none⟩ (.int .i64 0)).setCell ⟨w.heap.size + 1 + 1, 1, none⟩ (.int .i64 0))) := by
      rw [hR]
      exact ⟨rfl, hbw2⟩
    generalize begE a ns s = E at *
    have hE : (E != 0) = true := by rw [bne_iff_ne]; exact hne
    clear HS HBZ hbeg HAL hb1 hne hR hbw2 hbw hp1 HP0 hW0
    go_wp2_with fail
    (try simp only [Exit.inBlock, Exit.then])
    refine bodyPost_ret (res_first rfl _ _ (w.heap.size + 1 + 1) _ _ rfl hrow.out) rfl ?_
    exact HFIN.out
  · obtain ⟨htree, hl⟩ := HBZ.out hz
    have hR : R = ((spanL ns (matW a s) 0).head?, 0) := by rw [HS.out, if_neg (by simp [hz])]
    have hbw := HAL.out.trans (hb1.mono HAL.out.size)
    have hp1 := HP0.out.below hb1 HP0.out.lt
    have hbge : w.heap.size + 3 ≤ b := by rw [hW0] at hb; simpa using hb
    rw [show matL a (lettersS a s).1 = matW a s from rfl] at hsr
    generalize matW a s = L at *
    have hb2 : Below w1.heap.size w1 ((w1.alloc (.cells #[.int .i64 0, .int .i64 0] 62)).alloc (.cells #[.bool false] 4)) := ((Below.refl _ _).alloc (Nat.le_refl _) _).alloc (by simp) _
    have hs2 := (hsr.weak (T := fun g => g = w1.heap.size ∨ g = w1.heap.size + 1) (fun g hg e => by omega) (fun g e => by have := hsr.lt; omega)).below hb2
    have hfc : FirCell ((w1.alloc (.cells #[.int .i64 0, .int .i64 0] 62)).alloc (.cells #[.bool false] 4)) w1.heap.size (w1.heap.size + 1) none :=
      ⟨(Row.new w1 62 [.int .i64 0, .int .i64 0]).alloc _, by
        have := Row.new (w1.alloc (.cells #[.int .i64 0, .int .i64 0] 62)) 4 [.bool false]
        simpa using this⟩
    have hcall := Lib.hid (spans_first (tree_nodes htree) htree.pos hs2 hfc (by omega))
    have hlb := hsr.lt
    have hp1l := hp1.lt
    have HR := Lib.hid hR
    have HBW := Lib.hid hbw
    have HB2 := Lib.hid hb2
    have HP1 := Lib.hid hp1
    clear HS HBZ hbeg HAL hb1 hz htree hl hR hsr hbw hs2 hb2 hfc hp1 HP0 hW0
    generalize (spanL ns L 0).head? = E at *
    go_wp2_with fail
    refine hcall.out.mono ?_
    rintro e w3 ⟨rfl, hfc, hfr⟩
    have hz1 := HBW.out.size
    have hz2 := HB2.out.size
    have hbw3 : Below w.heap.size w w3 := (HBW.out.trans (HB2.out.mono HBW.out.size)).trans (hfr.below (fun g e => by rcases e with e | e | e <;> omega) (by omega))
    have hp3 : Row w3 (w.heap.size + 1 + 1) 62 [.int .i64 0, .int .i64 0] := (hfr.block _ (by omega) (by rintro (e | e | e) <;> omega)).trans ((HB2.out.block _ hp1l).trans HP1.out)
    obtain ⟨c0, f0⟩ := hp3.cel (i := 0) rfl
    obtain ⟨c1', f1⟩ := hp3.cel (i := 1) rfl
    obtain ⟨hr1, hr2⟩ := hfc
    have hR2 : R = (E, 0) := HR.out
    have HFIN : Hid (FirOut R w (.returned (.tuple #[.agg #[.int .i64 ((E.getD (0, 0)).1 : Int), .int .i64 ((E.getD (0, 0)).2 : Int)], .bool E.isSome, .int .i64 0])) ((w3.drew.setCell ⟨w.heap.size + 1 + 1, 0, none⟩ (.int .i64 ((E.getD (0, 0)).1 : Int))).setCell ⟨w.heap.size + 1 + 1, 1, none⟩ (.int .i64 ((E.getD (0, 0)).2 : Int)))) := by
      rw [hR2]
      exact ⟨rfl, ((below_drewN hbw3 1).setCell (p := ⟨w.heap.size + 1 + 1, 0, none⟩) (by simp; omega) _).setCell (p := ⟨w.heap.size + 1 + 1, 1, none⟩) (by simp; omega) _⟩
    unfold spanC at hr1
    generalize (E.getD (0, 0)).1 = x1 at *
    generalize (E.getD (0, 0)).2 = x2 at *
    generalize E.isSome = is at *
    obtain ⟨d0, _⟩ := hr1.cel (i := 0) rfl
    obtain ⟨d1, _⟩ := hr1.cel (i := 1) rfl
    obtain ⟨d2, _⟩ := hr2.cel (i := 0) rfl
    have m1 := hr1.lt
    have m2 := hr2.lt
    have m3 := hp3.lt
    have HROW := Lib.hid ((hp3.drew.set_ 0 (.int .i64 (x1 : Int))).set_ 1 (.int .i64 (x2 : Int)))
    clear hfr hbw3 hp3 hr1 hr2 hR2 HR hcall HP1 HB2 HBW
    go_wp2_with fail
    go_region
    all_goals
      go_wp2_with fail
      (try simp only [Exit.inBlock, Exit.then])
      refine bodyPost_ret (res_first rfl _ _ (w.heap.size + 1 + 1) _ _ rfl HROW.out) rfl ?_
      exact HFIN.out
end Go.Proofs.YtimhlnndobfehaaDoor
namespace Go.Proofs.YtimhlnndobfehaaDoor
open Go.RowKit
open Go.Lib (Utf8Tabs)
set_option linter.unusedVariables false

/-- The places at which it begins, ended at one: rising. -/
def begL (ns : List Nd) (L : List Lt) (t : Nat) : List Nat := (List.range (t + 1)).filter fun i => decide (t ∈ endsL ns L 0 i)
theorem mem_beg {ns : List Nd} {L : List Lt} {t i : Nat} (ht : t ≤ L.length) : i ∈ begL ns L t ↔ i ≤ t ∧ Lies ns L 0 i t := by
  unfold begL
  rw [List.mem_filter, List.mem_range, decide_eq_true_eq]
  constructor
  · rintro ⟨h1, h2⟩; exact ⟨by omega, (mem_ends (by omega)).1 h2⟩
  · rintro ⟨h1, h2⟩; exact ⟨by omega, (mem_ends (by omega)).2 h2⟩
theorem beg_len (ns : List Nd) (L : List Lt) (t : Nat) : (begL ns L t).length ≤ t + 1 := by
  unfold begL
  have := List.length_filter_le (fun i => decide (t ∈ endsL ns L 0 i)) (List.range (t + 1))
  rwa [List.length_range] at this
def begI (ns : List Nd) (L : List Lt) (t j : Nat) : List Int := toI ((List.range j).filter fun i => decide (t ∈ endsL ns L 0 i))
theorem begI_succ (ns : List Nd) (L : List Lt) (t j : Nat) : begI ns L t (j + 1) = if t ∈ endsL ns L 0 j then begI ns L t j ++ [(j : Int)] else begI ns L t j := by
  unfold begI toI
  rw [List.range_succ, List.filter_append]
  by_cases h : t ∈ endsL ns L 0 j <;> simp [h]
theorem begI_len (ns : List Nd) (L : List Lt) (t j : Nat) : (begI ns L t j).length ≤ j := by
  unfold begI
  rw [toI_len]
  have := List.length_filter_le (fun i => decide (t ∈ endsL ns L 0 i)) (List.range j)
  rwa [List.length_range] at this
section
variable {ns : List Nd} {L : List Lt} {An Al : Option Addr} {cn cl sp b : Nat} {Z : Nat → Prop} {w wr w' : World}
def BeSt (ns : List Nd) (L : List Lt) (An Al : Option Addr) (cn cl sp b t : Nat) (Z : Nat → Prop) (W : World) (v x : Value) (wr : World) : Prop :=
  ∃ (j : Nat) (A : Option Addr) (c : Nat), v = .slice A (begI ns L t j).length c ∧ x = .int .i64 (j : Int) ∧ j ≤ t + 1 ∧ Fill ns L An Al cn cl sp b Z W A c (begI ns L t j) wr
set_option maxHeartbeats 8000000 in
set_option maxRecDepth 100000 in
theorem begins_any {t : Nat} (hns : NodesOk ns) (hpos : 1 ≤ ns.length) (h : Srch ns L An Al cn cl sp b Z w) (hZ : ∀ g, Z g → g < w.heap.size) (ht : t ≤ L.length) :
    Calls Tryd.prog 58 #[.pointer (some ⟨sp, 0, none⟩), .int .i64 (t : Int)] w fun e w' => ∃ A c, e = .returned (.slice A (begI ns L t (t + 1)).length c) ∧ Fill ns L An Al cn cl sp b Z w A c (begI ns L t (t + 1)) w' := by
  obtain ⟨i1, hi1, hy0, hy1, hy2⟩ := info_parts mint_info
  have hn2 := h.n2
  have hbw := h.lt
  have hst : BeSt ns L An Al cn cl sp b t Z w (.slice none 0 0) (.int .i64 0) w := ⟨0, none, 0, rfl, rfl, by omega, Fill.nil h hZ⟩
  have HST := Lib.hid hst
  clear hst h hZ
  go_enter Tryd.func58, Tryd.ntmps58
  go_wp2_with fail
  go_loopw [5, 9] (fun v x wr => BeSt ns L An Al cn cl sp b t Z w v x wr) (fun _ x _ => t + 1 - (intOf x).toNat)
  case atStart => exact HST.out
  case round =>
    clear HST
    obtain ⟨j, A, c, rfl, rfl, hj, hfill⟩ := hrel
    have hbs := hfill.fr.size
    have hjl := begI_len ns L t j
    by_cases hlt : j < t + 1
    · have hji : j ≤ L.length := by omega
      have hcall := Lib.hid (hfill.s.ends hns hpos hfill.zlt hji)
      have hel := endsI_len ns L 0 j
      have j1 : (j : Int) < (t : Int) + 1 := by omega
      have HFI := Lib.hid hfill
      have HSU := Lib.hid (begI_succ ns L t j)
      have hmm : (t : Int) ∈ endsI ns L 0 j ↔ t ∈ endsL ns L 0 j := by
        unfold endsI
        rw [toI_mem]
        constructor
        · rintro ⟨q, e, hq⟩
          obtain rfl : t = q := by omega
          exact hq
        · exact fun hq => ⟨t, rfl, hq⟩
      by_cases hin : t ∈ endsL ns L 0 j
      · have hin2 : (endsI ns L 0 j).contains (t : Int) = true := by rw [List.contains_iff_mem]; exact hmm.2 hin
        have hin3 := hmm.2 hin
        have HSU2 : Hid (begI ns L t (j + 1) = begI ns L t j ++ [(j : Int)]) := by show _ = _; rw [HSU.out, if_pos hin]
        have HG : Hid (∀ A5 c5 w5, Fill ns L An Al cn cl sp b Z w A5 c5 (begI ns L t j ++ [(j : Int)]) w5 → BeSt ns L An Al cn cl sp b t Z w (.slice A5 ((begI ns L t j).length + 1) c5) (.int .i64 ((j : Int) + 1)) w5) := fun A5 c5 w5 h => by
          rw [← HSU2.out] at h
          exact ⟨j + 1, A5, c5, by rw [HSU2.out, List.length_append]; rfl, by simp, by omega, h⟩
        clear hfill hmm hin HSU HSU2
        generalize endsI ns L 0 j = E at *
        generalize begI ns L t j = B1 at *
        go_wp2_with fail
        refine hcall.out.mono ?_
        rintro e w2 ⟨A2, c2, rfl, hsl2, hs2, hfr2⟩
        have hcon := Lib.hid (contains_int (c := c2) hsl2.1 (by omega) (t : Int))
        have hfill2 := HFI.out.call hs2 hfr2
        have hb3 : Below w2.heap.size w2 (w2.alloc (.cells #[.int .i64 (j : Int)] 3)) := (Below.refl _ _).alloc (Nat.le_refl _) _
        have hfill3 := hfill2.below hb3
        have hq4 : Sl 1 (vInt .i64) (w2.alloc (.cells #[.int .i64 (j : Int)] 3)) w2.heap.size (w2.heap.size + 1) (some ⟨w2.heap.size, 0, none⟩) [(j : Int)] :=
          (Row.new w2 3 [.int .i64 (j : Int)]).sl rfl (Nat.le_refl _) (by omega) (fun i x v hx hv => by
            match i, hx, hv with
            | 0, hx, hv =>
              simp at hx hv
              subst hx hv
              exact ⟨rfl, kin_mk64 (by omega)⟩)
        have hown3 := hfill3.own
        have hbs3 := hfill3.fr.size
        have h63 : B1.length + [(j : Int)].length ≤ maxLen := by unfold maxLen; simp; omega
        have h8 : (B1.length + [(j : Int)].length) * 8 ≤ 140737488355328 := by simp; omega
        have HF3 := Lib.hid hfill3
        rw [hin2] at hcon
        clear hcall hsl2 hs2 hfr2 hfill2 hfill3 hb3 HFI hin2
        go_wp2_with fail
        refine hcon.out.mono ?_
        rintro e w2' ⟨rfl, rfl⟩
        go_wp2_with (at_builtin; refine wpList_append_ints rfl _ _ 42 rfl 3 i1 8 Tryd.underlying42 hi1 hy0 hy1 hy2 rfl rfl hown3 hq4 h63 h8 hbs3 ?_)
        intro A5 c5 w5 hown5 hfr5 hat5
        have hown6 : w5.ownsRow w.heap.size 3 1 (.slice A5 (B1 ++ [(j : Int)]).length c5) (B1 ++ [(j : Int)]).length ((B1 ++ [(j : Int)]).map (Value.int .i64)) := by simpa using hown5
        have hat6 : ∀ g, (Value.slice A5 (B1 ++ [(j : Int)]).length c5).ownBlock = some g → (Value.slice A B1.length c).ownBlock = some g ∨ (w2'.alloc (.cells #[.int .i64 (j : Int)] 3)).heap.size ≤ g := fun g hg => (hat5 g (by simpa using hg)).imp id fun h => by simpa using h
        have hfill5 := HF3.out.grow hbw hown6 hfr5 hat6
        have HFIN := Lib.hid (HG.out _ _ _ hfill5)
        clear hfill5 hown5 hown6 hfr5 hat5 hat6 HF3 HG
        go_wp2_with fail
        exact ⟨HFIN.out, by simp [intOf]; omega⟩
      · have hin2 : (endsI ns L 0 j).contains (t : Int) = false := by rw [← Bool.not_eq_true, List.contains_iff_mem]; exact fun h => hin (hmm.1 h)
        have hin3 := fun h => hin (hmm.1 h)
        have HSU2 : Hid (begI ns L t (j + 1) = begI ns L t j) := by show _ = _; rw [HSU.out, if_neg hin]
        have HG : Hid (∀ w5, Fill ns L An Al cn cl sp b Z w A c (begI ns L t j) w5 → BeSt ns L An Al cn cl sp b t Z w (.slice A (begI ns L t j).length c) (.int .i64 ((j : Int) + 1)) w5) := fun w5 h => by
          rw [← HSU2.out] at h ⊢
          exact ⟨j + 1, A, c, rfl, by simp, by omega, h⟩
        clear hfill hmm hin HSU HSU2
        generalize endsI ns L 0 j = E at *
        generalize begI ns L t j = B1 at *
        go_wp2_with fail
        refine hcall.out.mono ?_
        rintro e w2 ⟨A2, c2, rfl, hsl2, hs2, hfr2⟩
        have hcon := Lib.hid (contains_int (c := c2) hsl2.1 (by omega) (t : Int))
        have hfill2 := HFI.out.call hs2 hfr2
        have HFIN := Lib.hid (HG.out _ hfill2)
        rw [hin2] at hcon
        clear hcall hsl2 hs2 hfr2 hfill2 HFI hin2 HG
        go_wp2_with fail
        refine hcon.out.mono ?_
        rintro e w2' ⟨rfl, rfl⟩
        go_wp2_with fail
        exact ⟨HFIN.out, by simp [intOf]; omega⟩
    · obtain rfl : j = t + 1 := by omega
      have j1 : ¬ ((t + 1 : Nat) : Int) < (t : Int) + 1 := by omega
      have HFIN := Lib.hid hfill
      clear hfill
      go_wp2_with fail
      go_ret
      exact ⟨A, c, rfl, HFIN.out⟩
end
end Go.Proofs.YtimhlnndobfehaaDoor
