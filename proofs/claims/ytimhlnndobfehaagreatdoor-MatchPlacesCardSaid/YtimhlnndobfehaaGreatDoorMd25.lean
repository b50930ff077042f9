/- All; First. Where it begins, ended at a place; Begins. Begins. Between. -/
import Derived.Test.YtimhlnndobfehaaGreatDoorMd24
import Derived.Test.YtimhlnndobfehaaGreatDoorMd23
namespace Go.Proofs.YtimhlnndobfehaaGreatDoor
open Go.RowKit
open Go.Lib (Utf8Tabs)
set_option linter.unusedVariables false

def allM (a : Al) (ns : List Nd) (s : ByteArray) : List (Nat × Nat) × Int := if begE a ns s ≠ 0 then ([], begE a ns s) else (spanL ns (matW a s) 0, 0)
def SpsOut (r : List (Nat × Nat) × Int) (W : World) (e : Ending) (w' : World) : Prop :=
  ∃ A c, e = .returned (.tuple #[.slice A r.1.length c, .int .i64 r.2]) ∧ w'.ownsRow W.heap.size 51 2 (.slice A r.1.length c) r.1.length (spanVs r.1) ∧ Below W.heap.size W w'
theorem SpsOut.no {r : List (Nat × Nat) × Int} {E : Int} {W w' : World} (h : r = ([], E)) (hb : Below W.heap.size W w') : SpsOut r W (.returned (.tuple #[.slice none 0 0, .int .i64 E])) w' := by
  subst h
  exact ⟨none, 0, rfl, World.ownsRow_nil _ _ _ _, hb⟩
set_option maxHeartbeats 8000000 in
set_option maxRecDepth 100000 in
theorem all_op (A1 A2 An : Option Addr) (c1 c2 cn lo : Nat) (a : Al) (ns : List Nd) (s : ByteArray) (w : World) (hin : AlIn w lo w.heap.size A1 A2 a) (hT : Utf8Tabs 0 1 w) (hns : Sl 5 vNd w lo w.heap.size An ns) (hm : ns.length ≤ 9223372036854775807) (hs : s.size ≤ maxLen) :
    Calls Tryz.prog 30 #[.agg #[.slice A1 a.feats.length c1, .slice A2 a.lets.length c2], .agg #[.slice An ns.length cn], .string s] w (SpsOut (allM a ns s) w) := by
  have hal : Below w.heap.size w ((w.alloc (.cells #[.slice A1 a.feats.length c1, .slice A2 a.lets.length c2] 25)).alloc (.cells #[.slice An ns.length cn] 28)) := ((Below.refl _ _).alloc (Nat.le_refl _) _).alloc (by simp) _
  have hbeg := Lib.hid (begun_any A1 A2 An c1 c2 cn lo a ns s _ (hin.on hal) (Utf8Tabs_below hT hal) ((hns.below vNd_good hal (Nat.le_refl _)).wide vNd_good (Nat.le_refl _) hal.size) hm hs)
  have HS : Hid (allM a ns s = if begE a ns s ≠ 0 then ([], begE a ns s) else (spanL ns (matW a s) 0, 0)) := rfl
  have HBZ := Lib.hid (beg_zero (a := a) (ns := ns) (s := s))
  have HAL := Lib.hid hal
  generalize allM a ns s = R at *
  clear hal hin hT hns
  go_enter Tryz.func30, Tryz.ntmps30
  go_wp2_with fail
  refine hbeg.out.mono ?_
  rintro e w1 ⟨hb1, ⟨hne, rfl⟩ | ⟨hz, sp, b, Al, cl, rfl, hb, hsr⟩⟩
  · have HFIN := Lib.hid (SpsOut.no (W := w) (w' := w1) (show R = ([], begE a ns s) by rw [HS.out, if_pos hne]) (HAL.out.trans (hb1.mono HAL.out.size)))
    generalize begE a ns s = E at *
    have hE : (E != 0) = true := by rw [bne_iff_ne]; exact hne
    clear HS HBZ hbeg HAL hb1 hne
    go_wp2_with fail
    go_ret2
    exact HFIN.out
  · obtain ⟨htree, hl⟩ := HBZ.out hz
    have hR : R = (spanL ns (matW a s) 0, 0) := by rw [HS.out, if_neg (by simp [hz])]
    have hbw := HAL.out.trans (hb1.mono HAL.out.size)
    have hbge : w.heap.size ≤ b := by have := HAL.out.size; omega
    rw [show matL a (lettersS a s).1 = matW a s from rfl] at hsr
    generalize matW a s = L at *
    have hb2 : Below w1.heap.size w1 (w1.alloc (.cells #[.slice none 0 0] 54)) := (Below.refl _ _).alloc (Nat.le_refl _) _
    have hs2 := (hsr.weak (T := fun g => g = w1.heap.size) (fun g hg e => by omega) (fun g e => by have := hsr.lt; omega)).below hb2
    have hcall := Lib.hid (spans_all (tree_nodes htree) htree.pos hs2 (Row.new w1 54 [.slice none 0 0]))
    have hlb := hsr.lt
    have HR := Lib.hid hR
    have HBW := Lib.hid hbw
    have HB2 := Lib.hid hb2
    clear HS HBZ hbeg HAL hb1 hz htree hl hR hsr hbw hs2 hb2
    generalize spanL ns L 0 = E at *
    go_wp2_with fail
    refine hcall.out.mono ?_
    rintro e w3 ⟨rfl, ⟨A, c, hcell⟩, hfr⟩
    obtain ⟨z0, _⟩ := hcell.row.cel (i := 0) rfl
    have hlt := hcell.row.lt
    have hbw3 : Below w.heap.size w w3 := (HBW.out.trans (HB2.out.mono HBW.out.size)).trans (hfr.below (fun g e => by rcases e with e | e <;> have := HBW.out.size <;> omega) (by have := HBW.out.size; have := HB2.out.size; omega))
    have hfin : SpsOut R w (.returned (.tuple #[.slice A E.length c, .int .i64 0])) w3 := by
      rw [HR.out]
      exact ⟨A, c, rfl, own_low hcell.own (by have := HBW.out.size; have := HB2.out.size; omega), hbw3⟩
    have HFIN := Lib.hid hfin
    clear hfin hcell hfr hbw3 hcall
    go_wp2_with fail
    go_ret2
    exact HFIN.out
def firM (a : Al) (ns : List Nd) (s : ByteArray) : Option (Nat × Nat) × Int := if begE a ns s ≠ 0 then (none, begE a ns s) else ((spanL ns (matW a s) 0).head?, 0)
def FirOut (r : Option (Nat × Nat) × Int) (W : World) (e : Ending) (w' : World) : Prop :=
  e = .returned (.tuple #[.agg #[.int .i64 ((r.1.getD (0, 0)).1 : Int), .int .i64 ((r.1.getD (0, 0)).2 : Int)], .bool r.1.isSome, .int .i64 r.2]) ∧ Below W.heap.size W w'
theorem results_cell_2 {fn : Func} {p u v : Tmp} {ty : TypeId} (h : fn.results = #[.cell p ty, .tmp u, .tmp v]) (tmps : Array Value) (P : Program) (w : World) :
    (results fn tmps).run P w = ((do let c ← loadVar ty (← asAddr (tmps.getD p undef)); pure (Value.tuple #[c, tmps.getD u undef, tmps.getD v undef]) : Sem Value).run P w) := by
  unfold results
  rw [h]
  simp
theorem res_first {fn : Func} {p q u : Tmp} (h : fn.results = #[.cell p 51, .tmp q, .tmp u]) (tmps : Array Value) (w : World) (g : Nat) (c0 c1 : Value) (hp : tmps.getD p undef = .pointer (some ⟨g, 0, none⟩)) (hg : Row w g 51 [c0, c1]) :
    (results fn tmps).run Tryz.prog w = .ok (.tuple #[.agg #[c0, c1], tmps.getD q undef, tmps.getD u undef]) w := by
  have hl := run_loadVar_row (P := Tryz.prog) w g 51 51 #[c0, c1] (0, 0) _ hg Tryz.underlying51 rfl (by kernel_rfl)
  rw [results_cell_2 h, hp]
  simp [asAddr, hl, Result.andThen]
set_option maxHeartbeats 8000000 in
set_option maxRecDepth 100000 in
theorem first_op (A1 A2 An : Option Addr) (c1 c2 cn lo : Nat) (a : Al) (ns : List Nd) (s : ByteArray) (w : World) (hin : AlIn w lo w.heap.size A1 A2 a) (hT : Utf8Tabs 0 1 w) (hns : Sl 5 vNd w lo w.heap.size An ns) (hm : ns.length ≤ 9223372036854775807) (hs : s.size ≤ maxLen) :
    Calls Tryz.prog 29 #[.agg #[.slice A1 a.feats.length c1, .slice A2 a.lets.length c2], .agg #[.slice An ns.length cn], .string s] w (FirOut (firM a ns s) w) := by
  obtain ⟨W0, hW0⟩ : ∃ W0, W0 = ((w.alloc (.cells #[.slice A1 a.feats.length c1, .slice A2 a.lets.length c2] 25)).alloc (.cells #[.slice An ns.length cn] 28)).alloc (.cells #[.int .i64 0, .int .i64 0] 51) := ⟨_, rfl⟩
  have hal : Below w.heap.size w W0 := by rw [hW0]; exact (((Below.refl _ _).alloc (Nat.le_refl _) _).alloc (by simp) _).alloc (by simp; omega) _
  have hp0 : Row W0 (w.heap.size + 1 + 1) 51 [.int .i64 0, .int .i64 0] := by
    have h := Row.new ((w.alloc (.cells #[.slice A1 a.feats.length c1, .slice A2 a.lets.length c2] 25)).alloc (.cells #[.slice An ns.length cn] 28)) 51 [.int .i64 0, .int .i64 0]
    rw [hW0]
    simpa using h
  have hbeg := Lib.hid (begun_any A1 A2 An c1 c2 cn lo a ns s _ (hin.on hal) (Utf8Tabs_below hT hal) ((hns.below vNd_good hal (Nat.le_refl _)).wide vNd_good (Nat.le_refl _) hal.size) hm hs)
  have HS : Hid (firM a ns s = if begE a ns s ≠ 0 then (none, begE a ns s) else ((spanL ns (matW a s) 0).head?, 0)) := rfl
  have HBZ := Lib.hid (beg_zero (a := a) (ns := ns) (s := s))
  have HAL := Lib.hid hal
  have HP0 := Lib.hid hp0
  generalize firM a ns s = R at *
  rw [hW0] at hbeg
  clear hal hin hT hns hp0
  go_enter Tryz.func29, Tryz.ntmps29
  go_wp2_with fail
  refine hbeg.out.mono ?_
  rw [← hW0]
  rintro e w1 ⟨hb1, ⟨hne, rfl⟩ | ⟨hz, sp, b, Al, cl, rfl, hb, hsr⟩⟩
  · have hbw := HAL.out.trans (hb1.mono HAL.out.size)
    have hp1 := HP0.out.below hb1 HP0.out.lt
    obtain ⟨c0, f0⟩ := hp1.cel (i := 0) rfl
    obtain ⟨c1', f1⟩ := hp1.cel (i := 1) rfl
    have hl1 := hp1.lt
    have hrow := Lib.hid ((hp1.set_ 0 (.int .i64 0)).set_ 1 (.int .i64 0))
    have hR : R = (none, begE a ns s) := by rw [HS.out, if_pos hne]
    have hbw2 := (hbw.setCell (p := ⟨w.heap.size + 1 + 1, 0, none⟩) (by simp; omega) (.int .i64 0)).setCell (p := ⟨w.heap.size + 1 + 1, 1, none⟩) (by simp; omega) (.int .i64 0)
    have HFIN : Hid (FirOut R w (.returned (.tuple #[.agg #[.int .i64 0, .int .i64 0], .bool false, .int .i64 (begE a ns s)])) ((w1.setCell ⟨w.heap.size + 1 + 1, 0, none⟩ (.int .i64 0)).setCell ⟨w.heap.size + 1 + 1, 1, none⟩ (.int .i64 0))) := by
      rw [hR]
      exact ⟨rfl, hbw2⟩
    generalize begE a ns s = E at *
    have hE : (E != 0) = true := by rw [bne_iff_ne]; exact hne
    clear HS HBZ hbeg HAL hb1 hne hR hbw2 hbw hp1 HP0 hW0
    go_wp2_with fail
    (try simp only [Exit.inBlock, Exit.then])
    refine bodyPost_ret (res_first rfl _ _ (w.heap.size + 1 + 1) _ _ rfl hrow.out) rfl ?_
    exact HFIN.out
  · obtain ⟨htree, hl⟩ := HBZ.out hz
    have hR : R = ((spanL ns (matW a s) 0).head?, 0) := by rw [HS.out, if_neg (by simp [hz])]
    have hbw := HAL.out.trans (hb1.mono HAL.out.size)
    have hp1 := HP0.out.below hb1 HP0.out.lt
    have hbge : w.heap.size + 3 ≤ b := by rw [hW0] at hb; simpa using hb
    rw [show matL a (lettersS a s).1 = matW a s from rfl] at hsr
    generalize matW a s = L at *
    have hb2 : Below w1.heap.size w1 ((w1.alloc (.cells #[.int .i64 0, .int .i64 0] 51)).alloc (.cells #[.bool false] 4)) := ((Below.refl _ _).alloc (Nat.le_refl _) _).alloc (by simp) _
    have hs2 := (hsr.weak (T := fun g => g = w1.heap.size ∨ g = w1.heap.size + 1) (fun g hg e => by omega) (fun g e => by have := hsr.lt; omega)).below hb2
    have hfc : FirCell ((w1.alloc (.cells #[.int .i64 0, .int .i64 0] 51)).alloc (.cells #[.bool false] 4)) w1.heap.size (w1.heap.size + 1) none :=
      ⟨(Row.new w1 51 [.int .i64 0, .int .i64 0]).alloc _, by
        have := Row.new (w1.alloc (.cells #[.int .i64 0, .int .i64 0] 51)) 4 [.bool false]
        simpa using this⟩
    have hcall := Lib.hid (spans_first (tree_nodes htree) htree.pos hs2 hfc (by omega))
    have hlb := hsr.lt
    have hp1l := hp1.lt
    have HR := Lib.hid hR
    have HBW := Lib.hid hbw
    have HB2 := Lib.hid hb2
    have HP1 := Lib.hid hp1
    clear HS HBZ hbeg HAL hb1 hz htree hl hR hsr hbw hs2 hb2 hfc hp1 HP0 hW0
    generalize (spanL ns L 0).head? = E at *
    go_wp2_with fail
    refine hcall.out.mono ?_
    rintro e w3 ⟨rfl, hfc, hfr⟩
    have hz1 := HBW.out.size
    have hz2 := HB2.out.size
    have hbw3 : Below w.heap.size w w3 := (HBW.out.trans (HB2.out.mono HBW.out.size)).trans (hfr.below (fun g e => by rcases e with e | e | e <;> omega) (by omega))
    have hp3 : Row w3 (w.heap.size + 1 + 1) 51 [.int .i64 0, .int .i64 0] := (hfr.block _ (by omega) (by rintro (e | e | e) <;> omega)).trans ((HB2.out.block _ hp1l).trans HP1.out)
    obtain ⟨c0, f0⟩ := hp3.cel (i := 0) rfl
    obtain ⟨c1', f1⟩ := hp3.cel (i := 1) rfl
    obtain ⟨hr1, hr2⟩ := hfc
    have hR2 : R = (E, 0) := HR.out
    have HFIN : Hid (FirOut R w (.returned (.tuple #[.agg #[.int .i64 ((E.getD (0, 0)).1 : Int), .int .i64 ((E.getD (0, 0)).2 : Int)], .bool E.isSome, .int .i64 0])) ((w3.drew.setCell ⟨w.heap.size + 1 + 1, 0, none⟩ (.int .i64 ((E.getD (0, 0)).1 : Int))).setCell ⟨w.heap.size + 1 + 1, 1, none⟩ (.int .i64 ((E.getD (0, 0)).2 : Int)))) := by
      rw [hR2]
      exact ⟨rfl, ((below_drewN hbw3 1).setCell (p := ⟨w.heap.size + 1 + 1, 0, none⟩) (by simp; omega) _).setCell (p := ⟨w.heap.size + 1 + 1, 1, none⟩) (by simp; omega) _⟩
    unfold spanC at hr1
    generalize (E.getD (0, 0)).1 = x1 at *
    generalize (E.getD (0, 0)).2 = x2 at *
    generalize E.isSome = is at *
    obtain ⟨d0, _⟩ := hr1.cel (i := 0) rfl
    obtain ⟨d1, _⟩ := hr1.cel (i := 1) rfl
    obtain ⟨d2, _⟩ := hr2.cel (i := 0) rfl
    have m1 := hr1.lt
    have m2 := hr2.lt
    have m3 := hp3.lt
    have HROW := Lib.hid ((hp3.drew.set_ 0 (.int .i64 (x1 : Int))).set_ 1 (.int .i64 (x2 : Int)))
    clear hfr hbw3 hp3 hr1 hr2 hR2 HR hcall HP1 HB2 HBW
    go_wp2_with fail
    go_region
    all_goals
      go_wp2_with fail
      (try simp only [Exit.inBlock, Exit.then])
      refine bodyPost_ret (res_first rfl _ _ (w.heap.size + 1 + 1) _ _ rfl HROW.out) rfl ?_
      exact HFIN.out
end Go.Proofs.YtimhlnndobfehaaGreatDoor
namespace Go.Proofs.YtimhlnndobfehaaGreatDoor
open Go.RowKit
open Go.Lib (Utf8Tabs)
set_option linter.unusedVariables false

/-- The places at which it begins, ended at one: rising. -/
def begL (ns : List Nd) (L : List Lt) (t : Nat) : List Nat := (List.range (t + 1)).filter fun i => decide (t ∈ endsL ns L 0 i)
theorem mem_beg {ns : List Nd} {L : List Lt} {t i : Nat} (ht : t ≤ L.length) : i ∈ begL ns L t ↔ i ≤ t ∧ Lies ns L 0 i t := by
  unfold begL
  rw [List.mem_filter, List.mem_range, decide_eq_true_eq]
  constructor
  · rintro ⟨h1, h2⟩; exact ⟨by omega, (mem_ends (by omega)).1 h2⟩
  · rintro ⟨h1, h2⟩; exact ⟨by omega, (mem_ends (by omega)).2 h2⟩
theorem beg_len (ns : List Nd) (L : List Lt) (t : Nat) : (begL ns L t).length ≤ t + 1 := by
  unfold begL
  have := List.length_filter_le (fun i => decide (t ∈ endsL ns L 0 i)) (List.range (t + 1))
  rwa [List.length_range] at this
def begI (ns : List Nd) (L : List Lt) (t j : Nat) : List Int := toI ((List.range j).filter fun i => decide (t ∈ endsL ns L 0 i))
theorem begI_succ (ns : List Nd) (L : List Lt) (t j : Nat) : begI ns L t (j + 1) = if t ∈ endsL ns L 0 j then begI ns L t j ++ [(j : Int)] else begI ns L t j := by
  unfold begI toI
  rw [List.range_succ, List.filter_append]
  by_cases h : t ∈ endsL ns L 0 j <;> simp [h]
theorem begI_len (ns : List Nd) (L : List Lt) (t j : Nat) : (begI ns L t j).length ≤ j := by
  unfold begI
  rw [toI_len]
  have := List.length_filter_le (fun i => decide (t ∈ endsL ns L 0 i)) (List.range j)
  rwa [List.length_range] at this
section
variable {ns : List Nd} {L : List Lt} {An Al : Option Addr} {cn cl sp b : Nat} {Z : Nat → Prop} {w wr w' : World}
def BeSt (ns : List Nd) (L : List Lt) (An Al : Option Addr) (cn cl sp b t : Nat) (Z : Nat → Prop) (W : World) (v x : Value) (wr : World) : Prop :=
  ∃ (j : Nat) (A : Option Addr) (c : Nat), v = .slice A (begI ns L t j).length c ∧ x = .int .i64 (j : Int) ∧ j ≤ t + 1 ∧ Fill ns L An Al cn cl sp b Z W A c (begI ns L t j) wr
set_option maxHeartbeats 8000000 in
set_option maxRecDepth 100000 in
theorem begins_any {t : Nat} (hns : NodesOk ns) (hpos : 1 ≤ ns.length) (h : Srch ns L An Al cn cl sp b Z w) (hZ : ∀ g, Z g → g < w.heap.size) (ht : t ≤ L.length) :
    Calls Tryz.prog 62 #[.pointer (some ⟨sp, 0, none⟩), .int .i64 (t : Int)] w fun e w' => ∃ A c, e = .returned (.slice A (begI ns L t (t + 1)).length c) ∧ Fill ns L An Al cn cl sp b Z w A c (begI ns L t (t + 1)) w' := by
  obtain ⟨i1, hi1, hy0, hy1, hy2⟩ := info_parts mint_info
  have hn2 := h.n2
  have hbw := h.lt
  have hst : BeSt ns L An Al cn cl sp b t Z w (.slice none 0 0) (.int .i64 0) w := ⟨0, none, 0, rfl, rfl, by omega, Fill.nil h hZ⟩
  have HST := Lib.hid hst
  clear hst h hZ
  go_enter Tryz.func62, Tryz.ntmps62
  go_wp2_with fail
  go_loopw [5, 9] (fun v x wr => BeSt ns L An Al cn cl sp b t Z w v x wr) (fun _ x _ => t + 1 - (intOf x).toNat)
  case atStart => exact HST.out
  case round =>
    clear HST
    obtain ⟨j, A, c, rfl, rfl, hj, hfill⟩ := hrel
    have hbs := hfill.fr.size
    have hjl := begI_len ns L t j
    by_cases hlt : j < t + 1
    · have hji : j ≤ L.length := by omega
      have hcall := Lib.hid (hfill.s.ends hns hpos hfill.zlt hji)
      have hel := endsI_len ns L 0 j
      have j1 : (j : Int) < (t : Int) + 1 := by omega
      have HFI := Lib.hid hfill
      have HSU := Lib.hid (begI_succ ns L t j)
      have hmm : (t : Int) ∈ endsI ns L 0 j ↔ t ∈ endsL ns L 0 j := by
        unfold endsI
        rw [toI_mem]
        constructor
        · rintro ⟨q, e, hq⟩
          obtain rfl : t = q := by omega
          exact hq
        · exact fun hq => ⟨t, rfl, hq⟩
      by_cases hin : t ∈ endsL ns L 0 j
      · have hin2 : (endsI ns L 0 j).contains (t : Int) = true := by rw [List.contains_iff_mem]; exact hmm.2 hin
        have hin3 := hmm.2 hin
        have HSU2 : Hid (begI ns L t (j + 1) = begI ns L t j ++ [(j : Int)]) := by show _ = _; rw [HSU.out, if_pos hin]
        have HG : Hid (∀ A5 c5 w5, Fill ns L An Al cn cl sp b Z w A5 c5 (begI ns L t j ++ [(j : Int)]) w5 → BeSt ns L An Al cn cl sp b t Z w (.slice A5 ((begI ns L t j).length + 1) c5) (.int .i64 ((j : Int) + 1)) w5) := fun A5 c5 w5 h => by
          rw [← HSU2.out] at h
          exact ⟨j + 1, A5, c5, by rw [HSU2.out, List.length_append]; rfl, by simp, by omega, h⟩
        clear hfill hmm hin HSU HSU2
        generalize endsI ns L 0 j = E at *
        generalize begI ns L t j = B1 at *
        go_wp2_with fail
        refine hcall.out.mono ?_
        rintro e w2 ⟨A2, c2, rfl, hsl2, hs2, hfr2⟩
        have hcon := Lib.hid (contains_int (c := c2) hsl2.1 (by omega) (t : Int))
        have hfill2 := HFI.out.call hs2 hfr2
        have hb3 : Below w2.heap.size w2 (w2.alloc (.cells #[.int .i64 (j : Int)] 3)) := (Below.refl _ _).alloc (Nat.le_refl _) _
        have hfill3 := hfill2.below hb3
        have hq4 : Sl 1 (vInt .i64) (w2.alloc (.cells #[.int .i64 (j : Int)] 3)) w2.heap.size (w2.heap.size + 1) (some ⟨w2.heap.size, 0, none⟩) [(j : Int)] :=
          (Row.new w2 3 [.int .i64 (j : Int)]).sl rfl (Nat.le_refl _) (by omega) (fun i x v hx hv => by
            match i, hx, hv with
            | 0, hx, hv =>
              simp at hx hv
              subst hx hv
              exact ⟨rfl, kin_mk64 (by omega)⟩)
        have hown3 := hfill3.own
        have hbs3 := hfill3.fr.size
        have h63 : B1.length + [(j : Int)].length ≤ maxLen := by unfold maxLen; simp; omega
        have h8 : (B1.length + [(j : Int)].length) * 8 ≤ 140737488355328 := by simp; omega
        have HF3 := Lib.hid hfill3
        rw [hin2] at hcon
        clear hcall hsl2 hs2 hfr2 hfill2 hfill3 hb3 HFI hin2
        go_wp2_with fail
        refine hcon.out.mono ?_
        rintro e w2' ⟨rfl, rfl⟩
        go_wp2_with (at_builtin; refine wpList_append_ints rfl _ _ 45 rfl 3 i1 8 Tryz.underlying45 hi1 hy0 hy1 hy2 rfl rfl hown3 hq4 h63 h8 hbs3 ?_)
        intro A5 c5 w5 hown5 hfr5 hat5
        have hown6 : w5.ownsRow w.heap.size 3 1 (.slice A5 (B1 ++ [(j : Int)]).length c5) (B1 ++ [(j : Int)]).length ((B1 ++ [(j : Int)]).map (Value.int .i64)) := by simpa using hown5
        have hat6 : ∀ g, (Value.slice A5 (B1 ++ [(j : Int)]).length c5).ownBlock = some g → (Value.slice A B1.length c).ownBlock = some g ∨ (w2'.alloc (.cells #[.int .i64 (j : Int)] 3)).heap.size ≤ g := fun g hg => (hat5 g (by simpa using hg)).imp id fun h => by simpa using h
        have hfill5 := HF3.out.grow hbw hown6 hfr5 hat6
        have HFIN := Lib.hid (HG.out _ _ _ hfill5)
        clear hfill5 hown5 hown6 hfr5 hat5 hat6 HF3 HG
        go_wp2_with fail
        exact ⟨HFIN.out, by simp [intOf]; omega⟩
      · have hin2 : (endsI ns L 0 j).contains (t : Int) = false := by rw [← Bool.not_eq_true, List.contains_iff_mem]; exact fun h => hin (hmm.1 h)
        have hin3 := fun h => hin (hmm.1 h)
        have HSU2 : Hid (begI ns L t (j + 1) = begI ns L t j) := by show _ = _; rw [HSU.out, if_neg hin]
        have HG : Hid (∀ w5, Fill ns L An Al cn cl sp b Z w A c (begI ns L t j) w5 → BeSt ns L An Al cn cl sp b t Z w (.slice A (begI ns L t j).length c) (.int .i64 ((j : Int) + 1)) w5) := fun w5 h => by
          rw [← HSU2.out] at h ⊢
          exact ⟨j + 1, A, c, rfl, by simp, by omega, h⟩
        clear hfill hmm hin HSU HSU2
        generalize endsI ns L 0 j = E at *
        generalize begI ns L t j = B1 at *
        go_wp2_with fail
        refine hcall.out.mono ?_
        rintro e w2 ⟨A2, c2, rfl, hsl2, hs2, hfr2⟩
        have hcon := Lib.hid (contains_int (c := c2) hsl2.1 (by omega) (t : Int))
        have hfill2 := HFI.out.call hs2 hfr2
        have HFIN := Lib.hid (HG.out _ hfill2)
        rw [hin2] at hcon
        clear hcall hsl2 hs2 hfr2 hfill2 HFI hin2 HG
        go_wp2_with fail
        refine hcon.out.mono ?_
        rintro e w2' ⟨rfl, rfl⟩
        go_wp2_with fail
        exact ⟨HFIN.out, by simp [intOf]; omega⟩
    · obtain rfl : j = t + 1 := by omega
      have j1 : ¬ ((t + 1 : Nat) : Int) < (t : Int) + 1 := by omega
      have HFIN := Lib.hid hfill
      clear hfill
      go_wp2_with fail
      go_ret
      exact ⟨A, c, rfl, HFIN.out⟩
end
end Go.Proofs.YtimhlnndobfehaaGreatDoor
namespace Go.Proofs.YtimhlnndobfehaaGreatDoor
open Go.RowKit
open Go.Lib (Utf8Tabs)
set_option linter.unusedVariables false

def beginsS (a : Al) (ns : List Nd) (s : ByteArray) (f : Int) : List Int × Int := if begE a ns s ≠ 0 then ([], begE a ns s) else if placeB (matW a s) f then (begI ns (matW a s) f.toNat (f.toNat + 1), 0) else ([], 2)
set_option maxHeartbeats 8000000 in
set_option maxRecDepth 100000 in
theorem begins_op (A1 A2 An : Option Addr) (c1 c2 cn lo : Nat) (a : Al) (ns : List Nd) (s : ByteArray) (f : Int) (w : World) (hin : AlIn w lo w.heap.size A1 A2 a) (hT : Utf8Tabs 0 1 w) (hns : Sl 5 vNd w lo w.heap.size An ns) (hm : ns.length ≤ 9223372036854775807) (hs : s.size ≤ maxLen) :
    Calls Tryz.prog 23 #[.agg #[.slice A1 a.feats.length c1, .slice A2 a.lets.length c2], .agg #[.slice An ns.length cn], .string s, .int .i64 f] w (LiOut (beginsS a ns s f) w) := by
  have hal : Below w.heap.size w ((w.alloc (.cells #[.slice A1 a.feats.length c1, .slice A2 a.lets.length c2] 25)).alloc (.cells #[.slice An ns.length cn] 28)) := ((Below.refl _ _).alloc (Nat.le_refl _) _).alloc (by simp) _
  have hbeg := Lib.hid (begun_any A1 A2 An c1 c2 cn lo a ns s _ (hin.on hal) (Utf8Tabs_below hT hal) ((hns.below vNd_good hal (Nat.le_refl _)).wide vNd_good (Nat.le_refl _) hal.size) hm hs)
  have HS : Hid (beginsS a ns s f = if begE a ns s ≠ 0 then ([], begE a ns s) else if placeB (matW a s) f then (begI ns (matW a s) f.toNat (f.toNat + 1), 0) else ([], 2)) := rfl
  have HBZ := Lib.hid (beg_zero (a := a) (ns := ns) (s := s))
  have HAL := Lib.hid hal
  generalize beginsS a ns s f = R at *
  clear hal hin hT hns
  go_enter Tryz.func23, Tryz.ntmps23
  go_wp2_with fail
  refine hbeg.out.mono ?_
  rintro e w1 ⟨hb1, ⟨hne, rfl⟩ | ⟨hz, sp, b, Al, cl, rfl, hb, hsr⟩⟩
  · have HFIN := Lib.hid (LiOut.no (W := w) (w' := w1) (show R = ([], begE a ns s) by rw [HS.out, if_pos hne]) (HAL.out.trans (hb1.mono HAL.out.size)))
    generalize begE a ns s = E at *
    have hE : (E != 0) = true := by rw [bne_iff_ne]; exact hne
    clear HS HBZ hbeg HAL hb1 hne
    go_wp2_with fail
    go_ret2
    exact HFIN.out
  · obtain ⟨htree, hl⟩ := HBZ.out hz
    have hlen := matW_len hl
    have hR : R = if placeB (matW a s) f then (begI ns (matW a s) f.toNat (f.toNat + 1), 0) else ([], 2) := by rw [HS.out, if_neg (by simp [hz])]
    have hbw := HAL.out.trans (hb1.mono HAL.out.size)
    have hbge : w.heap.size ≤ b := by have := HAL.out.size; omega
    rw [show matL a (lettersS a s).1 = matW a s from rfl] at hsr
    generalize matW a s = L at *
    have hpl := Lib.hid (place_any hsr f)
    have HBW := Lib.hid hbw
    have HSR := Lib.hid hsr
    have HTR := Lib.hid htree
    have hspl := hsr.row.lt
    clear HS HBZ hbeg HAL hb1 hz hl hsr hbw htree
    cases hP : placeB L f with
    | true =>
      rw [hP] at hpl hR
      obtain ⟨i, rfl, hi⟩ := place_nat hP
      have hR2 : R = (begI ns L i (i + 1), 0) := hR
      have hcall := Lib.hid (begins_any (tree_nodes HTR.out) HTR.out.pos HSR.out (fun g h => h.elim) hi)
      have HR := Lib.hid hR2
      clear hR hR2 hP
      generalize begI ns L i (i + 1) = E at *
      go_wp2_with fail
      refine hpl.out.mono ?_
      rintro e w2 ⟨rfl, rfl⟩
      go_wp2_with fail
      refine hcall.out.mono ?_
      rintro e w3 ⟨A, c, rfl, hfill⟩
      have hfin : LiOut R w (.returned (.tuple #[.slice A E.length c, .int .i64 0])) w3 := by
        rw [HR.out]
        exact ⟨A, c, rfl, own_low hfill.own HBW.out.size, fr_below HBW.out hfill.fr hbge⟩
      have HFIN := Lib.hid hfin
      clear hfin hfill hcall hpl
      go_wp2_with fail
      go_ret2
      exact HFIN.out
    | false =>
      rw [hP] at hpl hR
      have HFIN := Lib.hid (LiOut.no (W := w) (w' := w1) (show R = ([], 2) from hR) HBW.out)
      clear hR hP
      go_wp2_with fail
      refine hpl.out.mono ?_
      rintro e w2 ⟨rfl, rfl⟩
      go_wp2_with fail
      go_ret2
      exact HFIN.out
end Go.Proofs.YtimhlnndobfehaaGreatDoor
namespace Go.Proofs.YtimhlnndobfehaaGreatDoor
open Go.RowKit
open Go.Lib (Utf8Tabs)
set_option linter.unusedVariables false

def betweenS (a : Al) (ls rs : List Nd) (s : ByteArray) (f t : Int) : Bool × Int :=
  if patE a ls ≠ 0 then (false, patE a ls) else if begE a rs s ≠ 0 then (false, begE a rs s) else if placeB (matW a s) f && placeB (matW a s) t then
    (decide (0 < (begI ls (matW a s) f.toNat (f.toNat + 1)).length) && decide (0 < (endsI rs (matW a s) 0 t.toNat).length), 0) else (false, 2)
set_option maxHeartbeats 8000000 in
set_option maxRecDepth 100000 in
theorem between_any (A1 A2 An Am : Option Addr) (c1 c2 cn cm lo : Nat) (a : Al) (ls rs : List Nd) (s : ByteArray) (f t : Int) (w : World) (hin : AlIn w lo w.heap.size A1 A2 a) (hT : Utf8Tabs 0 1 w) (hls : Sl 5 vNd w lo w.heap.size An ls) (hrs : Sl 5 vNd w lo w.heap.size Am rs) (hm : ls.length ≤ 9223372036854775807) (hm2 : rs.length ≤ 9223372036854775807) (hs : s.size ≤ maxLen) :
    Calls Tryz.prog 34 #[.agg #[.slice A1 a.feats.length c1, .slice A2 a.lets.length c2], .agg #[.slice An ls.length cn], .agg #[.slice Am rs.length cm], .string s, .int .i64 f, .int .i64 t] w (BoOut (betweenS a ls rs s f t) w) := by
  obtain ⟨W0, hW0⟩ : ∃ W0, W0 = ((w.alloc (.cells #[.slice A1 a.feats.length c1, .slice A2 a.lets.length c2] 25)).alloc (.cells #[.slice An ls.length cn] 28)).alloc (.cells #[.slice Am rs.length cm] 28) := ⟨_, rfl⟩
  have hal : Below w.heap.size w W0 := by rw [hW0]; exact (((Below.refl _ _).alloc (Nat.le_refl _) _).alloc (by simp) _).alloc (by simp; omega) _
  have hr0 : Row W0 w.heap.size 25 [.slice A1 a.feats.length c1, .slice A2 a.lets.length c2] := by rw [hW0]; exact ((Row.new w _ _).alloc _).alloc _
  have hq0 : Row W0 (w.heap.size + 1) 28 [.slice An ls.length cn] := by
    have h := (Row.new (w.alloc (.cells #[.slice A1 a.feats.length c1, .slice A2 a.lets.length c2] 25)) 28 [.slice An ls.length cn]).alloc (.cells #[.slice Am rs.length cm] 28)
    rw [hW0]
    simpa using h
  have hp0 : Row W0 (w.heap.size + 1 + 1) 28 [.slice Am rs.length cm] := by
    have h := Row.new ((w.alloc (.cells #[.slice A1 a.feats.length c1, .slice A2 a.lets.length c2] 25)).alloc (.cells #[.slice An ls.length cn] 28)) 28 [.slice Am rs.length cm]
    rw [hW0]
    simpa using h
  have HIN := Lib.hid (fun (wx : World) (hb : Below w.heap.size w wx) => hin.on hb)
  have HLS := Lib.hid (fun (wx : World) (hb : Below w.heap.size w wx) => (hls.below vNd_good hb (Nat.le_refl _)).wide vNd_good (Nat.le_refl _) hb.size)
  have HRS := Lib.hid (fun (wx : World) (hb : Below w.heap.size w wx) => (hrs.below vNd_good hb (Nat.le_refl _)).wide vNd_good (Nat.le_refl _) hb.size)
  have HC := Lib.hid (fun (wx : World) (hb : Below w.heap.size w wx) => check_any A1 A2 c1 c2 lo a wx (hin.on hb))
  have HPC := Lib.hid (fun (wx : World) (hb : Below w.heap.size w wx) => pcheck_any A1 A2 An c1 c2 cn lo a ls wx (hin.on hb) (HLS.out wx hb) hm)
  have HBR := Lib.hid (fun (wx : World) (hb : Below w.heap.size w wx) => begun_any A1 A2 Am c1 c2 cm lo a rs s wx (hin.on hb) (Utf8Tabs_below hT hb) (HRS.out wx hb) hm2 hs)
  have HBL := Lib.hid (fun (wx : World) (hb : Below w.heap.size w wx) => begun_any A1 A2 An c1 c2 cn lo a ls s wx (hin.on hb) (Utf8Tabs_below hT hb) (HLS.out wx hb) hm hs)
  have HS : Hid (betweenS a ls rs s f t = if patE a ls ≠ 0 then (false, patE a ls) else if begE a rs s ≠ 0 then (false, begE a rs s) else if placeB (matW a s) f && placeB (matW a s) t then
    (decide (0 < (begI ls (matW a s) f.toNat (f.toNat + 1)).length) && decide (0 < (endsI rs (matW a s) 0 t.toNat).length), 0) else (false, 2)) := rfl
  have HBZ := Lib.hid (fun ns => beg_zero (a := a) (ns := ns) (s := s))
  have HPZ : Hid (alE a ≠ 0 → patE a ls = alE a) := fun h => by unfold patE; rw [if_pos h]
  have HLZ : Hid (patE a ls = 0 → begE a rs s = 0 → begE a ls s = 0) := fun h1 h2 => by
    unfold begE
    rw [if_neg (by simp [h1])]
    exact (beg_zero h2).2
  generalize betweenS a ls rs s f t = R at *
  have hc0 := Lib.hid (HC.out W0 hal)
  have HAL := Lib.hid hal
  have HR0 := Lib.hid hr0
  have HQ0 := Lib.hid hq0
  have HP0 := Lib.hid hp0
  obtain ⟨a0, _⟩ := hr0.cel (i := 0) rfl
  obtain ⟨a1, _⟩ := hr0.cel (i := 1) rfl
  have l0 := hr0.lt
  rw [hW0] at hc0
  clear hin hls hrs hT hal hr0 hq0 hp0 HC a0 a1
  go_enter Tryz.func34, Tryz.ntmps34
  go_wp2_with fail
  refine hc0.out.mono ?_
  rw [← hW0]
  rintro e w1 ⟨rfl, hb1⟩
  have hbw1 := HAL.out.trans (hb1.mono HAL.out.size)
  have hr1 := HR0.out.below hb1 HR0.out.lt
  have hq1 := HQ0.out.below hb1 HQ0.out.lt
  have hp1 := HP0.out.below hb1 HP0.out.lt
  have HB1 := Lib.hid hbw1
  have HR1 := Lib.hid hr1
  have HQ1 := Lib.hid hq1
  have HP1 := Lib.hid hp1
  obtain ⟨a0, _⟩ := hr1.cel (i := 0) rfl
  obtain ⟨a1, _⟩ := hr1.cel (i := 1) rfl
  obtain ⟨q0, _⟩ := hq1.cel (i := 0) rfl
  have l1 := hp1.lt
  clear hc0 hb1 hbw1 hr1 hq1 hp1 HAL HR0 HQ0 HP0 hW0
  by_cases hE : alE a = 0
  · rw [hE]
    have HP := Lib.hid (HPC.out w1 HB1.out)
    clear HPC hE
    go_wp2_with fail
    refine HP.out.mono ?_
    rintro e w2 ⟨rfl, hb2⟩
    have hbw2 := HB1.out.trans (hb2.mono HB1.out.size)
    have hr2 := HR1.out.below hb2 HR1.out.lt
    have hq2 := HQ1.out.below hb2 HQ1.out.lt
    have hp2 := HP1.out.below hb2 HP1.out.lt
    have HB2 := Lib.hid hbw2
    have HR2 := Lib.hid hr2
    have HQ2 := Lib.hid hq2
    obtain ⟨b0, _⟩ := hr2.cel (i := 0) rfl
    obtain ⟨b1, _⟩ := hr2.cel (i := 1) rfl
    obtain ⟨p0, _⟩ := hp2.cel (i := 0) rfl
    have l2 := hp2.lt
    clear HP a0 a1 q0 hb2 hbw2 hr2 hq2 hp2 HR1 HQ1 HP1 HB1
    by_cases hP : patE a ls = 0
    · rw [hP]
      have HR3 : Hid (R = if begE a rs s ≠ 0 then (false, begE a rs s) else if placeB (matW a s) f && placeB (matW a s) t then
        (decide (0 < (begI ls (matW a s) f.toNat (f.toNat + 1)).length) && decide (0 < (endsI rs (matW a s) 0 t.toNat).length), 0) else (false, 2)) := by show _ = _; rw [HS.out, if_neg (by simp [hP])]
      have HLZ2 := Lib.hid (HLZ.out hP)
      have HB := Lib.hid (HBR.out w2 HB2.out)
      clear HS HLZ HPZ HBR hP
      go_wp2_with fail
      refine HB.out.mono ?_
      rintro e w3 ⟨hb3, ⟨hne, rfl⟩ | ⟨hz, sp, b, Al, cl, rfl, hbb, hsr⟩⟩
      · have HFIN := Lib.hid (BoOut.mk' (W := w) (w' := w3) (show R = (false, begE a rs s) by rw [HR3.out, if_pos hne]) (HB2.out.trans (hb3.mono HB2.out.size)))
        generalize begE a rs s = E at *
        have hE : (E != 0) = true := by rw [bne_iff_ne]; exact hne
        clear HR3 HB hb3 hne HLZ2
        go_wp2_with fail
        go_ret2
        exact HFIN.out
      · obtain ⟨hrt, hl⟩ := HBZ.out rs hz
        have hlz := HLZ2.out hz
        obtain ⟨hlt, _⟩ := HBZ.out ls hlz
        have hlen := matW_len hl
        have hR : R = if placeB (matW a s) f && placeB (matW a s) t then
          (decide (0 < (begI ls (matW a s) f.toNat (f.toNat + 1)).length) && decide (0 < (endsI rs (matW a s) 0 t.toNat).length), 0) else (false, 2) := by rw [HR3.out, if_neg (by simp [hz])]
        have hbw3 := HB2.out.trans (hb3.mono HB2.out.size)
        have hr3 := HR2.out.below hb3 HR2.out.lt
        have hq3 := HQ2.out.below hb3 HQ2.out.lt
        rw [show matL a (lettersS a s).1 = matW a s from rfl] at hsr
        have HB3 := Lib.hid hbw3
        have HSR := Lib.hid hsr
        have HRT := Lib.hid hrt
        have HLT := Lib.hid hlt
        have hpf := Lib.hid (place_any hsr f)
        have hpt := Lib.hid (place_any hsr t)
        have hbl := HBL.out w3 hbw3
        unfold BegOut at hbl
        rw [show matL a (lettersS a s).1 = matW a s from rfl] at hbl
        have HBL3 := Lib.hid hbl
        have HLZ3 := Lib.hid hlz
        generalize matW a s = L at *
        obtain ⟨d0, _⟩ := hr3.cel (i := 0) rfl
        obtain ⟨d1, _⟩ := hr3.cel (i := 1) rfl
        obtain ⟨d2, _⟩ := hq3.cel (i := 0) rfl
        have l3 := hq3.lt
        have l3' := hr3.lt
        have hsp3 := hsr.row.lt
        have hb3r := hsr.lt
        clear HR3 HB hb3 hz hl hlz HLZ2 hrt hlt hbw3 hr3 hq3 hsr hbl HBZ HBL HIN HLS HRS b0 b1 p0 HQ2 HR2
        cases hF : placeB L f with
        | false =>
          rw [hF] at hpf hR
          have HFIN := Lib.hid (BoOut.mk' (W := w) (w' := w3) (show R = (false, 2) from hR) HB3.out)
          clear hR hF
          go_wp2_with fail
          refine hpf.out.mono ?_
          rintro e w4 ⟨rfl, rfl⟩
          go_wp2_with fail
          go_ret2
          exact HFIN.out
        | true =>
          rw [hF] at hpf hR
          cases hG : placeB L t with
          | false =>
            rw [hG] at hpt hR
            have HFIN := Lib.hid (BoOut.mk' (W := w) (w' := w3) (show R = (false, 2) from hR) HB3.out)
            clear hR hF hG
            go_wp2_with fail
            refine hpf.out.mono ?_
            rintro e w4 ⟨rfl, rfl⟩
            go_wp2_with fail
            refine hpt.out.mono ?_
            rintro e w4' ⟨rfl, rfl⟩
            go_wp2_with fail
            go_ret2
            exact HFIN.out
          | true =>
            rw [hG] at hpt hR
            obtain ⟨i, rfl, hi⟩ := place_nat hF
            obtain ⟨j, rfl, hj⟩ := place_nat hG
            have hR2 : R = (decide (0 < (begI ls L i (i + 1)).length) && decide (0 < (endsI rs L 0 j).length), 0) := hR
            have HR := Lib.hid hR2
            clear hR hF hG hR2
            go_wp2_with fail
            refine hpf.out.mono ?_
            rintro e w4 ⟨rfl, rfl⟩
            go_wp2_with fail
            refine hpt.out.mono ?_
            rintro e w4' ⟨rfl, rfl⟩
            go_wp2_with fail
            refine HBL3.out.mono ?_
            rintro e w5 ⟨hb5, ⟨hne, rfl⟩ | ⟨hz5, spl, bl, Al2, cl2, rfl, hbl5, hsl5⟩⟩
            · exact absurd HLZ3.out hne
            · have hsr5 := HSR.out.below hb5
              have hcb := Lib.hid (begins_any (tree_nodes HLT.out) HLT.out.pos hsl5 (fun g h => h.elim) hi)
              have hbw5 := HB3.out.trans (hb5.mono HB3.out.size)
              have HB5 := Lib.hid hb5
              have HBW5 := Lib.hid hbw5
              have hz3 := HB3.out.size
              clear hpf hpt HBL3 hb5 hz5 hsl5 hsr5 hbw5 d0 d1 d2
              by_cases h0 : 0 < (begI ls L i (i + 1)).length
              · have HR4 : Hid (R = (decide (0 < (endsI rs L 0 j).length), 0)) := by show _ = _; rw [HR.out, decide_eq_true h0, Bool.true_and]
                have h0' : (0 : Int) < ((begI ls L i (i + 1)).length : Int) := by omega
                clear HR
                generalize begI ls L i (i + 1) = B at *
                go_wp2_with fail
                refine hcb.out.mono ?_
                rintro e w6 ⟨A6, c6, rfl, hfill⟩
                have hb6 := fr_below HB5.out hfill.fr hbl5
                have hce := Lib.hid ((HSR.out.below hb6).ends (tree_nodes HRT.out) HRT.out.pos (fun g h => h.elim) hj)
                have hbw6 := HB3.out.trans (hb6.mono HB3.out.size)
                have HBW6 := Lib.hid hbw6
                clear hfill hb6 hcb hbw6
                generalize endsI rs L 0 j = E at *
                go_wp2_with fail
                refine hce.out.mono ?_
                rintro e w7 ⟨A7, c7, rfl, _, _, hfr7⟩
                have hbw7 := fr_below HBW6.out hfr7 (by have := HB2.out.size; omega)
                have HFIN := Lib.hid (BoOut.mk' (W := w) (w' := w7) HR4.out hbw7)
                clear hce hfr7 hbw7 HR4
                go_wp2_with fail
                go_ret2
                exact HFIN.out
              · have HR4 : Hid (R = (false, 0)) := by show _ = _; rw [HR.out, decide_eq_false h0, Bool.false_and]
                have h0' : ¬ (0 : Int) < ((begI ls L i (i + 1)).length : Int) := by omega
                clear HR
                generalize begI ls L i (i + 1) = B at *
                go_wp2_with fail
                refine hcb.out.mono ?_
                rintro e w6 ⟨A6, c6, rfl, hfill⟩
                have hb6 := fr_below HB5.out hfill.fr hbl5
                have HFIN := Lib.hid (BoOut.mk' (W := w) (w' := w6) HR4.out (HB3.out.trans (hb6.mono HB3.out.size)))
                clear hfill hb6 hcb HR4 h0
                go_wp2_with fail
                go_ret2
                exact HFIN.out
    · have HFIN := Lib.hid (BoOut.mk' (W := w) (w' := w2) (show R = (false, patE a ls) by rw [HS.out, if_pos hP]) HB2.out)
      generalize patE a ls = E at *
      have hE : (E != 0) = true := by rw [bne_iff_ne]; exact hP
      clear HS HLZ HPZ hP
      go_wp2_with fail
      go_ret2
      exact HFIN.out
  · have hpe := HPZ.out hE
    have HFIN := Lib.hid (BoOut.mk' (W := w) (w' := w1) (show R = (false, alE a) by rw [HS.out, hpe, if_pos hE]) HB1.out)
    generalize alE a = E at *
    have hne : (E != 0) = true := by rw [bne_iff_ne]; exact hE
    clear HS HLZ HPZ hE hpe
    go_wp2_with fail
    go_ret2
    exact HFIN.out
end Go.Proofs.YtimhlnndobfehaaGreatDoor
