/- read: a pattern's text, read, with its deferred closure. -/
import Derived.Test.YtimhlnndobfehaaDoorPn02
import Derived.Test.YtimhlnndobfehaaDoorPn03
import Derived.Defers
import Derived.Recover
namespace Go.Proofs.YtimhlnndobfehaaDoor
open Go.RowKit
open Go.Lib (Utf8Tabs)
set_option linter.unusedVariables false

theorem pars_all {W0 : World} {A1 A2 : Option Addr} {c1 c2 : Nat} {a : Al} {s : ByteArray} (hin : AlIn W0 0 W0.heap.size A1 A2 a) (hT : Utf8Tabs 0 1 W0) (hs : s.size ≤ 65536) (f : Nat) : OneOk W0 A1 A2 c1 c2 a s f ∧ NodeOk W0 A1 A2 c1 c2 a s f := by
  induction f using Nat.strongRecOn with
  | ind f ih =>
    cases f with
    | zero => exact ⟨fun _ _ _ _ _ _ h => by omega, fun _ _ _ _ _ _ h => by omega⟩
    | succ f => exact ⟨one_ok hin hT hs (class_ok hin hs) fun g hg => (ih g (by omega)).2, node_ok hs (ih f (by omega)).1⟩
set_option maxHeartbeats 4000000 in
set_option maxRecDepth 100000 in
theorem caught (b4 b5 b6 : Nat) (q : Int) (older : List PanicEntry) (w : World) (v4 v5 v6 : Value) (h45 : b4 ≠ b5) (h46 : b4 ≠ b6) (h56 : b5 ≠ b6)
    (y4 : w.cell? ⟨b4, 0, none⟩ = some v4) (z4 : w.frozen? ⟨b4, 0, none⟩ = false) (y5 : w.cell? ⟨b5, 0, none⟩ = some v5) (z5 : w.frozen? ⟨b5, 0, none⟩ = false) (y6 : w.cell? ⟨b6, 0, none⟩ = some v6) (z6 : w.frozen? ⟨b6, 0, none⟩ = false) :
    CallsD Tryd.prog 68 #[.pointer (some ⟨b4, 0, none⟩), .pointer (some ⟨b5, 0, none⟩), .pointer (some ⟨b6, 0, none⟩)] (.panicking ({ v := .iface 117 (.int .i64 q), recovered := false } :: older)) w fun e u' w' =>
      e = .returned (.tuple #[]) ∧ u' = .panicking ({ v := .iface 117 (.int .i64 q), recovered := true } :: older) ∧ w' = ((w.setCell ⟨b4, 0, none⟩ (.slice none 0 0)).setCell ⟨b5, 0, none⟩ (.int .i64 0)).setCell ⟨b6, 0, none⟩ (.int .i64 q) := by
  have hta : ∀ w : World, (Instr.typeAssert (.iface 117 (.int .i64 q)) 20 117 true).run Tryd.prog w = .ok (.tuple #[.int .i64 q, .bool true]) w := fun w => by kernel_rfl
  refine callsD_of_wpS Tryd.func68 rfl fun c₀ cs hu => ?_
  apply wpS_seq
  apply wpS_region
  simp [wpOpsS, go_sem, recoverD, hu, Tryd.ntmps68, Exit.thenS]
  refine wpS_of_wp ?_
  go_wp2_with fail
  simp [bodyPostS, results, Tryd.results68]
set_option maxRecDepth 100000 in
theorem idle (b4 b5 b6 : Nat) (w : World) :
    CallsD Tryd.prog 68 #[.pointer (some ⟨b4, 0, none⟩), .pointer (some ⟨b5, 0, none⟩), .pointer (some ⟨b6, 0, none⟩)] .returning w fun e u' w' => e = .returned (.tuple #[]) ∧ u' = .returning ∧ w' = w := by
  refine callsD_of_wpS Tryd.func68 rfl fun c₀ cs hu => ?_
  apply wpS_seq
  apply wpS_region
  simp [wpOpsS, go_sem, recoverD, hu, Tryd.ntmps68, Exit.thenS]
  refine wpS_of_wp ?_
  go_wp2_with fail
  cases c₀
  simp_all [bodyPostS, results, Tryd.results68]
theorem Nodes.down {w : World} {lo lo' : Nat} {v : Value} {es : List (Nd × Value)} (h : Nodes w lo v es) (hl : lo' ≤ lo) : Nodes w lo' v es :=
  ⟨own_low h.row hl, fun i x u hi => ⟨own_low (h.kid i x u hi).1 hl, (h.kid i x u hi).2⟩, h.far, h.apart⟩
/-- What read answers. -/
def ReadF (r : PR) (w : World) (e : Ending) (w' : World) : Prop := (match r with
  | .bad q => e = .returned (.tuple #[.slice none 0 0, .int .i64 0, .int .i64 (q : Int)])
  | .ok t _ => ∃ v es, e = .returned (.tuple #[v, .int .i64 ((t.size - 1 : Nat) : Int), .int .i64 (-1)]) ∧ Nodes w' w.heap.size v es ∧ es.map Prod.fst = (t.post 0).1) ∧ Below w.heap.size w w'
set_option maxHeartbeats 8000000 in
set_option maxRecDepth 100000 in
theorem pread_any (A1 A2 : Option Addr) (c1 c2 : Nat) (a : Al) (s : ByteArray) (w : World) (hin : AlIn w 0 w.heap.size A1 A2 a) (hT : Utf8Tabs 0 1 w) (hs : s.size ≤ 65536) :
    Calls Tryd.prog 45 #[.agg #[.slice A1 a.feats.length c1, .slice A2 a.lets.length c2], .string s] w (ReadF (readF a s) w) := by
  have hmf : ∀ (fn : Fn) (first cap : Array Value) (w : World), (Instr.makeFunc fn first cap).run Tryd.prog w = .ok (.func fn first cap) w := fun _ _ _ _ => rfl
  obtain ⟨W0, hW0⟩ : ∃ W0, W0 = (((w.alloc (.cells #[.slice A1 a.feats.length c1, .slice A2 a.lets.length c2] 25)).alloc (.cells #[.slice none 0 0] 26)).alloc (.cells #[.int .i64 0] 3)).alloc (.cells #[.int .i64 0] 3) := ⟨_, rfl⟩
  have hsz : W0.heap.size = w.heap.size + 1 + 1 + 1 + 1 := by rw [hW0]; simp
  have hal : Below w.heap.size w W0 := by rw [hW0]; exact ((((Below.refl _ _).alloc (Nat.le_refl _) _).alloc (by simp) _).alloc (by simp; omega) _).alloc (by simp; omega) _
  have hr4 : Row W0 (w.heap.size + 1) 26 [.slice none 0 0] := by
    have h := ((Row.new (w.alloc (.cells #[.slice A1 a.feats.length c1, .slice A2 a.lets.length c2] 25)) 26 [.slice none 0 0]).alloc (.cells #[.int .i64 0] 3)).alloc (.cells #[.int .i64 0] 3)
    rw [hW0]
    simpa using h
  have hr5 : Row W0 (w.heap.size + 1 + 1) 3 [.int .i64 0] := by
    have h := (Row.new ((w.alloc (.cells #[.slice A1 a.feats.length c1, .slice A2 a.lets.length c2] 25)).alloc (.cells #[.slice none 0 0] 26)) 3 [.int .i64 0]).alloc (.cells #[.int .i64 0] 3)
    rw [hW0]
    simpa using h
  have hr6 : Row W0 (w.heap.size + 1 + 1 + 1) 3 [.int .i64 0] := by
    have h := Row.new (((w.alloc (.cells #[.slice A1 a.feats.length c1, .slice A2 a.lets.length c2] 25)).alloc (.cells #[.slice none 0 0] 26)).alloc (.cells #[.int .i64 0] 3)) 3 [.int .i64 0]
    rw [hW0]
    simpa using h
  have hb1 : Below W0.heap.size W0 (W0.alloc (.cells #[.slice A1 a.feats.length c1, .slice A2 a.lets.length c2, .string s, .int .i64 0, .slice none 0 0] 120)) := (Below.refl _ _).alloc (Nat.le_refl _) _
  have hRd : Rd W0 A1 A2 c1 c2 a s 0 (.slice none 0 0) [] (W0.alloc (.cells #[.slice A1 a.feats.length c1, .slice A2 a.lets.length c2, .string s, .int .i64 0, .slice none 0 0] 120)) := ⟨Row.new W0 _ _, Nodes.nil _ _, hb1⟩
  have hcall := Lib.hid ((pars_all (c1 := c1) (c2 := c2) (hin.on hal) (Utf8Tabs_below hT hal) hs (3 * s.size + 3)).2 0 _ _ _ hRd (by omega) (by omega) (by simp))
  have hRF : readF a s = match pars a s (3 * s.size + 3) .node 0 with
    | .ok t i => if i < s.size then .bad i else .ok t i
    | .bad q => .bad q := rfl
  generalize readF a s = R at *
  have hW := pars_went (dec_went a s) (3 * s.size + 3) .node 0
  have HAL := Lib.hid hal
  have HR4 := Lib.hid hr4
  have HR5 := Lib.hid hr5
  have HR6 := Lib.hid hr6
  have HSZ := Lib.hid hsz
  clear hin hT hal hRd hb1 hr4 hr5 hr6
  cases hr : pars a s (3 * s.size + 3) .node 0 with
  | bad q =>
    rw [hr] at hcall hRF
    have HRF := Lib.hid hRF
    clear hr hRF hW
    go_enter_defers Tryd.func45, Tryd.ntmps45
    go_wp2_with fail
    rw [← hW0, ← hsz]
    clear hW0
    refine hcall.out.mono ?_
    rintro e w1 ⟨rfl, hb⟩
    have HB := Lib.hid hb
    have y4 := HR4.out.below hb HR4.out.lt
    have y5 := HR5.out.below hb HR5.out.lt
    have y6 := HR6.out.below hb HR6.out.lt
    have l4 := y4.lt
    have l5 := y5.lt
    have l6 := y6.lt
    obtain ⟨y40, z40⟩ := y4.cel (i := 0) rfl
    obtain ⟨y50, z50⟩ := y5.cel (i := 0) rfl
    obtain ⟨y60, z60⟩ := y6.cel (i := 0) rfl
    have HFIN : Hid (∀ w', w' = ((w1.setCell ⟨w.heap.size + 1, 0, none⟩ (.slice none 0 0)).setCell ⟨w.heap.size + 1 + 1, 0, none⟩ (.int .i64 0)).setCell ⟨w.heap.size + 1 + 1 + 1, 0, none⟩ (.int .i64 (q : Int)) → ReadF R w (.returned (.tuple #[.slice none 0 0, .int .i64 0, .int .i64 (q : Int)])) w') := fun w' hw => by
      rw [HRF.out, hw]
      exact ⟨rfl, (((HAL.out.trans (hb.mono HAL.out.size)).setCell (by show w.heap.size ≤ w.heap.size + 1; omega) _).setCell (by show w.heap.size ≤ w.heap.size + 1 + 1; omega) _).setCell (by show w.heap.size ≤ w.heap.size + 1 + 1 + 1; omega) _⟩
    have Y4 := Lib.hid y4
    have Y5 := Lib.hid y5
    have Y6 := Lib.hid y6
    clear hb hcall y4 y5 y6
    go_wp2_with fail
    refine leaves_cons (f := 68) (args := #[.pointer (some ⟨w.heap.size + 1, 0, none⟩), .pointer (some ⟨w.heap.size + 1 + 1, 0, none⟩), .pointer (some ⟨w.heap.size + 1 + 1 + 1, 0, none⟩)]) (by simp) (by simp [go_sem]) ?_
    refine (caught (w.heap.size + 1) (w.heap.size + 1 + 1) (w.heap.size + 1 + 1 + 1) (q : Int) [] w1 _ _ _ (by omega) (by omega) (by omega) y40 z40 y50 z50 y60 z60).mono ?_
    rintro e u' w9 ⟨rfl, rfl, hw9⟩
    have r4 : Row w9 (w.heap.size + 1) 26 [.slice none 0 0] := by rw [hw9]; exact ((Y4.out.set_ 0 _).far (by show w.heap.size + 1 ≠ w.heap.size + 1 + 1; omega) _).far (by show w.heap.size + 1 ≠ w.heap.size + 1 + 1 + 1; omega) _
    have r5 : Row w9 (w.heap.size + 1 + 1) 3 [.int .i64 0] := by rw [hw9]; exact ((Y5.out.far (by show w.heap.size + 1 + 1 ≠ w.heap.size + 1; omega) _).set_ 0 _).far (by show w.heap.size + 1 + 1 ≠ w.heap.size + 1 + 1 + 1; omega) _
    have r6 : Row w9 (w.heap.size + 1 + 1 + 1) 3 [.int .i64 (q : Int)] := by rw [hw9]; exact ((Y6.out.far (by show w.heap.size + 1 + 1 + 1 ≠ w.heap.size + 1; omega) _).far (by show w.heap.size + 1 + 1 + 1 ≠ w.heap.size + 1 + 1; omega) _).set_ 0 _
    have HF9 := Lib.hid (HFIN.out w9 hw9)
    obtain ⟨p4, _⟩ := r4.cel (i := 0) rfl
    obtain ⟨p5, _⟩ := r5.cel (i := 0) rfl
    obtain ⟨p6, _⟩ := r6.cel (i := 0) rfl
    clear hw9 r4 r5 r6 HFIN
    simp [Leaves, settle, results, Tryd.results45, go_sem, p4, p5, p6]
    exact HF9.out
  | ok t i =>
    rw [hr] at hcall hRF
    obtain ⟨h1, h2, h3, h4⟩ := hW t i hr
    have HRF := Lib.hid hRF
    have hp := h1.pos
    clear hr hRF hW
    go_enter_defers Tryd.func45, Tryd.ntmps45
    go_wp2_with fail
    rw [← hW0, ← hsz]
    clear hW0
    refine hcall.out.mono ?_
    rintro e w1 ⟨rfl, v1, es1, hR1, he1, hst1⟩
    rw [show ([] : List (Nd × Value)).length + t.size - 1 = t.size - 1 by simp]
    simp only [List.nil_append, List.length_nil] at hR1 he1
    obtain ⟨Av, cv, rfl, _, _⟩ := own_form hR1.nodes.row
    have hb := hR1.below
    have y4 := HR4.out.below hb HR4.out.lt
    have y5 := HR5.out.below hb HR5.out.lt
    have y6 := HR6.out.below hb HR6.out.lt
    have l4 := y4.lt
    have l5 := y5.lt
    have l6 := y6.lt
    obtain ⟨y40, z40⟩ := y4.cel (i := 0) rfl
    obtain ⟨y50, z50⟩ := y5.cel (i := 0) rfl
    obtain ⟨y60, z60⟩ := y6.cel (i := 0) rfl
    obtain ⟨x3, _⟩ := hR1.row.cel (i := 3) rfl
    obtain ⟨x4, _⟩ := hR1.row.cel (i := 4) rfl
    have l1 := hR1.lt
    have hne5 : w.heap.size + 1 + 1 ≠ W0.heap.size := by omega
    have hne4 : w.heap.size + 1 ≠ W0.heap.size := by omega
    have hne6 : w.heap.size + 1 + 1 + 1 ≠ W0.heap.size := by omega
    have hb2 : Below w.heap.size w (w1.setCell ⟨w.heap.size + 1 + 1, 0, none⟩ (.int .i64 ((t.size - 1 : Nat) : Int))) := (HAL.out.trans (hb.mono HAL.out.size)).setCell (by show w.heap.size ≤ w.heap.size + 1 + 1; omega) _
    have HB2 := Lib.hid hb2
    have HN1 := Lib.hid hR1.nodes
    have HE1 := Lib.hid he1
    have Y4 := Lib.hid (y4.far (p := ⟨w.heap.size + 1 + 1, 0, none⟩) (by show w.heap.size + 1 ≠ w.heap.size + 1 + 1; omega) (.int .i64 ((t.size - 1 : Nat) : Int)))
    have Y5 := Lib.hid (y5.set_ 0 (.int .i64 ((t.size - 1 : Nat) : Int)))
    have Y6 := Lib.hid (y6.far (p := ⟨w.heap.size + 1 + 1, 0, none⟩) (by show w.heap.size + 1 + 1 + 1 ≠ w.heap.size + 1 + 1; omega) (.int .i64 ((t.size - 1 : Nat) : Int)))
    have lw : w.heap.size + 1 + 1 + 1 < W0.heap.size := by omega
    clear hb hcall y4 y5 y6 hR1 he1 hst1 hb2 hsz
    by_cases hlt : i < s.size
    · have HRB : Hid (R = .bad i) := by show _ = _; rw [HRF.out]; (try simp only); rw [if_pos hlt]
      have j1 : (i : Int) < (s.size : Int) := by omega
      generalize ((t.size - 1 : Nat) : Int) = ts at *
      clear HRF HN1 HE1
      go_wp2_with fail
      obtain ⟨w2, hw2⟩ : ∃ w2, w2 = w1.setCell ⟨w.heap.size + 1 + 1, 0, none⟩ (.int .i64 ts) := ⟨_, rfl⟩
      rw [← hw2] at HB2 Y4 Y5 Y6
      rw [← hw2]
      clear hw2
      refine leaves_cons (f := 68) (args := #[.pointer (some ⟨w.heap.size + 1, 0, none⟩), .pointer (some ⟨w.heap.size + 1 + 1, 0, none⟩), .pointer (some ⟨w.heap.size + 1 + 1 + 1, 0, none⟩)]) (by simp) (by simp [go_sem]) ?_
      refine (caught (w.heap.size + 1) (w.heap.size + 1 + 1) (w.heap.size + 1 + 1 + 1) (i : Int) [] w2 _ _ _ (by omega) (by omega) (by omega) (Y4.out.cel (i := 0) rfl).1 (Y4.out.cel (i := 0) rfl).2 (Y5.out.cel (i := 0) rfl).1 (Y5.out.cel (i := 0) rfl).2 (Y6.out.cel (i := 0) rfl).1 (Y6.out.cel (i := 0) rfl).2).mono ?_
      rintro e u' w9 ⟨rfl, rfl, hw9⟩
      have r4 : Row w9 (w.heap.size + 1) 26 [.slice none 0 0] := by rw [hw9]; exact ((Y4.out.set_ 0 _).far (by show w.heap.size + 1 ≠ w.heap.size + 1 + 1; omega) _).far (by show w.heap.size + 1 ≠ w.heap.size + 1 + 1 + 1; omega) _
      have r5 : Row w9 (w.heap.size + 1 + 1) 3 [.int .i64 0] := by rw [hw9]; exact ((Y5.out.far (by show w.heap.size + 1 + 1 ≠ w.heap.size + 1; omega) _).set_ 0 _).far (by show w.heap.size + 1 + 1 ≠ w.heap.size + 1 + 1 + 1; omega) _
      have r6 : Row w9 (w.heap.size + 1 + 1 + 1) 3 [.int .i64 (i : Int)] := by rw [hw9]; exact ((Y6.out.far (by show w.heap.size + 1 + 1 + 1 ≠ w.heap.size + 1; omega) _).far (by show w.heap.size + 1 + 1 + 1 ≠ w.heap.size + 1 + 1; omega) _).set_ 0 _
      have HF9 : Hid (ReadF R w (.returned (.tuple #[.slice none 0 0, .int .i64 0, .int .i64 (i : Int)])) w9) := by
        show ReadF _ _ _ _
        rw [HRB.out, hw9]
        exact ⟨rfl, ((HB2.out.setCell (by show w.heap.size ≤ w.heap.size + 1; omega) _).setCell (by show w.heap.size ≤ w.heap.size + 1 + 1; omega) _).setCell (by show w.heap.size ≤ w.heap.size + 1 + 1 + 1; omega) _⟩
      obtain ⟨p4, _⟩ := r4.cel (i := 0) rfl
      obtain ⟨p5, _⟩ := r5.cel (i := 0) rfl
      obtain ⟨p6, _⟩ := r6.cel (i := 0) rfl
      clear hw9 r4 r5 r6
      simp [Leaves, settle, results, Tryd.results45, go_sem, p4, p5, p6]
      exact HF9.out
    · have HRB : Hid (R = .ok t i) := by show _ = _; rw [HRF.out]; (try simp only); rw [if_neg hlt]
      have j1 : ¬ (i : Int) < (s.size : Int) := by omega
      generalize hts : ((t.size - 1 : Nat) : Int) = ts at *
      have HTS := Lib.hid hts
      clear HRF hts
      have X4 : Hid ((w1.setCell ⟨w.heap.size + 1 + 1, 0, none⟩ (.int .i64 ts)).cell? ⟨W0.heap.size, 4, none⟩ = some (.slice Av es1.length cv)) := by
        show _ = _
        rw [World.cell?_setCell_other _ _ _ _ (fun e => hne5 (congrArg Addr.block e))]
        exact x4
      have HF2 : Hid (Fr (fun g => g < W0.heap.size) w1 (w1.setCell ⟨w.heap.size + 1 + 1, 0, none⟩ (.int .i64 ts))) := (Fr.refl (fun g => g < W0.heap.size) w1).setc _ _ fun _ => (by show w.heap.size + 1 + 1 < W0.heap.size; omega)
      have l2 : W0.heap.size < (w1.setCell ⟨w.heap.size + 1 + 1, 0, none⟩ (.int .i64 ts)).heap.size := by simpa using l1
      go_wp2_with fail
      obtain ⟨w2, hw2⟩ : ∃ w2, w2 = w1.setCell ⟨w.heap.size + 1 + 1, 0, none⟩ (.int .i64 ts) := ⟨_, rfl⟩
      rw [← hw2] at HB2 Y4 Y5 Y6 X4 HF2 l2
      rw [← hw2]
      clear hw2 y40 y50 y60 z40 z50 z60 x3 x4
      have x4 := X4.out
      obtain ⟨q4, g4⟩ := Y4.out.cel (i := 0) rfl
      obtain ⟨q5, g5⟩ := (show Row w2 (w.heap.size + 1 + 1) 3 [.int .i64 ts] from Y5.out).cel (i := 0) rfl
      obtain ⟨q6, g6⟩ := Y6.out.cel (i := 0) rfl
      have HFX : Hid (∀ w3, w3 = ((w2.drew.setCell ⟨w.heap.size + 1, 0, none⟩ (.slice Av es1.length cv)).setCell ⟨w.heap.size + 1 + 1, 0, none⟩ (.int .i64 ts)).setCell ⟨w.heap.size + 1 + 1 + 1, 0, none⟩ (.int .i64 (-1)) →
          (w3.cell? ⟨w.heap.size + 1, 0, none⟩ = some (.slice Av es1.length cv) ∧ w3.cell? ⟨w.heap.size + 1 + 1, 0, none⟩ = some (.int .i64 ts) ∧ w3.cell? ⟨w.heap.size + 1 + 1 + 1, 0, none⟩ = some (.int .i64 (-1))) ∧ ReadF R w (.returned (.tuple #[.slice Av es1.length cv, .int .i64 ts, .int .i64 (-1)])) w3) := fun w3 hw3 => by
        have d4 : Row w2.drew (w.heap.size + 1) 26 [.slice none 0 0] := Y4.out
        have d5 : Row w2.drew (w.heap.size + 1 + 1) 3 [.int .i64 ts] := Y5.out
        have d6 : Row w2.drew (w.heap.size + 1 + 1 + 1) 3 [.int .i64 0] := Y6.out
        have r4 : Row w3 (w.heap.size + 1) 26 [.slice Av es1.length cv] := by rw [hw3]; exact ((d4.set_ 0 (.slice Av es1.length cv)).far (by show w.heap.size + 1 ≠ w.heap.size + 1 + 1; omega) _).far (by show w.heap.size + 1 ≠ w.heap.size + 1 + 1 + 1; omega) _
        have r5 : Row w3 (w.heap.size + 1 + 1) 3 [.int .i64 ts] := by rw [hw3]; exact ((d5.far (by show w.heap.size + 1 + 1 ≠ w.heap.size + 1; omega) _).set_ 0 (.int .i64 ts)).far (by show w.heap.size + 1 + 1 ≠ w.heap.size + 1 + 1 + 1; omega) _
        have r6 : Row w3 (w.heap.size + 1 + 1 + 1) 3 [.int .i64 (-1)] := by rw [hw3]; exact ((d6.far (by show w.heap.size + 1 + 1 + 1 ≠ w.heap.size + 1; omega) _).far (by show w.heap.size + 1 + 1 + 1 ≠ w.heap.size + 1 + 1; omega) _).set_ 0 (.int .i64 (-1))
        have hF3 : Fr (fun g => g < W0.heap.size) w1 w3 := by
          rw [hw3]
          exact ((((HF2.out.drewN 1).setc ⟨w.heap.size + 1, 0, none⟩ _ fun _ => (by show w.heap.size + 1 < W0.heap.size; omega)).setc ⟨w.heap.size + 1 + 1, 0, none⟩ _ fun _ => (by show w.heap.size + 1 + 1 < W0.heap.size; omega)).setc ⟨w.heap.size + 1 + 1 + 1, 0, none⟩ _ fun _ => (by show w.heap.size + 1 + 1 + 1 < W0.heap.size; omega))
        have hB3 : Below w.heap.size w w3 := by
          rw [hw3]
          exact (((below_drewN HB2.out 1).setCell (by show w.heap.size ≤ w.heap.size + 1; omega) _).setCell (by show w.heap.size ≤ w.heap.size + 1 + 1; omega) _).setCell (by show w.heap.size ≤ w.heap.size + 1 + 1 + 1; omega) _
        have hN3 := HN1.out.fr hF3 fun g hg e => by have := (HN1.out.lt hg).1; have h9 : g < W0.heap.size := e; omega
        refine ⟨⟨(r4.cel (i := 0) rfl).1, (r5.cel (i := 0) rfl).1, (r6.cel (i := 0) rfl).1⟩, ?_⟩
        rw [HRB.out]
        refine ⟨⟨_, es1, by rw [← HTS.out], hN3.down (by omega), HE1.out⟩, hB3⟩
      clear HB2 Y4 Y5 Y6 X4 HF2 HN1 HE1
      go_region
      all_goals
        go_wp2_with fail
        refine leaves_cons (f := 68) (args := #[.pointer (some ⟨w.heap.size + 1, 0, none⟩), .pointer (some ⟨w.heap.size + 1 + 1, 0, none⟩), .pointer (some ⟨w.heap.size + 1 + 1 + 1, 0, none⟩)]) (by simp) (by simp [go_sem]) ?_
        refine (idle (w.heap.size + 1) (w.heap.size + 1 + 1) (w.heap.size + 1 + 1 + 1) _).mono ?_
        rintro e u' w9 ⟨rfl, rfl, hw9⟩
        obtain ⟨⟨p4, p5, p6⟩, hfin⟩ := HFX.out w9 hw9
        have HF9 := Lib.hid hfin
        clear hw9 HFX hfin q4 q5 q6 g4 g5 g6 x4
        simp [Leaves, settle, results, Tryd.results45, go_sem, p4, p5, p6]
        exact HF9.out
end Go.Proofs.YtimhlnndobfehaaDoor
