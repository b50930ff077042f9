/- The document's steps, by a node's kind: empty, edge, leaf. -/
import Derived.Test.YtimhlnndobfehaaGreatDoorMd28
import Derived.Laws.CopyOwn
namespace Go.Proofs.YtimhlnndobfehaaGreatDoor
open Go.RowKit
set_option linter.unusedVariables false

section
variable {A1 A2 An AD : Option Addr} {c1 c2 cn cl : Nat} {a : Al} {ns : List Nd} {ls : List Int} {k : Nat}
/-- What the document's search stands on. -/
structure StE (A1 A2 An AD : Option Addr) (a : Al) (ns : List Nd) (ls : List Int) (w : World) : Prop where
  al : AlIn w 0 w.heap.size A1 A2 a
  nodes : Sl 5 vNd w 0 w.heap.size An ns
  lets : Sl 1 (vInt .i32) w 0 w.heap.size AD ls
  ok : alOk a = true
  isl : ∀ x ∈ ls, isLet a x = true
  len : ls.length ≤ 64
  nmax : ns.length ≤ 256
  kids : Kids ns
theorem StE.on {w w' : World} (h : StE A1 A2 An AD a ns ls w) (hb : Below w.heap.size w w') : StE A1 A2 An AD a ns ls w' :=
  ⟨h.al.on hb, (h.nodes.below vNd_good hb (Nat.le_refl _)).wide vNd_good (Nat.le_refl _) hb.size, (h.lets.below (vInt_good _) hb (Nat.le_refl _)).wide (vInt_good _) (Nat.le_refl _) hb.size, h.ok, h.isl, h.len, h.nmax, h.kids⟩
/-- The contract of steps at a node. -/
def StepOk (A1 A2 An AD : Option Addr) (c1 c2 cn cl : Nat) (a : Al) (ns : List Nd) (ls : List Int) (k : Nat) : Prop :=
  ∀ (S : List Bool) (gs : Nat) (w : World) (n : Nat), n = ls.length + 1 → S.length = n → StE A1 A2 An AD a ns ls w → BRow w gs S →
    Calls Tryz.prog 98 #[.agg #[.slice A1 a.feats.length c1, .slice A2 a.lets.length c2], .agg #[.slice An ns.length cn], .int .i64 (k : Int), .slice AD ls.length cl, .slice (some ⟨gs, 0, none⟩) n n] w (SetOut n (stF ns (matL a ls) k S) w)
set_option maxHeartbeats 8000000 in
set_option maxRecDepth 100000 in
theorem rsteps_empty (hk : k < ns.length) (kd : ns[k].kind = 1) : StepOk A1 A2 An AD c1 c2 cn cl a ns ls k := by
  intro S gs w n hn hS hE hgs
  have hstf := stF_eq (L := matL a ls) hE.kids (List.getElem?_eq_getElem hk) (S := S) (by rw [matL_len]; omega)
  obtain ⟨b, off, B, cc, eA, _, hb, ⟨y0, f0⟩, ⟨y1, f1⟩, ⟨y2, f2⟩, ⟨y3, f3⟩, ⟨y4, f4⟩, hkl, hkc, hks, h0, h1, h2, h3⟩ := nd_at hE.nodes hk
  generalize hxx : ns[k] = x at *
  obtain ⟨W3, hW3⟩ : ∃ W3, W3 = ((w.alloc (.cells #[.slice A1 a.feats.length c1, .slice A2 a.lets.length c2] 25)).alloc (.cells #[.slice An ns.length cn] 28)).alloc (.cells #[.int .u8 x.kind, .int .i32 x.rune, .int .u32 x.plus, .int .u32 x.minus, .slice B x.kids.length cc] 66) := ⟨_, rfl⟩
  have hal : Below w.heap.size w W3 := by rw [hW3]; exact (((Below.refl _ _).alloc (Nat.le_refl _) _).alloc (by simp) _).alloc (by simp; omega) _
  have hr0 : Row W3 w.heap.size 25 [.slice A1 a.feats.length c1, .slice A2 a.lets.length c2] := by rw [hW3]; exact ((Row.new w _ _).alloc _).alloc _
  have hr1 : Row W3 (w.heap.size + 1) 28 [.slice An ns.length cn] := by
    have h := (Row.new (w.alloc (.cells #[.slice A1 a.feats.length c1, .slice A2 a.lets.length c2] 25)) 28 [.slice An ns.length cn]).alloc (.cells #[.int .u8 x.kind, .int .i32 x.rune, .int .u32 x.plus, .int .u32 x.minus, .slice B x.kids.length cc] 66)
    rw [hW3]
    simpa using h
  have hr2 : Row W3 (w.heap.size + 1 + 1) 66 [.int .u8 x.kind, .int .i32 x.rune, .int .u32 x.plus, .int .u32 x.minus, .slice B x.kids.length cc] := by
    have h := Row.new ((w.alloc (.cells #[.slice A1 a.feats.length c1, .slice A2 a.lets.length c2] 25)).alloc (.cells #[.slice An ns.length cn] 28)) 66 [.int .u8 x.kind, .int .i32 x.rune, .int .u32 x.plus, .int .u32 x.minus, .slice B x.kids.length cc]
    rw [hW3]
    simpa using h
  have hn1 := hE.len
  have hcall := Lib.hid (rnone_any n (by omega) W3)
  have HE := Lib.hid hE
  have HGS := Lib.hid hgs
  have HS := Lib.hid hS
  have HST := Lib.hid hstf
  have HAL := Lib.hid hal
  have HR0 := Lib.hid hr0
  have HR1 := Lib.hid hr1
  have HR2 := Lib.hid hr2
  have HKS := Lib.hid hks
  have hkl2 : k < ns.length := hk
  have j1 : (k : Int) < (ns.length : Int) := by omega
  have j2 : 0 ≤ (k : Int) := by omega
  have hw3 := hal.size
  have hm1 := hE.nmax
  subst eA
  have hn65 : n ≤ 65 := by omega
  have hln : ls.length < n := by omega
  have hln2 : (ls.length : Int) < (n : Int) := by omega
  have HN := Lib.hid hn
  have HKD := Lib.hid kd
  have b1 : (x.kind == 1) = true := beq_iff_eq.2 (by omega)
  have hst2 : stF ns (matL a ls) k S = S := by rw [hstf]; unfold bodyS; rw [if_pos kd]
  have HF := Lib.hid hst2
  clear hst2 hE hgs hS hstf hal hr0 hr1 hr2 hxx hks kd hn
  go_enter Tryz.func98, Tryz.ntmps98
  go_wp2_with fail
  rw [← hW3]
  clear hW3
  refine hcall.out.mono ?_
  rintro e w1 ⟨g, rfl, hg, hrow, hb1⟩
  have HB1 := Lib.hid hb1
  have HRW := Lib.hid hrow
  have hgl := hrow.lt
  have hgw := hb1.size
  have q0 := (HR0.out.below hb1 HR0.out.lt).lt
  have q1 := (HR1.out.below hb1 HR1.out.lt).lt
  obtain ⟨u0, v0⟩ := (HR2.out.below hb1 HR2.out.lt).cel (i := 0) rfl
  have q2 := (HR2.out.below hb1 HR2.out.lt).lt
  have hgsl := HGS.out.lt
  have hgsl1 : gs < w1.heap.size := by omega
  clear hcall hrow hb1 y0 y1 y2 y3 y4 f0 f1 f2 f3 f4
  obtain ⟨CS, hCS⟩ : ∃ CS, CS = S.map Value.bool := ⟨_, rfl⟩
  have hcl : CS.length = Nat.min n n := by rw [hCS, List.length_map, HS.out]; exact (Nat.min_self n).symm
  have hpos : ∀ j v, CS[j]? = some v → w1.cell? ((⟨gs, 0, none⟩ : Addr).add j) = some v := fun j v hj => by
    rw [hCS] at hj
    exact (Row.news (HGS.out.below (HAL.out.trans (HB1.out.mono HAL.out.size)))) j v hj
  obtain ⟨CU, hCU⟩ : ∃ CU, CU = (noneS n).map Value.bool := ⟨_, rfl⟩
  have hgg : w1.heap[g]? = some (.cells CU.toArray 4 (0, 0)) := by rw [hCU]; exact HRW.out
  have hfit : 0 + CS.length ≤ CU.length := by rw [hCS, hCU, List.length_map, List.length_map, HS.out, none_len]; omega
  have hone : ∀ v ∈ CS, v.oneCell' = true := fun v hv => by
    rw [hCS] at hv
    obtain ⟨x, _, rfl⟩ := List.mem_map.1 hv
    rfl
  have hspl : splice CU 0 CS = S.map Value.bool := by
    unfold splice
    rw [hCS, hCU, List.take_zero, List.nil_append, List.drop_eq_nil_of_le (by rw [List.length_map, List.length_map, none_len, HS.out]; omega), List.append_nil]
  have HSP := Lib.hid hspl
  have HCL := Lib.hid hcl
  have HPOS := Lib.hid hpos
  have HGG := Lib.hid hgg
  have HFIT := Lib.hid hfit
  have HONE := Lib.hid hone
  clear hCS hCU hspl hcl hpos hgg hfit hone
  have hbo : (Tryz.prog.info? 4).map (·.size) = some 1 := by kernel_rfl
  go_wp2_with (refine wpList_copy_splice rfl (.tmp 53) (.tmp 54) 110 110 rfl 4 Tryz.underlying110 hbo (some ⟨g, 0, none⟩) (some ⟨gs, 0, none⟩) n n n n rfl rfl g 0 CU 4 HGG.out CS HCL.out (fun _ => ⟨rfl, _, rfl, HPOS.out⟩) HFIT.out HONE.out W3.heap.size W3 HB1.out hg ?_)
  intro w2 HG2 hB2
  have HR2' : Hid (BRow w2 g S) := by
    have := HG2.out
    rw [HSP.out] at this
    exact this
  have HBW2 := Lib.hid hB2
  have hgl2 := HR2'.out.lt
  have hgw2 := hB2.size
  clear HG2 hB2 HGG HFIT HONE HPOS HCL HSP HRW HB1 u0 v0
  go_wp2_with fail
  go_ret
  exact ⟨g, rfl, by omega, by rw [HF.out]; exact HR2'.out, HAL.out.trans (HBW2.out.mono HAL.out.size)⟩
/-- Only the first and the last may stay. -/
theorem edge_at (S : List Bool) (i : Nat) (h : i < (edgeS S).length) : (edgeS S)[i] = (S.getD i false && (i == 0 || i + 1 == S.length)) := by simp [edgeS]
theorem edge_set {S : List Bool} {m : Nat} (h : S.length = m + 1) : ((noneS (m + 1)).set 0 (S.getD 0 false)).set m (S.getD m false) = edgeS S := by
  refine List.ext_getElem (by simp [edgeS, none_len, h]) fun i h1 h2 => ?_
  rw [edge_at, List.getElem_set]
  by_cases e1 : m = i
  · subst e1
    simp [h]
  · rw [if_neg e1, List.getElem_set]
    by_cases e2 : 0 = i
    · subst e2
      simp
    · rw [if_neg e2]
      have e3 : (i == 0) = false := by simp; omega
      have e4 : (i + 1 == S.length) = false := by simp; omega
      rw [e3, e4]
      simp [noneS]
set_option maxHeartbeats 8000000 in
set_option maxRecDepth 100000 in
theorem rsteps_edge (hk : k < ns.length) (kd : ns[k].kind = 5) : StepOk A1 A2 An AD c1 c2 cn cl a ns ls k := by
  intro S gs w n hn hS hE hgs
  have hstf := stF_eq (L := matL a ls) hE.kids (List.getElem?_eq_getElem hk) (S := S) (by rw [matL_len]; omega)
  obtain ⟨b, off, B, cc, eA, _, hb, ⟨y0, f0⟩, ⟨y1, f1⟩, ⟨y2, f2⟩, ⟨y3, f3⟩, ⟨y4, f4⟩, hkl, hkc, hks, h0, h1, h2, h3⟩ := nd_at hE.nodes hk
  generalize hxx : ns[k] = x at *
  obtain ⟨W3, hW3⟩ : ∃ W3, W3 = ((w.alloc (.cells #[.slice A1 a.feats.length c1, .slice A2 a.lets.length c2] 25)).alloc (.cells #[.slice An ns.length cn] 28)).alloc (.cells #[.int .u8 x.kind, .int .i32 x.rune, .int .u32 x.plus, .int .u32 x.minus, .slice B x.kids.length cc] 66) := ⟨_, rfl⟩
  have hal : Below w.heap.size w W3 := by rw [hW3]; exact (((Below.refl _ _).alloc (Nat.le_refl _) _).alloc (by simp) _).alloc (by simp; omega) _
  have hr0 : Row W3 w.heap.size 25 [.slice A1 a.feats.length c1, .slice A2 a.lets.length c2] := by rw [hW3]; exact ((Row.new w _ _).alloc _).alloc _
  have hr1 : Row W3 (w.heap.size + 1) 28 [.slice An ns.length cn] := by
    have h := (Row.new (w.alloc (.cells #[.slice A1 a.feats.length c1, .slice A2 a.lets.length c2] 25)) 28 [.slice An ns.length cn]).alloc (.cells #[.int .u8 x.kind, .int .i32 x.rune, .int .u32 x.plus, .int .u32 x.minus, .slice B x.kids.length cc] 66)
    rw [hW3]
    simpa using h
  have hr2 : Row W3 (w.heap.size + 1 + 1) 66 [.int .u8 x.kind, .int .i32 x.rune, .int .u32 x.plus, .int .u32 x.minus, .slice B x.kids.length cc] := by
    have h := Row.new ((w.alloc (.cells #[.slice A1 a.feats.length c1, .slice A2 a.lets.length c2] 25)).alloc (.cells #[.slice An ns.length cn] 28)) 66 [.int .u8 x.kind, .int .i32 x.rune, .int .u32 x.plus, .int .u32 x.minus, .slice B x.kids.length cc]
    rw [hW3]
    simpa using h
  have hn1 := hE.len
  have hcall := Lib.hid (rnone_any n (by omega) W3)
  have HE := Lib.hid hE
  have HGS := Lib.hid hgs
  have HS := Lib.hid hS
  have HST := Lib.hid hstf
  have HAL := Lib.hid hal
  have HR0 := Lib.hid hr0
  have HR1 := Lib.hid hr1
  have HR2 := Lib.hid hr2
  have HKS := Lib.hid hks
  have hkl2 : k < ns.length := hk
  have j1 : (k : Int) < (ns.length : Int) := by omega
  have j2 : 0 ≤ (k : Int) := by omega
  have hw3 := hal.size
  have hm1 := hE.nmax
  subst eA
  have hn65 : n ≤ 65 := by omega
  have hln : ls.length < n := by omega
  have hln2 : (ls.length : Int) < (n : Int) := by omega
  have HN := Lib.hid hn
  have HKD := Lib.hid kd
  have b1 : (x.kind == 1) = false := beq_eq_false_iff_ne.2 (by omega)
  have b5 : (x.kind == 5) = true := beq_iff_eq.2 (by omega)
  have hst2 : stF ns (matL a ls) k S = ((noneS n).set 0 (S.getD 0 false)).set ls.length (S.getD ls.length false) := by rw [hstf]; unfold bodyS; rw [if_neg (by omega), if_pos kd, hn, edge_set (by omega)]
  have HF := Lib.hid hst2
  clear hst2 hE hgs hS hstf hal hr0 hr1 hr2 hxx hks kd hn
  go_enter Tryz.func98, Tryz.ntmps98
  go_wp2_with fail
  rw [← hW3]
  clear hW3
  refine hcall.out.mono ?_
  rintro e w1 ⟨g, rfl, hg, hrow, hb1⟩
  have HB1 := Lib.hid hb1
  have HRW := Lib.hid hrow
  have hgl := hrow.lt
  have hgw := hb1.size
  have q0 := (HR0.out.below hb1 HR0.out.lt).lt
  have q1 := (HR1.out.below hb1 HR1.out.lt).lt
  obtain ⟨u0, v0⟩ := (HR2.out.below hb1 HR2.out.lt).cel (i := 0) rfl
  have q2 := (HR2.out.below hb1 HR2.out.lt).lt
  have hgsl := HGS.out.lt
  have hgsl1 : gs < w1.heap.size := by omega
  clear hcall hrow hb1 y0 y1 y2 y3 y4 f0 f1 f2 f3 f4
  obtain ⟨s0, _⟩ := (HGS.out.below (HAL.out.trans (HB1.out.mono HAL.out.size))).cel (i := 0) (by rw [HS.out]; omega)
  obtain ⟨s1, _⟩ := (HGS.out.below (HAL.out.trans (HB1.out.mono HAL.out.size))).cel (i := ls.length) (by rw [HS.out]; omega)
  obtain ⟨_, o0⟩ := HRW.out.cel (i := 0) (by rw [none_len]; omega)
  obtain ⟨_, o1⟩ := HRW.out.cel (i := ls.length) (by rw [none_len]; omega)
  have HFR : Hid (BRow ((w1.setCell ⟨g, 0, none⟩ (.bool (S.getD 0 false))).setCell ⟨g, ls.length, none⟩ (.bool (S.getD ls.length false))) g (stF ns (matL a ls) k S)) := by
    show BRow _ _ _
    rw [HF.out]
    exact (HRW.out.set_ 0 _).set_ ls.length _
  have HFB : Hid (Below w.heap.size w ((w1.setCell ⟨g, 0, none⟩ (.bool (S.getD 0 false))).setCell ⟨g, ls.length, none⟩ (.bool (S.getD ls.length false)))) := ((HAL.out.trans (HB1.out.mono HAL.out.size)).setCell (by show w.heap.size ≤ g; omega) _).setCell (by show w.heap.size ≤ g; omega) _
  have hne : g ≠ gs := by omega
  generalize stF ns (matL a ls) k S = R at *
  generalize S.getD 0 false = z0 at *
  generalize S.getD ls.length false = z1 at *
  clear HF HN
  have hls := HE.out.len
  clear HE HST
  generalize ls.length = m at *
  by_cases hz : m = 0
  · subst hz
    have e01 : z0 = z1 := by have := s0.symm.trans s1; simpa using this
    subst e01
    go_wp2_with fail
    go_ret
    exact ⟨g, rfl, by omega, HFR.out, HFB.out⟩
  · have hz2 : ¬ 0 = m := by omega
    go_wp2_with fail
    go_ret
    exact ⟨g, rfl, by omega, HFR.out, HFB.out⟩
end
end Go.Proofs.YtimhlnndobfehaaGreatDoor
