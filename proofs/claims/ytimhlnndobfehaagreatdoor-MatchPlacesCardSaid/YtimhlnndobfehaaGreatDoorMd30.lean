/- The document's steps, by a node's kind: seq, or. -/
import Derived.Test.YtimhlnndobfehaaGreatDoorMd29
namespace Go.Proofs.YtimhlnndobfehaaGreatDoor
open Go.RowKit
set_option linter.unusedVariables false

section
variable {A1 A2 An AD : Option Addr} {c1 c2 cn cl : Nat} {a : Al} {ns : List Nd} {ls : List Int} {k : Nat}
theorem seq_drop {g : Nat → List Bool → List Bool} {l : List Int} {j : Nat} (hj : j < l.length) (T : List Bool) : (l.drop j).foldl (fun T c => g c.toNat T) T = (l.drop (j + 1)).foldl (fun T c => g c.toNat T) (g l[j].toNat T) := by
  rw [List.drop_eq_getElem_cons hj]
  rfl
theorem or_drop {g : Nat → List Bool → List Bool} {l : List Int} {j : Nat} (hj : j < l.length) (S T : List Bool) : (l.drop j).foldl (fun T c => joinS T (g c.toNat S)) T = (l.drop (j + 1)).foldl (fun T c => joinS T (g c.toNat S)) (joinS T (g l[j].toNat S)) := by
  rw [List.drop_eq_getElem_cons hj]
  rfl
set_option maxHeartbeats 8000000 in
set_option maxRecDepth 100000 in
theorem rsteps_seq (hk : k < ns.length) (kd : ns[k].kind = 6) (H : ∀ c ∈ ns[k].kids, StepOk A1 A2 An AD c1 c2 cn cl a ns ls c.toNat) : StepOk A1 A2 An AD c1 c2 cn cl a ns ls k := by
  intro S gs w n hn hS hE hgs
  have hstf := stF_eq (L := matL a ls) hE.kids (List.getElem?_eq_getElem hk) (S := S) (by rw [matL_len]; omega)
  obtain ⟨b, off, B, cc, eA, _, hb, ⟨y0, f0⟩, ⟨y1, f1⟩, ⟨y2, f2⟩, ⟨y3, f3⟩, ⟨y4, f4⟩, hkl, hkc, hks, h0, h1, h2, h3⟩ := nd_at hE.nodes hk
  generalize hxx : ns[k] = x at *
  obtain ⟨W3, hW3⟩ : ∃ W3, W3 = ((w.alloc (.cells #[.slice A1 a.feats.length c1, .slice A2 a.lets.length c2] 25)).alloc (.cells #[.slice An ns.length cn] 28)).alloc (.cells #[.int .u8 x.kind, .int .i32 x.rune, .int .u32 x.plus, .int .u32 x.minus, .slice B x.kids.length cc] 66) := ⟨_, rfl⟩
  have hal : Below w.heap.size w W3 := by rw [hW3]; exact (((Below.refl _ _).alloc (Nat.le_refl _) _).alloc (by simp) _).alloc (by simp; omega) _
  have hr0 : Row W3 w.heap.size 25 [.slice A1 a.feats.length c1, .slice A2 a.lets.length c2] := by rw [hW3]; exact ((Row.new w _ _).alloc _).alloc _
  have hr1 : Row W3 (w.heap.size + 1) 28 [.slice An ns.length cn] := by
    have h := (Row.new (w.alloc (.cells #[.slice A1 a.feats.length c1, .slice A2 a.lets.length c2] 25)) 28 [.slice An ns.length cn]).alloc (.cells #[.int .u8 x.kind, .int .i32 x.rune, .int .u32 x.plus, .int .u32 x.minus, .slice B x.kids.length cc] 66)
    rw [hW3]
    simpa using h
  have hr2 : Row W3 (w.heap.size + 1 + 1) 66 [.int .u8 x.kind, .int .i32 x.rune, .int .u32 x.plus, .int .u32 x.minus, .slice B x.kids.length cc] := by
    have h := Row.new ((w.alloc (.cells #[.slice A1 a.feats.length c1, .slice A2 a.lets.length c2] 25)).alloc (.cells #[.slice An ns.length cn] 28)) 66 [.int .u8 x.kind, .int .i32 x.rune, .int .u32 x.plus, .int .u32 x.minus, .slice B x.kids.length cc]
    rw [hW3]
    simpa using h
  have hn1 := hE.len
  have hcall := Lib.hid (rnone_any n (by omega) W3)
  have HE := Lib.hid hE
  have HGS := Lib.hid hgs
  have HS := Lib.hid hS
  have HST := Lib.hid hstf
  have HAL := Lib.hid hal
  have HR0 := Lib.hid hr0
  have HR1 := Lib.hid hr1
  have HR2 := Lib.hid hr2
  have HKS := Lib.hid hks
  have hkl2 : k < ns.length := hk
  have j1 : (k : Int) < (ns.length : Int) := by omega
  have j2 : 0 ≤ (k : Int) := by omega
  have hw3 := hal.size
  have hm1 := hE.nmax
  subst eA
  have hn65 : n ≤ 65 := by omega
  have hln : ls.length < n := by omega
  have hln2 : (ls.length : Int) < (n : Int) := by omega
  have HN := Lib.hid hn
  have HKD := Lib.hid kd
  have b1 : (x.kind == 1) = false := beq_eq_false_iff_ne.2 (by omega)
  have b5 : (x.kind == 5) = false := beq_eq_false_iff_ne.2 (by omega)
  have b6 : (x.kind == 6) = true := beq_iff_eq.2 (by omega)
  have hst2 : stF ns (matL a ls) k S = (x.kids.drop 0).foldl (fun T c => stF ns (matL a ls) c.toNat T) S := by rw [hstf]; unfold bodyS; rw [if_neg (by omega), if_neg (by omega), if_pos kd]; rfl
  have HF := Lib.hid hst2
  have HH := Lib.hid H
  have HKR := Lib.hid (fun c hc => hE.kids k x (by rw [← hxx]; exact List.getElem?_eq_getElem hk) c hc)
  clear hst2 H hE hgs hS hstf hal hr0 hr1 hr2 hxx hks kd hn
  go_enter Tryz.func98, Tryz.ntmps98
  go_wp2_with fail
  rw [← hW3]
  clear hW3
  refine hcall.out.mono ?_
  rintro e w1 ⟨g, rfl, hg, hrow, hb1⟩
  have HB1 := Lib.hid hb1
  have HRW := Lib.hid hrow
  have hgl := hrow.lt
  have hgw := hb1.size
  have q0 := (HR0.out.below hb1 HR0.out.lt).lt
  have q1 := (HR1.out.below hb1 HR1.out.lt).lt
  obtain ⟨u0, v0⟩ := (HR2.out.below hb1 HR2.out.lt).cel (i := 0) rfl
  have q2 := (HR2.out.below hb1 HR2.out.lt).lt
  have hgsl := HGS.out.lt
  have hgsl1 : gs < w1.heap.size := by omega
  clear hcall hrow hb1 y0 y1 y2 y3 y4 f0 f1 f2 f3 f4
  obtain ⟨CS, hCS⟩ : ∃ CS, CS = S.map Value.bool := ⟨_, rfl⟩
  have hcl : CS.length = Nat.min n n := by rw [hCS, List.length_map, HS.out]; exact (Nat.min_self n).symm
  have hpos : ∀ j v, CS[j]? = some v → w1.cell? ((⟨gs, 0, none⟩ : Addr).add j) = some v := fun j v hj => by
    rw [hCS] at hj
    exact (Row.news (HGS.out.below (HAL.out.trans (HB1.out.mono HAL.out.size)))) j v hj
  obtain ⟨CU, hCU⟩ : ∃ CU, CU = (noneS n).map Value.bool := ⟨_, rfl⟩
  have hgg : w1.heap[g]? = some (.cells CU.toArray 4 (0, 0)) := by rw [hCU]; exact HRW.out
  have hfit : 0 + CS.length ≤ CU.length := by rw [hCS, hCU, List.length_map, List.length_map, HS.out, none_len]; omega
  have hone : ∀ v ∈ CS, v.oneCell' = true := fun v hv => by
    rw [hCS] at hv
    obtain ⟨x, _, rfl⟩ := List.mem_map.1 hv
    rfl
  have hspl : splice CU 0 CS = S.map Value.bool := by
    unfold splice
    rw [hCS, hCU, List.take_zero, List.nil_append, List.drop_eq_nil_of_le (by rw [List.length_map, List.length_map, none_len, HS.out]; omega), List.append_nil]
  have HSP := Lib.hid hspl
  have HCL := Lib.hid hcl
  have HPOS := Lib.hid hpos
  have HGG := Lib.hid hgg
  have HFIT := Lib.hid hfit
  have HONE := Lib.hid hone
  clear hCS hCU hspl hcl hpos hgg hfit hone
  have hbo : (Tryz.prog.info? 4).map (·.size) = some 1 := by kernel_rfl
  go_wp2_with (refine wpList_copy_splice rfl (.tmp 74) (.tmp 75) 110 110 rfl 4 Tryz.underlying110 hbo (some ⟨g, 0, none⟩) (some ⟨gs, 0, none⟩) n n n n rfl rfl g 0 CU 4 HGG.out CS HCL.out (fun _ => ⟨rfl, _, rfl, HPOS.out⟩) HFIT.out HONE.out W3.heap.size W3 HB1.out hg ?_)
  intro w2 HG2 hB2
  have HR2' : Hid (BRow w2 g S) := by
    have := HG2.out
    rw [HSP.out] at this
    exact this
  have HBW2 := Lib.hid hB2
  have hgl2 := HR2'.out.lt
  have hgw2 := hB2.size
  clear HG2 hB2 HGG HFIT HONE HPOS HCL HSP HRW HB1 u0 v0
  have hboxes := Lib.hid (fun (wx : World) (hx : Below W3.heap.size W3 wx) => And.intro (And.intro ((HR0.out.below hx HR0.out.lt).cel (i := 0) rfl).1 ((HR0.out.below hx HR0.out.lt).cel (i := 1) rfl).1) (And.intro ((HR1.out.below hx HR1.out.lt).cel (i := 0) rfl).1 ((HR2.out.below hx HR2.out.lt).cel (i := 4) rfl).1))
  have hwb2 := HAL.out.size
  clear HST
  generalize stF ns (matL a ls) k S = R at *
  have hst : ∃ (j gT : Nat) (T : List Bool), j ≤ x.kids.length ∧ Value.slice (some ⟨g, 0, none⟩) n n = .slice (some ⟨gT, 0, none⟩) n n ∧ Value.int .i64 0 = .int .i64 (j : Int) ∧ Hid (w.heap.size ≤ gT ∧ T.length = n ∧ BRow w2 gT T ∧ R = (x.kids.drop j).foldl (fun T c => stF ns (matL a ls) c.toNat T) T ∧ Below W3.heap.size W3 w2) :=
    ⟨0, g, S, by omega, rfl, rfl, by omega, HS.out, HR2'.out, HF.out, HBW2.out⟩
  have HST := Lib.hid hst
  have hkm : x.kids.length ≤ 9223372036854775807 := by unfold maxLen at hkc; omega
  clear hst HF
  obtain ⟨z4, _⟩ := (HR2.out.below HBW2.out HR2.out.lt).cel (i := 4) rfl
  have q22 := (HR2.out.below HBW2.out HR2.out.lt).lt
  go_wp2_with fail
  go_loopw [12, 13] (fun v i wr => ∃ (j gT : Nat) (T : List Bool), j ≤ x.kids.length ∧ v = .slice (some ⟨gT, 0, none⟩) n n ∧ i = .int .i64 (j : Int) ∧ Hid (w.heap.size ≤ gT ∧ T.length = n ∧ BRow wr gT T ∧ R = (x.kids.drop j).foldl (fun T c => stF ns (matL a ls) c.toNat T) T ∧ Below W3.heap.size W3 wr)) (fun _ i _ => x.kids.length - (intOf i).toNat)
  case atStart => exact HST.out
  case round =>
    clear HST z4 q22
    obtain ⟨j, gT, T, hj, rfl, rfl, hT⟩ := hrel
    obtain ⟨z4, _⟩ := (HR2.out.below hT.out.2.2.2.2 HR2.out.lt).cel (i := 4) rfl
    have q22 := (HR2.out.below hT.out.2.2.2.2 HR2.out.lt).lt
    by_cases hlt : j < x.kids.length
    · obtain ⟨bk, ok, eB, _, hbk, hck, hkk⟩ := ints_at HKS.out hlt
      have hcm := List.getElem_mem hlt
      have hsd := HH.out _ hcm T gT
      have hrg := HKR.out _ hcm
      have HSQ := Lib.hid (seq_drop (g := stF ns (matL a ls)) hlt T)
      generalize x.kids[j] = c at *
      obtain ⟨ci, rfl⟩ := Int.eq_ofNat_of_zero_le (show 0 ≤ c by omega)
      simp only [Int.toNat_natCast] at hsd HSQ
      have HTL := Lib.hid (stF_len (ns := ns) (k := ci) (S := T) (show T.length = (matL a ls).length + 1 by rw [matL_len, hT.out.2.1]; exact HN.out))
      have HSD := Lib.hid (hsd wr.drew n HN.out hT.out.2.1 (HE.out.on (below_drewN (HAL.out.trans (hT.out.2.2.2.2.mono HAL.out.size)) 1)) hT.out.2.2.1)
      have HKC := Lib.hid (fun (wx : World) (hx : Below W3.heap.size W3 wx) => (Cel.keep (Kp.of_below hx) (Nat.zero_le _) (show bk < W3.heap.size by omega) (Cel.keep (Kp.of_below HAL.out) (Nat.zero_le _) hbk hck)).1)
      have HNX : Hid (∀ (w5 : World) (g5 : Nat), wr.heap.size ≤ g5 → BRow w5 g5 (stF ns (matL a ls) ci T) → Below wr.heap.size wr w5 → Hid (w.heap.size ≤ g5 ∧ (stF ns (matL a ls) ci T).length = n ∧ BRow w5 g5 (stF ns (matL a ls) ci T) ∧ R = (x.kids.drop (j + 1)).foldl (fun T c => stF ns (matL a ls) c.toNat T) (stF ns (matL a ls) ci T) ∧ Below W3.heap.size W3 w5)) := fun w5 g5 h5 h6 h7 => by
        have := hT.out.2.2.2.2.size
        exact ⟨by omega, by rw [HTL.out, matL_len]; exact HN.out.symm, h6, hT.out.2.2.2.1.trans HSQ.out, hT.out.2.2.2.2.trans (h7.mono this)⟩
      have j3 : (j : Int) < (x.kids.length : Int) := by omega
      have j4 : 0 ≤ (j : Int) := by omega
      have hbk2 : bk < wr.heap.size := by have := hT.out.2.2.2.2.size; omega
      have d0 := (hboxes.out wr hT.out.2.2.2.2).1.1
      have d1 := (hboxes.out wr hT.out.2.2.2.2).1.2
      have d2 := (hboxes.out wr hT.out.2.2.2.2).2.1
      have d4 := HKC.out wr hT.out.2.2.2.2
      subst eB
      clear hsd hck hrg
      generalize stF ns (matL a ls) ci T = T2 at *
      obtain ⟨wo, hwo⟩ : ∃ wo : World, wo = wr := ⟨_, rfl⟩
      go_upto_region 18 with (fail)
      go_still_tail 9, (by kernel_rfl)
      change wpList _ _ _ _ _ wr.drew
      go_wp2_with (go_at_call 98; refine HSD.out.mono ?_; rintro e w5 ⟨g5, rfl, h5, h6, h7⟩)
      have HFN := Lib.hid (HNX.out w5 g5 h5 h6 ((below_drewN (Below.refl _ _) 1).trans h7))
      clear h5 h6 h7 HNX HSD HSQ HTL
      go_wp2_with fail
      exact ⟨⟨j + 1, g5, T2, by omega, rfl, by go_num, HFN.out⟩, by simp [intOf]; omega⟩
    · obtain rfl : j = x.kids.length := by omega
      have hRT : R = T := by rw [hT.out.2.2.2.1, List.drop_length]; rfl
      have HRT := Lib.hid hRT
      clear hRT
      go_wp2_with fail
      go_ret
      exact ⟨gT, rfl, hT.out.1, by rw [HRT.out]; exact hT.out.2.2.1, HAL.out.trans (hT.out.2.2.2.2.mono HAL.out.size)⟩
set_option maxHeartbeats 8000000 in
set_option maxRecDepth 100000 in
theorem rsteps_or (hk : k < ns.length) (kd : ns[k].kind = 7) (H : ∀ c ∈ ns[k].kids, StepOk A1 A2 An AD c1 c2 cn cl a ns ls c.toNat) : StepOk A1 A2 An AD c1 c2 cn cl a ns ls k := by
  intro S gs w n hn hS hE hgs
  have hstf := stF_eq (L := matL a ls) hE.kids (List.getElem?_eq_getElem hk) (S := S) (by rw [matL_len]; omega)
  obtain ⟨b, off, B, cc, eA, _, hb, ⟨y0, f0⟩, ⟨y1, f1⟩, ⟨y2, f2⟩, ⟨y3, f3⟩, ⟨y4, f4⟩, hkl, hkc, hks, h0, h1, h2, h3⟩ := nd_at hE.nodes hk
  generalize hxx : ns[k] = x at *
  obtain ⟨W3, hW3⟩ : ∃ W3, W3 = ((w.alloc (.cells #[.slice A1 a.feats.length c1, .slice A2 a.lets.length c2] 25)).alloc (.cells #[.slice An ns.length cn] 28)).alloc (.cells #[.int .u8 x.kind, .int .i32 x.rune, .int .u32 x.plus, .int .u32 x.minus, .slice B x.kids.length cc] 66) := ⟨_, rfl⟩
  have hal : Below w.heap.size w W3 := by rw [hW3]; exact (((Below.refl _ _).alloc (Nat.le_refl _) _).alloc (by simp) _).alloc (by simp; omega) _
  have hr0 : Row W3 w.heap.size 25 [.slice A1 a.feats.length c1, .slice A2 a.lets.length c2] := by rw [hW3]; exact ((Row.new w _ _).alloc _).alloc _
  have hr1 : Row W3 (w.heap.size + 1) 28 [.slice An ns.length cn] := by
    have h := (Row.new (w.alloc (.cells #[.slice A1 a.feats.length c1, .slice A2 a.lets.length c2] 25)) 28 [.slice An ns.length cn]).alloc (.cells #[.int .u8 x.kind, .int .i32 x.rune, .int .u32 x.plus, .int .u32 x.minus, .slice B x.kids.length cc] 66)
    rw [hW3]
    simpa using h
  have hr2 : Row W3 (w.heap.size + 1 + 1) 66 [.int .u8 x.kind, .int .i32 x.rune, .int .u32 x.plus, .int .u32 x.minus, .slice B x.kids.length cc] := by
    have h := Row.new ((w.alloc (.cells #[.slice A1 a.feats.length c1, .slice A2 a.lets.length c2] 25)).alloc (.cells #[.slice An ns.length cn] 28)) 66 [.int .u8 x.kind, .int .i32 x.rune, .int .u32 x.plus, .int .u32 x.minus, .slice B x.kids.length cc]
    rw [hW3]
    simpa using h
  have hn1 := hE.len
  have hcall := Lib.hid (rnone_any n (by omega) W3)
  have HE := Lib.hid hE
  have HGS := Lib.hid hgs
  have HS := Lib.hid hS
  have HST := Lib.hid hstf
  have HAL := Lib.hid hal
  have HR0 := Lib.hid hr0
  have HR1 := Lib.hid hr1
  have HR2 := Lib.hid hr2
  have HKS := Lib.hid hks
  have hkl2 : k < ns.length := hk
  have j1 : (k : Int) < (ns.length : Int) := by omega
  have j2 : 0 ≤ (k : Int) := by omega
  have hw3 := hal.size
  have hm1 := hE.nmax
  subst eA
  have hn65 : n ≤ 65 := by omega
  have hln : ls.length < n := by omega
  have hln2 : (ls.length : Int) < (n : Int) := by omega
  have HN := Lib.hid hn
  have HKD := Lib.hid kd
  have b1 : (x.kind == 1) = false := beq_eq_false_iff_ne.2 (by omega)
  have b5 : (x.kind == 5) = false := beq_eq_false_iff_ne.2 (by omega)
  have b6 : (x.kind == 6) = false := beq_eq_false_iff_ne.2 (by omega)
  have b7 : (x.kind == 7) = true := beq_iff_eq.2 (by omega)
  have hst2 : stF ns (matL a ls) k S = (x.kids.drop 0).foldl (fun T c => joinS T (stF ns (matL a ls) c.toNat S)) (noneS n) := by rw [hstf]; unfold bodyS; rw [if_neg (by omega), if_neg (by omega), if_neg (by omega), if_pos kd, hS]; rfl
  have HF := Lib.hid hst2
  have HH := Lib.hid H
  have HKR := Lib.hid (fun c hc => hE.kids k x (by rw [← hxx]; exact List.getElem?_eq_getElem hk) c hc)
  clear hst2 H hE hgs hS hstf hal hr0 hr1 hr2 hxx hks kd hn
  go_enter Tryz.func98, Tryz.ntmps98
  go_wp2_with fail
  rw [← hW3]
  clear hW3
  refine hcall.out.mono ?_
  rintro e w1 ⟨g, rfl, hg, hrow, hb1⟩
  have HB1 := Lib.hid hb1
  have HRW := Lib.hid hrow
  have hgl := hrow.lt
  have hgw := hb1.size
  have q0 := (HR0.out.below hb1 HR0.out.lt).lt
  have q1 := (HR1.out.below hb1 HR1.out.lt).lt
  obtain ⟨u0, v0⟩ := (HR2.out.below hb1 HR2.out.lt).cel (i := 0) rfl
  have q2 := (HR2.out.below hb1 HR2.out.lt).lt
  have hgsl := HGS.out.lt
  have hgsl1 : gs < w1.heap.size := by omega
  clear hcall hrow hb1 y0 y1 y2 y3 y4 f0 f1 f2 f3 f4
  have hboxes := Lib.hid (fun (wx : World) (hx : Below W3.heap.size W3 wx) => And.intro (And.intro ((HR0.out.below hx HR0.out.lt).cel (i := 0) rfl).1 ((HR0.out.below hx HR0.out.lt).cel (i := 1) rfl).1) (And.intro ((HR1.out.below hx HR1.out.lt).cel (i := 0) rfl).1 ((HR2.out.below hx HR2.out.lt).cel (i := 4) rfl).1))
  have hwb2 := HAL.out.size
  clear HST
  generalize stF ns (matL a ls) k S = R at *
  have hst : ∃ (j gT : Nat) (T : List Bool), j ≤ x.kids.length ∧ Value.slice (some ⟨g, 0, none⟩) n n = .slice (some ⟨gT, 0, none⟩) n n ∧ Value.int .i64 0 = .int .i64 (j : Int) ∧ Hid (w.heap.size ≤ gT ∧ T.length = n ∧ BRow w1 gT T ∧ R = (x.kids.drop j).foldl (fun T c => joinS T (stF ns (matL a ls) c.toNat S)) T ∧ Below W3.heap.size W3 w1) :=
    ⟨0, g, noneS n, by omega, rfl, rfl, by omega, none_len n, HRW.out, HF.out, HB1.out⟩
  have HST := Lib.hid hst
  have hkm : x.kids.length ≤ 9223372036854775807 := by unfold maxLen at hkc; omega
  clear hst HF
  obtain ⟨z4, _⟩ := (HR2.out.below HB1.out HR2.out.lt).cel (i := 4) rfl
  go_wp2_with fail
  go_loopw [12, 14] (fun v i wr => ∃ (j gT : Nat) (T : List Bool), j ≤ x.kids.length ∧ v = .slice (some ⟨gT, 0, none⟩) n n ∧ i = .int .i64 (j : Int) ∧ Hid (w.heap.size ≤ gT ∧ T.length = n ∧ BRow wr gT T ∧ R = (x.kids.drop j).foldl (fun T c => joinS T (stF ns (matL a ls) c.toNat S)) T ∧ Below W3.heap.size W3 wr)) (fun _ i _ => x.kids.length - (intOf i).toNat)
  case atStart => exact HST.out
  case round =>
    clear HST z4 u0 v0 q0 q1 q2 hgl hgw HRW
    obtain ⟨j, gT, T, hj, rfl, rfl, hT⟩ := hrel
    obtain ⟨z4, _⟩ := (HR2.out.below hT.out.2.2.2.2 HR2.out.lt).cel (i := 4) rfl
    have q22 := (HR2.out.below hT.out.2.2.2.2 HR2.out.lt).lt
    by_cases hlt : j < x.kids.length
    · obtain ⟨bk, ok, eB, _, hbk, hck, hkk⟩ := ints_at HKS.out hlt
      have hcm := List.getElem_mem hlt
      have hsd := HH.out _ hcm S gs
      have hrg := HKR.out _ hcm
      have HSQ := Lib.hid (or_drop (g := stF ns (matL a ls)) hlt S T)
      generalize x.kids[j] = c at *
      obtain ⟨ci, rfl⟩ := Int.eq_ofNat_of_zero_le (show 0 ≤ c by omega)
      simp only [Int.toNat_natCast] at hsd HSQ
      have HTL := Lib.hid (stF_len (ns := ns) (k := ci) (S := S) (show S.length = (matL a ls).length + 1 by rw [matL_len, HS.out]; exact HN.out))
      have HSD := Lib.hid (hsd (wr.drewN 1) n HN.out HS.out (HE.out.on (below_drewN (HAL.out.trans (hT.out.2.2.2.2.mono HAL.out.size)) 1)) (HGS.out.below (below_drewN (HAL.out.trans (hT.out.2.2.2.2.mono HAL.out.size)) 1)))
      have HKC := Lib.hid (fun (wx : World) (hx : Below W3.heap.size W3 wx) => (Cel.keep (Kp.of_below hx) (Nat.zero_le _) (show bk < W3.heap.size by omega) (Cel.keep (Kp.of_below HAL.out) (Nat.zero_le _) hbk hck)).1)
      have HJO : Hid (∀ (w5 : World) (g5 : Nat), BRow w5 g5 (stF ns (matL a ls) ci S) → Below (wr.drewN 1).heap.size (wr.drewN 1) w5 → Calls Tryz.prog 127 #[.slice (some ⟨gT, 0, none⟩) n n, .slice (some ⟨g5, 0, none⟩) n n] w5 (SetOut n (joinS T (stF ns (matL a ls) ci S)) w5)) := fun w5 g5 h6 h7 =>
        rjoined_any n gT g5 (by omega) _ _ w5 hT.out.2.1 (by rw [HTL.out, matL_len]; exact HN.out.symm) (hT.out.2.2.1.below ((below_drewN (Below.refl _ _) 1).trans h7)) h6
      have HNX : Hid (∀ (w5 w6 : World) (g6 : Nat), w5.heap.size ≤ g6 → BRow w6 g6 (joinS T (stF ns (matL a ls) ci S)) → Below (wr.drewN 1).heap.size (wr.drewN 1) w5 → Below w5.heap.size w5 w6 → Hid (w.heap.size ≤ g6 ∧ (joinS T (stF ns (matL a ls) ci S)).length = n ∧ BRow w6 g6 (joinS T (stF ns (matL a ls) ci S)) ∧ R = (x.kids.drop (j + 1)).foldl (fun T c => joinS T (stF ns (matL a ls) c.toNat S)) (joinS T (stF ns (matL a ls) ci S)) ∧ Below W3.heap.size W3 w6)) := fun w5 w6 g6 h5 h6 h7 h8 => by
        have h9 := hT.out.2.2.2.2.size
        have h10 : wr.heap.size ≤ w5.heap.size := h7.size
        have h11 : Below wr.heap.size wr w5 := (below_drewN (Below.refl _ _) 1).trans h7
        exact ⟨by omega, by rw [join_len]; exact hT.out.2.1, h6, hT.out.2.2.2.1.trans HSQ.out, hT.out.2.2.2.2.trans ((h11.trans (h8.mono h11.size)).mono h9)⟩
      have HW3 : Hid (∀ w5, Below (wr.drewN 1).heap.size (wr.drewN 1) w5 → Below W3.heap.size W3 w5) := fun w5 h7 => hT.out.2.2.2.2.trans (((below_drewN (Below.refl _ _) 1).trans h7).mono hT.out.2.2.2.2.size)
      have j3 : (j : Int) < (x.kids.length : Int) := by omega
      have j4 : 0 ≤ (j : Int) := by omega
      have hbk2 : bk < wr.heap.size := by have := hT.out.2.2.2.2.size; omega
      have d0 := (hboxes.out wr hT.out.2.2.2.2).1.1
      have d1 := (hboxes.out wr hT.out.2.2.2.2).1.2
      have d2 := (hboxes.out wr hT.out.2.2.2.2).2.1
      have d4 := HKC.out wr hT.out.2.2.2.2
      subst eB
      clear hsd hck hrg
      generalize stF ns (matL a ls) ci S = T2 at *
      generalize joinS T T2 = T3 at *
      go_upto_region 23 with (fail)
      go_region_held3 (fun w' => w'.cell? ⟨w.heap.size, 0, none⟩ = some (.slice A1 a.feats.length c1) ∧ w'.cell? ⟨w.heap.size, 1, none⟩ = some (.slice A2 a.lets.length c2) ∧ w'.cell? ⟨w.heap.size + 1, 0, none⟩ = some (.slice (some ⟨b, off, none⟩) ns.length cn) ∧ w'.cell? ⟨w.heap.size + 1 + 1, 4, none⟩ = some (.slice (some ⟨bk, ok, none⟩) x.kids.length cc) ∧ w'.cell? ⟨bk, ok + j, none⟩ = some (.int .i64 (ci : Int))) (go_keep)
        ((first
          | (go_at_call 98; refine HSD.out.mono ?_; rintro e w5 ⟨g5, rfl, h5, h6, h7⟩; have HJ := Lib.hid (HJO.out w5 g5 h6 h7); have H7 := Lib.hid h7; have HX := Lib.hid (HW3.out w5 h7); have k0 := (hboxes.out w5 HX.out).1.1; have k1 := (hboxes.out w5 HX.out).1.2; have k2 := (hboxes.out w5 HX.out).2.1; have k3 := (hboxes.out w5 HX.out).2.2; have k4 := HKC.out w5 HX.out)
          | (go_at_call 127; refine HJ.out.mono ?_; rintro e w6 ⟨g6, rfl, h8, h9, h10⟩; have HFN := Lib.hid (HNX.out w5 w6 g6 h8 h9 H7.out h10); have HY := Lib.hid (HX.out.trans (h10.mono HX.out.size)); have k5 := (hboxes.out w6 HY.out).1.1; have k6 := (hboxes.out w6 HY.out).1.2; have k7 := (hboxes.out w6 HY.out).2.1; have k8 := (hboxes.out w6 HY.out).2.2; have k9 := HKC.out w6 HY.out)))
      clear HNX HSD HSQ HTL HJ HJO k0 k1 k2 k3 k4 k5 k6 k7 k8 k9
      go_wp2_with fail
      exact ⟨⟨j + 1, g6, T3, by omega, rfl, by go_num, HFN.out⟩, by simp [intOf]; omega⟩
    · obtain rfl : j = x.kids.length := by omega
      have hRT : R = T := by rw [hT.out.2.2.2.1, List.drop_length]; rfl
      have HRT := Lib.hid hRT
      clear hRT
      go_wp2_with fail
      go_ret
      exact ⟨gT, rfl, hT.out.1, by rw [HRT.out]; exact hT.out.2.2.1, HAL.out.trans (hT.out.2.2.2.2.mono HAL.out.size)⟩
end
end Go.Proofs.YtimhlnndobfehaaGreatDoor
