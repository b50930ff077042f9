/- The document's steps, by a node's kind: opt, star. -/
import Derived.Test.YtimhlnndobfehaaGreatDoorMd30
namespace Go.Proofs.YtimhlnndobfehaaGreatDoor
open Go.RowKit
set_option linter.unusedVariables false

section
variable {A1 A2 An AD : Option Addr} {c1 c2 cn cl : Nat} {a : Al} {ns : List Nd} {ls : List Int} {k : Nat}
set_option maxHeartbeats 8000000 in
set_option maxRecDepth 100000 in
theorem rsteps_opt (hk : k < ns.length) (kd : ns[k].kind = 9) (har : ns[k].kids.length = 1) (H : ∀ c ∈ ns[k].kids, StepOk A1 A2 An AD c1 c2 cn cl a ns ls c.toNat) : StepOk A1 A2 An AD c1 c2 cn cl a ns ls k := by
  intro S gs w n hn hS hE hgs
  have hstf := stF_eq (L := matL a ls) hE.kids (List.getElem?_eq_getElem hk) (S := S) (by rw [matL_len]; omega)
  obtain ⟨b, off, B, cc, eA, _, hb, ⟨y0, f0⟩, ⟨y1, f1⟩, ⟨y2, f2⟩, ⟨y3, f3⟩, ⟨y4, f4⟩, hkl, hkc, hks, h0, h1, h2, h3⟩ := nd_at hE.nodes hk
  generalize hxx : ns[k] = x at *
  obtain ⟨W3, hW3⟩ : ∃ W3, W3 = ((w.alloc (.cells #[.slice A1 a.feats.length c1, .slice A2 a.lets.length c2] 25)).alloc (.cells #[.slice An ns.length cn] 28)).alloc (.cells #[.int .u8 x.kind, .int .i32 x.rune, .int .u32 x.plus, .int .u32 x.minus, .slice B x.kids.length cc] 66) := ⟨_, rfl⟩
  have hal : Below w.heap.size w W3 := by rw [hW3]; exact (((Below.refl _ _).alloc (Nat.le_refl _) _).alloc (by simp) _).alloc (by simp; omega) _
  have hr0 : Row W3 w.heap.size 25 [.slice A1 a.feats.length c1, .slice A2 a.lets.length c2] := by rw [hW3]; exact ((Row.new w _ _).alloc _).alloc _
  have hr1 : Row W3 (w.heap.size + 1) 28 [.slice An ns.length cn] := by
    have h := (Row.new (w.alloc (.cells #[.slice A1 a.feats.length c1, .slice A2 a.lets.length c2] 25)) 28 [.slice An ns.length cn]).alloc (.cells #[.int .u8 x.kind, .int .i32 x.rune, .int .u32 x.plus, .int .u32 x.minus, .slice B x.kids.length cc] 66)
    rw [hW3]
    simpa using h
  have hr2 : Row W3 (w.heap.size + 1 + 1) 66 [.int .u8 x.kind, .int .i32 x.rune, .int .u32 x.plus, .int .u32 x.minus, .slice B x.kids.length cc] := by
    have h := Row.new ((w.alloc (.cells #[.slice A1 a.feats.length c1, .slice A2 a.lets.length c2] 25)).alloc (.cells #[.slice An ns.length cn] 28)) 66 [.int .u8 x.kind, .int .i32 x.rune, .int .u32 x.plus, .int .u32 x.minus, .slice B x.kids.length cc]
    rw [hW3]
    simpa using h
  have hn1 := hE.len
  have hcall := Lib.hid (rnone_any n (by omega) W3)
  have HE := Lib.hid hE
  have HGS := Lib.hid hgs
  have HS := Lib.hid hS
  have HST := Lib.hid hstf
  have HAL := Lib.hid hal
  have HR0 := Lib.hid hr0
  have HR1 := Lib.hid hr1
  have HR2 := Lib.hid hr2
  have HKS := Lib.hid hks
  have hkl2 : k < ns.length := hk
  have j1 : (k : Int) < (ns.length : Int) := by omega
  have j2 : 0 ≤ (k : Int) := by omega
  have hw3 := hal.size
  have hm1 := hE.nmax
  subst eA
  have hn65 : n ≤ 65 := by omega
  have hln : ls.length < n := by omega
  have hln2 : (ls.length : Int) < (n : Int) := by omega
  have HN := Lib.hid hn
  have HKD := Lib.hid kd
  have b1 : (x.kind == 1) = false := beq_eq_false_iff_ne.2 (by omega)
  have b5 : (x.kind == 5) = false := beq_eq_false_iff_ne.2 (by omega)
  have b6 : (x.kind == 6) = false := beq_eq_false_iff_ne.2 (by omega)
  have b7 : (x.kind == 7) = false := beq_eq_false_iff_ne.2 (by omega)
  have b9 : (x.kind == 9) = true := beq_iff_eq.2 (by omega)
  have hst2 : stF ns (matL a ls) k S = joinS S (match x.kids with | c :: _ => stF ns (matL a ls) c.toNat S | [] => noneS S.length) := by rw [hstf]; unfold bodyS; rw [if_neg (by omega), if_neg (by omega), if_neg (by omega), if_neg (by omega), if_pos kd]; cases x.kids <;> rfl
  have HF := Lib.hid hst2
  have HH := Lib.hid H
  have HKL := Lib.hid har
  have HKR := Lib.hid (fun c hc => hE.kids k x (by rw [← hxx]; exact List.getElem?_eq_getElem hk) c hc)
  clear hst2 H har hE hgs hS hstf hal hr0 hr1 hr2 hxx hks kd hn
  go_enter Tryz.func98, Tryz.ntmps98
  go_wp2_with fail
  rw [← hW3]
  clear hW3
  refine hcall.out.mono ?_
  rintro e w1 ⟨g, rfl, hg, hrow, hb1⟩
  have HB1 := Lib.hid hb1
  have HRW := Lib.hid hrow
  have hgl := hrow.lt
  have hgw := hb1.size
  have q0 := (HR0.out.below hb1 HR0.out.lt).lt
  have q1 := (HR1.out.below hb1 HR1.out.lt).lt
  obtain ⟨u0, v0⟩ := (HR2.out.below hb1 HR2.out.lt).cel (i := 0) rfl
  have q2 := (HR2.out.below hb1 HR2.out.lt).lt
  have hgsl := HGS.out.lt
  have hgsl1 : gs < w1.heap.size := by omega
  clear hcall hrow hb1 y0 y1 y2 y3 y4 f0 f1 f2 f3 f4
  have har := HKL.out
  obtain ⟨bk, ok, eB, _, hbk, hck, hkk⟩ := ints_at HKS.out (i := 0) (by omega)
  have hcm := List.getElem_mem (l := x.kids) (n := 0) (by omega)
  have HSD0 := Lib.hid (HH.out _ hcm)
  have hrg := HKR.out _ hcm
  have hkx : ∃ r, x.kids = x.kids[0] :: r := ⟨x.kids.drop 1, by rw [← List.drop_eq_getElem_cons (by omega)]; rfl⟩
  rw [Nat.add_zero] at hck
  generalize x.kids[0] = c at *
  obtain ⟨ci, rfl⟩ := Int.eq_ofNat_of_zero_le (show 0 ≤ c by omega)
  obtain ⟨kr, hkr⟩ := hkx
  rw [hkr] at HF
  simp only [Int.toNat_natCast] at HSD0 HF
  have HCK := Lib.hid hck
  have hk0 : 0 < x.kids.length := by omega
  clear hck hrg hkr har hcm
  have hboxes := Lib.hid (fun (wx : World) (hx : Below W3.heap.size W3 wx) => And.intro (And.intro ((HR0.out.below hx HR0.out.lt).cel (i := 0) rfl).1 ((HR0.out.below hx HR0.out.lt).cel (i := 1) rfl).1) (And.intro ((HR1.out.below hx HR1.out.lt).cel (i := 0) rfl).1 ((HR2.out.below hx HR2.out.lt).cel (i := 4) rfl).1))
  have hwb2 := HAL.out.size
  have HTL := Lib.hid (stF_len (ns := ns) (k := ci) (S := S) (show S.length = (matL a ls).length + 1 by rw [matL_len, HS.out]; exact HN.out))
  have HKC := Lib.hid (fun (wx : World) (hx : Below W3.heap.size W3 wx) => (Cel.keep (Kp.of_below hx) (Nat.zero_le _) (show bk < W3.heap.size by omega) (Cel.keep (Kp.of_below HAL.out) (Nat.zero_le _) hbk HCK.out)).1)
  have HSD := Lib.hid (HSD0.out S gs (w1.drewN 1) n HN.out HS.out (HE.out.on (below_drewN (HAL.out.trans (HB1.out.mono HAL.out.size)) 1)) (HGS.out.below (below_drewN (HAL.out.trans (HB1.out.mono HAL.out.size)) 1)))
  have HJO : Hid (∀ (w5 : World) (g5 : Nat), BRow w5 g5 (stF ns (matL a ls) ci S) → Below (w1.drewN 1).heap.size (w1.drewN 1) w5 → Calls Tryz.prog 127 #[.slice (some ⟨gs, 0, none⟩) n n, .slice (some ⟨g5, 0, none⟩) n n] w5 (SetOut n (joinS S (stF ns (matL a ls) ci S)) w5)) := fun w5 g5 h6 h7 =>
    rjoined_any n gs g5 (by omega) _ _ w5 HS.out (by rw [HTL.out, matL_len]; exact HN.out.symm) ((HGS.out.below (HAL.out.trans (HB1.out.mono HAL.out.size))).below ((below_drewN (Below.refl _ _) 1).trans h7)) h6
  have HW3 : Hid (∀ w5, Below (w1.drewN 1).heap.size (w1.drewN 1) w5 → Below W3.heap.size W3 w5) := fun w5 h7 => HB1.out.trans (((below_drewN (Below.refl _ _) 1).trans h7).mono HB1.out.size)
  have d0 := (hboxes.out w1 HB1.out).1.1
  have d1 := (hboxes.out w1 HB1.out).1.2
  have d2 := (hboxes.out w1 HB1.out).2.1
  have d3 := (hboxes.out w1 HB1.out).2.2
  have d4 := HKC.out w1 HB1.out
  have hbk2 : bk < w1.heap.size := by omega
  subst eB
  clear HST
  generalize stF ns (matL a ls) k S = R at *
  generalize stF ns (matL a ls) ci S = T2 at *
  generalize joinS S T2 = T3 at *
  go_upto_region 25 with (fail)
  go_region_held3 (fun w' => w'.cell? ⟨w.heap.size, 0, none⟩ = some (.slice A1 a.feats.length c1) ∧ w'.cell? ⟨w.heap.size, 1, none⟩ = some (.slice A2 a.lets.length c2) ∧ w'.cell? ⟨w.heap.size + 1, 0, none⟩ = some (.slice (some ⟨b, off, none⟩) ns.length cn) ∧ w'.cell? ⟨w.heap.size + 1 + 1, 4, none⟩ = some (.slice (some ⟨bk, ok, none⟩) x.kids.length cc) ∧ w'.cell? ⟨bk, ok, none⟩ = some (.int .i64 (ci : Int))) (go_keep)
    ((first
      | (go_at_call 98; refine HSD.out.mono ?_; rintro e w5 ⟨g5, rfl, h5, h6, h7⟩; have HJ := Lib.hid (HJO.out w5 g5 h6 h7); have HX := Lib.hid (HW3.out w5 h7); have k0 := (hboxes.out w5 HX.out).1.1; have k1 := (hboxes.out w5 HX.out).1.2; have k2 := (hboxes.out w5 HX.out).2.1; have k3 := (hboxes.out w5 HX.out).2.2; have k4 := HKC.out w5 HX.out)
      | (go_at_call 127; refine HJ.out.mono ?_; rintro e w6 ⟨g6, rfl, h8, h9, h10⟩; have HY := Lib.hid (HX.out.trans (h10.mono HX.out.size)); have k5 := (hboxes.out w6 HY.out).1.1; have k6 := (hboxes.out w6 HY.out).1.2; have k7 := (hboxes.out w6 HY.out).2.1; have k8 := (hboxes.out w6 HY.out).2.2; have k9 := HKC.out w6 HY.out)))
  have HFN : Hid (SetOut n R w (.returned (.slice (some ⟨g6, 0, none⟩) n n)) w6) := ⟨g6, rfl, by have := HX.out.size; omega, by rw [HF.out]; exact h9, HAL.out.trans (HY.out.mono HAL.out.size)⟩
  clear h5 h6 h7 h8 h9 h10 HSD HTL HJ HJO k0 k1 k2 k3 k4 k5 k6 k7 k8 k9 d0 d1 d2 d3 d4 HF HH HW3 hboxes HRW
  go_wp2_with fail
  go_ret
  exact HFN.out
/-- How many places are in the set that a value holds. -/
def cntAt (w : World) (v : Value) : Nat :=
  match v with
  | .slice (some ad) _ _ => (match w.heap[ad.block]? with | some (.cells cs _ _) => cs.toList.countP (fun u => match u with | .bool b => b | _ => false) | _ => 0)
  | _ => 0
theorem cntAt_row {w : World} {g n m : Nat} {S : List Bool} (h : BRow w g S) : cntAt w (.slice (some ⟨g, 0, none⟩) n m) = cntS S := by
  unfold cntAt BRow Row at *
  simp only [h]
  unfold cntS
  rw [List.countP_map]
  rfl
set_option maxHeartbeats 8000000 in
set_option maxRecDepth 100000 in
theorem rsteps_star (hk : k < ns.length) (kd : ns[k].kind = 8) (har : ns[k].kids.length = 1) (H : ∀ c ∈ ns[k].kids, StepOk A1 A2 An AD c1 c2 cn cl a ns ls c.toNat) : StepOk A1 A2 An AD c1 c2 cn cl a ns ls k := by
  intro S gs w n hn hS hE hgs
  have hstf := stF_eq (L := matL a ls) hE.kids (List.getElem?_eq_getElem hk) (S := S) (by rw [matL_len]; omega)
  obtain ⟨b, off, B, cc, eA, _, hb, ⟨y0, f0⟩, ⟨y1, f1⟩, ⟨y2, f2⟩, ⟨y3, f3⟩, ⟨y4, f4⟩, hkl, hkc, hks, h0, h1, h2, h3⟩ := nd_at hE.nodes hk
  generalize hxx : ns[k] = x at *
  obtain ⟨W3, hW3⟩ : ∃ W3, W3 = ((w.alloc (.cells #[.slice A1 a.feats.length c1, .slice A2 a.lets.length c2] 25)).alloc (.cells #[.slice An ns.length cn] 28)).alloc (.cells #[.int .u8 x.kind, .int .i32 x.rune, .int .u32 x.plus, .int .u32 x.minus, .slice B x.kids.length cc] 66) := ⟨_, rfl⟩
  have hal : Below w.heap.size w W3 := by rw [hW3]; exact (((Below.refl _ _).alloc (Nat.le_refl _) _).alloc (by simp) _).alloc (by simp; omega) _
  have hr0 : Row W3 w.heap.size 25 [.slice A1 a.feats.length c1, .slice A2 a.lets.length c2] := by rw [hW3]; exact ((Row.new w _ _).alloc _).alloc _
  have hr1 : Row W3 (w.heap.size + 1) 28 [.slice An ns.length cn] := by
    have h := (Row.new (w.alloc (.cells #[.slice A1 a.feats.length c1, .slice A2 a.lets.length c2] 25)) 28 [.slice An ns.length cn]).alloc (.cells #[.int .u8 x.kind, .int .i32 x.rune, .int .u32 x.plus, .int .u32 x.minus, .slice B x.kids.length cc] 66)
    rw [hW3]
    simpa using h
  have hr2 : Row W3 (w.heap.size + 1 + 1) 66 [.int .u8 x.kind, .int .i32 x.rune, .int .u32 x.plus, .int .u32 x.minus, .slice B x.kids.length cc] := by
    have h := Row.new ((w.alloc (.cells #[.slice A1 a.feats.length c1, .slice A2 a.lets.length c2] 25)).alloc (.cells #[.slice An ns.length cn] 28)) 66 [.int .u8 x.kind, .int .i32 x.rune, .int .u32 x.plus, .int .u32 x.minus, .slice B x.kids.length cc]
    rw [hW3]
    simpa using h
  have hn1 := hE.len
  have hcall := Lib.hid (rnone_any n (by omega) W3)
  have HE := Lib.hid hE
  have HGS := Lib.hid hgs
  have HS := Lib.hid hS
  have HST := Lib.hid hstf
  have HAL := Lib.hid hal
  have HR0 := Lib.hid hr0
  have HR1 := Lib.hid hr1
  have HR2 := Lib.hid hr2
  have HKS := Lib.hid hks
  have hkl2 : k < ns.length := hk
  have j1 : (k : Int) < (ns.length : Int) := by omega
  have j2 : 0 ≤ (k : Int) := by omega
  have hw3 := hal.size
  have hm1 := hE.nmax
  subst eA
  have hn65 : n ≤ 65 := by omega
  have hln : ls.length < n := by omega
  have hln2 : (ls.length : Int) < (n : Int) := by omega
  have HN := Lib.hid hn
  have HKD := Lib.hid kd
  have b1 : (x.kind == 1) = false := beq_eq_false_iff_ne.2 (by omega)
  have b5 : (x.kind == 5) = false := beq_eq_false_iff_ne.2 (by omega)
  have b6 : (x.kind == 6) = false := beq_eq_false_iff_ne.2 (by omega)
  have b7 : (x.kind == 7) = false := beq_eq_false_iff_ne.2 (by omega)
  have b9 : (x.kind == 9) = false := beq_eq_false_iff_ne.2 (by omega)
  have b8 : (x.kind == 8) = true := beq_iff_eq.2 (by omega)
  have hst2 : stF ns (matL a ls) k S = (match x.kids with | c :: _ => starS (stF ns (matL a ls) c.toNat) S.length S | [] => S) := by rw [hstf]; unfold bodyS; rw [if_neg (by omega), if_neg (by omega), if_neg (by omega), if_neg (by omega), if_neg (by omega), if_pos kd]; cases x.kids <;> rfl
  have HF := Lib.hid hst2
  have HH := Lib.hid H
  have HKL := Lib.hid har
  have HKR := Lib.hid (fun c hc => hE.kids k x (by rw [← hxx]; exact List.getElem?_eq_getElem hk) c hc)
  clear hst2 H har hE hgs hS hstf hal hr0 hr1 hr2 hxx hks kd hn
  go_enter Tryz.func98, Tryz.ntmps98
  go_wp2_with fail
  rw [← hW3]
  clear hW3
  refine hcall.out.mono ?_
  rintro e w1 ⟨g, rfl, hg, hrow, hb1⟩
  have HB1 := Lib.hid hb1
  have HRW := Lib.hid hrow
  have hgl := hrow.lt
  have hgw := hb1.size
  have q0 := (HR0.out.below hb1 HR0.out.lt).lt
  have q1 := (HR1.out.below hb1 HR1.out.lt).lt
  obtain ⟨u0, v0⟩ := (HR2.out.below hb1 HR2.out.lt).cel (i := 0) rfl
  have q2 := (HR2.out.below hb1 HR2.out.lt).lt
  have hgsl := HGS.out.lt
  have hgsl1 : gs < w1.heap.size := by omega
  clear hcall hrow hb1 y0 y1 y2 y3 y4 f0 f1 f2 f3 f4
  have har := HKL.out
  obtain ⟨bk, ok, eB, _, hbk, hck, hkk⟩ := ints_at HKS.out (i := 0) (by omega)
  have hcm := List.getElem_mem (l := x.kids) (n := 0) (by omega)
  have HSD0 := Lib.hid (HH.out _ hcm)
  have hrg := HKR.out _ hcm
  have hkx : ∃ r, x.kids = x.kids[0] :: r := ⟨x.kids.drop 1, by rw [← List.drop_eq_getElem_cons (by omega)]; rfl⟩
  rw [Nat.add_zero] at hck
  generalize x.kids[0] = c at *
  obtain ⟨ci, rfl⟩ := Int.eq_ofNat_of_zero_le (show 0 ≤ c by omega)
  obtain ⟨kr, hkr⟩ := hkx
  rw [hkr] at HF
  simp only [Int.toNat_natCast] at HSD0 HF
  have HCK := Lib.hid hck
  have hk0 : 0 < x.kids.length := by omega
  clear hck hrg hkr har hcm
  have hboxes := Lib.hid (fun (wx : World) (hx : Below W3.heap.size W3 wx) => And.intro (And.intro ((HR0.out.below hx HR0.out.lt).cel (i := 0) rfl).1 ((HR0.out.below hx HR0.out.lt).cel (i := 1) rfl).1) (And.intro ((HR1.out.below hx HR1.out.lt).cel (i := 0) rfl).1 ((HR2.out.below hx HR2.out.lt).cel (i := 4) rfl).1))
  have hwb2 := HAL.out.size
  have hj0 : joinS (noneS n) S = S := on_ext (by rw [join_len, none_len, HS.out]) fun j => by rw [on_join (by rw [none_len, HS.out])]; simp [on_none]
  have hcj := rjoined_any n g gs (by omega) (noneS n) S w1 (none_len n) HS.out HRW.out (HGS.out.below (HAL.out.trans (HB1.out.mono HAL.out.size)))
  rw [hj0] at hcj
  have HCJ := Lib.hid hcj
  have HKC := Lib.hid (fun (wx : World) (hx : Below W3.heap.size W3 wx) => (Cel.keep (Kp.of_below hx) (Nat.zero_le _) (show bk < W3.heap.size by omega) (Cel.keep (Kp.of_below HAL.out) (Nat.zero_le _) hbk HCK.out)).1)
  subst eB
  clear HST hcj hj0
  generalize stF ns (matL a ls) k S = R at *
  go_wp2_with fail
  refine HCJ.out.mono ?_
  rintro e w2 ⟨g2, rfl, hg2, hrow2, hb2⟩
  have hst : ∃ (j gT : Nat), Value.slice (some ⟨g2, 0, none⟩) n n = .slice (some ⟨gT, 0, none⟩) n n ∧ Hid (w.heap.size ≤ gT ∧ BRow w2 gT (starS (stF ns (matL a ls) ci) j S) ∧ j ≤ cntS (starS (stF ns (matL a ls) ci) j S) ∧ Below W3.heap.size W3 w2) :=
    ⟨0, g2, rfl, by omega, hrow2, Nat.zero_le _, HB1.out.trans (hb2.mono HB1.out.size)⟩
  have HST := Lib.hid hst
  clear hst hg2 hrow2 hb2 HCJ u0 v0 q0 q1 q2 hgl hgw HRW hgsl1
  go_wp2_with fail
  go_loopw [12] (fun v wr => ∃ (j gT : Nat), v = .slice (some ⟨gT, 0, none⟩) n n ∧ Hid (w.heap.size ≤ gT ∧ BRow wr gT (starS (stF ns (matL a ls) ci) j S) ∧ j ≤ cntS (starS (stF ns (matL a ls) ci) j S) ∧ Below W3.heap.size W3 wr)) (fun v wr => n + 1 - cntAt wr v)
  case atStart => exact HST.out
  case round =>
    clear HST
    obtain ⟨j, gT, rfl, hT⟩ := hrel
    have HTn : Hid ((starS (stF ns (matL a ls) ci) j S).length = n) := by show _ = _; rw [starS_len, HS.out]
    have HSR := Lib.hid (starS_round (stF ns (matL a ls) ci) j S)
    have HCA : Hid (cntAt wr (.slice (some ⟨gT, 0, none⟩) n n) = cntS (starS (stF ns (matL a ls) ci) j S)) := cntAt_row hT.out.2.1
    have HSTP := Lib.hid (fun h => starS_stop (g := stF ns (matL a ls) ci) (j := j) (n := n) (S := S) h)
    have HLE := Lib.hid (cnt_le (starS (stF ns (matL a ls) ci) j S))
    generalize hTT : starS (stF ns (matL a ls) ci) j S = T at *
    have HTT := Lib.hid hTT
    clear hTT
    have HTL := Lib.hid (stF_len (ns := ns) (k := ci) (S := T) (show T.length = (matL a ls).length + 1 by rw [matL_len, HTn.out]; exact HN.out))
    have HCNT := Lib.hid (cnt_join T (stF ns (matL a ls) ci T) (by rw [HTL.out, matL_len, HTn.out]; exact HN.out))
    have HSD := Lib.hid (HSD0.out T gT (wr.drewN 1) n HN.out HTn.out (HE.out.on (below_drewN (HAL.out.trans (hT.out.2.2.2.mono HAL.out.size)) 1)) (hT.out.2.1.drewN 1))
    have HJO : Hid (∀ (w5 : World) (g5 : Nat), BRow w5 g5 (stF ns (matL a ls) ci T) → Below (wr.drewN 1).heap.size (wr.drewN 1) w5 → Calls Tryz.prog 127 #[.slice (some ⟨gT, 0, none⟩) n n, .slice (some ⟨g5, 0, none⟩) n n] w5 (SetOut n (joinS T (stF ns (matL a ls) ci T)) w5)) := fun w5 g5 h6 h7 =>
      rjoined_any n gT g5 (by omega) _ _ w5 HTn.out (by rw [HTL.out, matL_len]; exact HN.out.symm) (hT.out.2.1.below ((below_drewN (Below.refl _ _) 1).trans h7)) h6
    have HW3 : Hid (∀ w5, Below (wr.drewN 1).heap.size (wr.drewN 1) w5 → Below W3.heap.size W3 w5 ∧ Below wr.heap.size wr w5) := fun w5 h7 => ⟨hT.out.2.2.2.trans (((below_drewN (Below.refl _ _) 1).trans h7).mono hT.out.2.2.2.size), (below_drewN (Below.refl _ _) 1).trans h7⟩
    have d0 := (hboxes.out wr hT.out.2.2.2).1.1
    have d1 := (hboxes.out wr hT.out.2.2.2).1.2
    have d2 := (hboxes.out wr hT.out.2.2.2).2.1
    have d3 := (hboxes.out wr hT.out.2.2.2).2.2
    have d4 := HKC.out wr hT.out.2.2.2
    have hbk2 : bk < wr.heap.size := by have := hT.out.2.2.2.size; omega
    have hsw : W3.heap.size ≤ wr.heap.size := hT.out.2.2.2.size
    have HRD : Hid (roundS (stF ns (matL a ls) ci) T = joinS T (stF ns (matL a ls) ci T)) := rfl
    generalize stF ns (matL a ls) ci T = T2 at *
    have hTl : T.length = n := HTn.out
    have HJL : Hid ((joinS T T2).length = n) := by show _ = _; rw [join_len, hTl]
    clear hTl
    generalize hT3 : joinS T T2 = T3 at *
    have HT3 := Lib.hid hT3
    clear hT3
    go_upto_region 28 with (fail)
    go_region_held3 (fun w' => w'.cell? ⟨w.heap.size, 0, none⟩ = some (.slice A1 a.feats.length c1) ∧ w'.cell? ⟨w.heap.size, 1, none⟩ = some (.slice A2 a.lets.length c2) ∧ w'.cell? ⟨w.heap.size + 1, 0, none⟩ = some (.slice (some ⟨b, off, none⟩) ns.length cn) ∧ w'.cell? ⟨w.heap.size + 1 + 1, 4, none⟩ = some (.slice (some ⟨bk, ok, none⟩) x.kids.length cc) ∧ w'.cell? ⟨bk, ok, none⟩ = some (.int .i64 (ci : Int))) (go_keep)
      ((first
        | (go_at_call 98; refine HSD.out.mono ?_; rintro e w5 ⟨g5, rfl, h5, h6, h7⟩; have HJ := Lib.hid (HJO.out w5 g5 h6 h7); have HX := Lib.hid (HW3.out w5 h7); have k0 := (hboxes.out w5 HX.out.1).1.1; have k1 := (hboxes.out w5 HX.out.1).1.2; have k2 := (hboxes.out w5 HX.out.1).2.1; have k3 := (hboxes.out w5 HX.out.1).2.2; have k4 := HKC.out w5 HX.out.1)
        | (go_at_call 127; refine HJ.out.mono ?_; rintro e w6 ⟨g6, rfl, h8, h9, h10⟩; have HY := Lib.hid (And.intro (HX.out.1.trans (h10.mono HX.out.1.size)) (HX.out.2.trans (h10.mono HX.out.2.size))); have k5 := (hboxes.out w6 HY.out.1).1.1; have k6 := (hboxes.out w6 HY.out.1).1.2; have k7 := (hboxes.out w6 HY.out.1).2.1; have k8 := (hboxes.out w6 HY.out.1).2.2; have k9 := HKC.out w6 HY.out.1)))
    have HC1 := Lib.hid (rcount_any n g6 (by omega) T3 w6 HJL.out h9)
    have HC2 := Lib.hid (rcount_any n gT (by omega) T w6 HTn.out (hT.out.2.1.below HY.out.2))
    have HR9 := Lib.hid h9
    have hg6 : w.heap.size ≤ g6 := by have := HX.out.1.size; omega
    have hle1 : cntS T3 ≤ n := by have := cnt_le T3; rw [HJL.out] at this; exact this
    have hle2 : cntS T ≤ cntS T3 := HCNT.out.1
    clear h5 h6 h7 h8 h9 h10 HSD HTL HJ HJO k0 k1 k2 k3 k4 k5 k6 k7 k8 k9 d0 d1 d2 d3 d4
    by_cases hq : cntS T3 = cntS T
    · have hbq : ((cntS T3 : Int) == (cntS T : Int)) = true := by rw [beq_iff_eq]; omega
      have hRT : R = T3 := by
        have h1 : T3 = T := HCNT.out.2 hq.symm
        have h2 := HSTP.out (by rw [HRD.out]; exact h1) (by have := hT.out.2.2.1; omega)
        rw [HF.out, HS.out, h2, h1]
      have HFN : Hid (SetOut n R w (.returned (.slice (some ⟨g6, 0, none⟩) n n)) w6) := ⟨g6, rfl, hg6, by rw [hRT]; exact HR9.out, HAL.out.trans (HY.out.1.mono HAL.out.size)⟩
      clear hRT hq
      generalize cntS T3 = q3 at *
      generalize cntS T = q4 at *
      go_wp2_with fail
      refine HC1.out.mono ?_
      rintro e w7 ⟨rfl, rfl⟩
      go_wp2_with fail
      refine HC2.out.mono ?_
      rintro e w8 ⟨rfl, rfl⟩
      clear HC1 HC2
      go_wp2_with fail
      go_ret
      exact HFN.out
    · have hbq : ((cntS T3 : Int) == (cntS T : Int)) = false := by rw [beq_eq_false_iff_ne]; omega
      have hst2 : w.heap.size ≤ g6 ∧ BRow w6 g6 (starS (stF ns (matL a ls) ci) (j + 1) S) ∧ j + 1 ≤ cntS (starS (stF ns (matL a ls) ci) (j + 1) S) ∧ Below W3.heap.size W3 w6 := by
        rw [HSR.out, HRD.out]
        exact ⟨hg6, HR9.out, by have := hT.out.2.2.1; omega, HY.out.1⟩
      have HST2 := Lib.hid hst2
      have hms : n + 1 - cntAt w6 (.slice (some ⟨g6, 0, none⟩) n n) < n + 1 - cntAt wr (.slice (some ⟨gT, 0, none⟩) n n) := by
        rw [cntAt_row HR9.out, HCA.out]
        omega
      have HMS := Lib.hid hms
      clear hst2 hms hq
      generalize cntS T3 = q3 at *
      generalize cntS T = q4 at *
      go_wp2_with fail
      refine HC1.out.mono ?_
      rintro e w7 ⟨rfl, rfl⟩
      go_wp2_with fail
      refine HC2.out.mono ?_
      rintro e w8 ⟨rfl, rfl⟩
      clear HC1 HC2
      go_wp2_with fail
      exact ⟨⟨j + 1, g6, rfl, HST2.out⟩, HMS.out⟩
end
end Go.Proofs.YtimhlnndobfehaaGreatDoor
