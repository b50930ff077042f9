/- The law, walked. -/
import Derived.Test.YtlanjpickjndlaaLawLem
import Derived.BigQuiet
namespace Go.Proofs.Ytlanjpickjndlaa
open Go.RowKit
set_option linter.unusedVariables false

set_option maxHeartbeats 16000000 in
set_option maxRecDepth 100000 in
theorem law_walk (AL AP : Option Addr) (cL cP : Nat) (ls : List (List Nd)) (ps : List Nd) (r pl mi : Int) (w : World) (hcL : ls.length ≤ cL) (hcLm : cL ≤ maxLen) (hcP : ps.length ≤ cP) (hcPm : cP ≤ maxLen)
    (hslL : Sl 1 vPat w 0 w.heap.size AL ls) (hslP : Sl 5 vNd w 0 w.heap.size AP ps) (hbL : ∀ l ∈ ls, ∀ x ∈ l, x.kids.length * 8 ≤ 140737488355328) (hbP : ∀ x ∈ ps, x.kids.length * 8 ≤ 140737488355328)
    (hr : kin .i32 r) (hpl : kin .u32 pl) (hmi : kin .u32 mi) :
    Calls Try.prog 3 #[.slice AL ls.length cL, .agg #[.slice AP ps.length cP], .int .i32 r, .int .u32 pl, .int .u32 mi] w fun e w' => e = .returned (.bool true) ∧ Below w.heap.size w w' := by
  have hmL : ls.length ≤ 9223372036854775807 := by unfold maxLen at hcLm; omega
  have hmP : ps.length ≤ 9223372036854775807 := by unfold maxLen at hcPm; omega
  have hb1 : Below w.heap.size w (w.alloc (.cells #[.slice AP ps.length cP] 25)) := (Below.refl _ _).alloc (Nat.le_refl _) _
  have hr1 := Row.new w 25 [.slice AP ps.length cP]
  obtain ⟨hrA, hrB, hb2⟩ := two_boxes w 25 [.slice AP ps.length cP] [.slice AP ps.length cP]
  have hbs1 := hb1.size
  have hbs2 := hb2.size
  have hsP1 : Sl 1 vPat ((w.alloc (.cells #[.slice AP ps.length cP] 25)).alloc (.cells #[.slice AP ps.length cP] 25)) 0 (w.heap.size + 2) (some ⟨w.heap.size + 1, 0, none⟩) [ps] := by
    refine hrB.sl rfl (by omega) (by omega) (fun i x v hx hv => ?_)
    match i, hx, hv with
    | 0, hx, hv =>
      simp only [List.getElem?_cons_zero, Option.some.injEq] at hx hv
      subst hx hv
      exact ⟨AP, cP, rfl, hcP, hcPm, (hslP.below vNd_good hb2 (Nat.le_refl _)).wide vNd_good (Nat.le_refl _) (by omega)⟩
  have hz2 : w.heap.size + 2 ≤ ((w.alloc (.cells #[.slice AP ps.length cP] 25)).alloc (.cells #[.slice AP ps.length cP] 25)).heap.size := by simp
  have hc2 := long_any (some ⟨w.heap.size + 1, 0, none⟩) 1 0 (w.heap.size + 2) [ps] _ (by simp) hz2 hsP1
  clear hsP1 hz2 hrB
  go_enter Try.func3, Try.ntmps3
  go_wp2_with fail
  refine (long_any AL cL 0 w.heap.size ls _ hmL (by omega) (hslL.below vPat_good hb1 (Nat.le_refl _))).mono ?_
  rintro e w1 ⟨b1, rfl, rfl, hl1⟩
  cases b1 with
  | true =>
    clear hl1
    go_wp2_with fail
    go_ret
    exact ⟨rfl, hb1⟩
  | false =>
  obtain ⟨hl1, hl1b⟩ := hl1 rfl
  go_wp2_with fail
  refine hc2.mono ?_
  rintro e w1 ⟨b2, rfl, rfl, hl2⟩
  clear hc2
  cases b2 with
  | true =>
    clear hl2
    go_wp2_with fail
    go_ret
    exact ⟨rfl, hb2⟩
  | false =>
  obtain ⟨_, hl2b⟩ := hl2 rfl
  have hps : ps.length ≤ 2000 := hl2b ps (by simp)
  have hls := Lib.hid hl1b
  clear hl2 hl1b hl2b
  have hst0 : OwnSt w AP cP ps ls 0 (.slice none 0 0) ((w.alloc (.cells #[.slice AP ps.length cP] 25)).alloc (.cells #[.slice AP ps.length cP] 25)) :=
    ⟨[], hrA, World.ownsRow_nil _ _ _ _, by simp, by simp, hb2⟩
  clear hrA hr1 hb1 hb2 hbs1 hbs2
  go_wp2_with fail
  go_loopw [11, 12] (fun v i wr => ∃ k : Nat, k ≤ ls.length ∧ i = .int .i64 k ∧ OwnSt w AP cP ps ls k v wr) (fun _ i _ => ls.length - (intOf i).toNat)
  case atStart => exact ⟨0, by omega, rfl, hst0⟩
  case round =>
    obtain ⟨k, hk, rfl, hst⟩ := hrel
    clear hst0
    by_cases hlt : k < ls.length
    · obtain ⟨us, hr0, ho0, hn0, he0, hb0⟩ := hst
      have hbs0 := hb0.size
      obtain ⟨Av, cv, rfl, _, _⟩ := own_form ho0
      obtain ⟨i0, hi0, hz0, hz1, hz2⟩ := info_parts (show (Try.prog.info? 25).map (fun i => (i.zero, i.size, i.bytes)) = some (some (.agg #[.slice none 0 0]), 1, 24) by kernel_rfl)
      obtain ⟨b, off, B, cc, rfl, _, hb, ⟨c0, f0⟩, hkl, hkc, hks⟩ := pat_at (hslL.below vPat_good hb0 (Nat.le_refl _)) hlt
      have hx1 := hls.out _ (List.getElem_mem hlt)
      have hx2 := hbL _ (List.getElem_mem hlt)
      have hstep := Lib.hid (fun (w1 w3 : World) (u : Value) (g3 cap3 : Nat) hp hown hgr => own_step (w1 := w1) (w3 := w3) (u := u) (g3 := g3) (cap3 := cap3) hr0 ho0 hn0 he0 hb0 hlt hp hown hgr)
      generalize ls[k] = x at *
      go_wp2_with fail
      refine (twin_any B cc 0 w.heap.size x wr (by omega) hx2 (by omega) hks).mono ?_
      rintro e w1 ⟨v1, rfl, hp⟩
      obtain ⟨A1, c1, rfl, _, hB1, _⟩ := got_new hp
      have ho1 := own_below ho0 hB1
      have hn1 : Row (w1.alloc (.cells #[.slice A1 x.length c1] 25)) w1.heap.size 25 [.slice A1 x.length c1] := Row.new w1 _ _
      have hnews := hn1.news
      have hone : ∀ u ∈ [Value.slice A1 x.length c1], u.oneCell' = true := by intro u hu; rw [List.mem_singleton.1 hu]; rfl
      have h63 : k + 1 ≤ maxLen := by unfold maxLen; omega
      have hby : (k + 1) * 24 ≤ 140737488355328 := by omega
      have hloW : w.heap.size + 1 ≤ (w1.alloc (.cells #[.slice A1 x.length c1] 25)).heap.size := by have := hB1.size; have := hr0.lt; omega
      have hs2 := fun g3 cap3 w3 => hstep.out w1 w3 (.slice A1 x.length c1) g3 cap3 hp
      have HS2 := Lib.hid hs2
      clear hs2 hstep hp hr0 hn0 hks c0 f0 ho0
      go_wp2_with (at_builtin; refine wpList_append_lies _ rfl _ _ 22 rfl (w.heap.size + 1) 25 i0 (.agg #[.slice none 0 0]) 1 24 Try.underlying22 hi0 hz0 hz1 hz2 rfl (by decide) (.slice Av k cv) k (us.map Prod.fst) rfl ho1 ⟨w1.heap.size, 0, none⟩ 1 1 [.slice A1 x.length c1] rfl rfl hnews hone (by decide) h63 hby hloW _ rfl ?_)
      intro g5 cap5 w5 hown5 hgr5 hat5 hlt5
      have hst := HS2.out g5 cap5 w5 hown5 hgr5
      clear HS2 hown5 hgr5 hat5 hlt5 hnews hn1 ho1 hone
      go_wp2_with fail
      exact ⟨⟨k + 1, by omega, by go_num, hst⟩, by simp [intOf]; omega⟩
    · obtain rfl : k = ls.length := by omega
      obtain ⟨AO, cO, rfl, hcO, hcOm, hslO⟩ := own_done hst
      obtain ⟨_, hr0, _, _, _, hb0⟩ := hst
      have hbs0 := hb0.size
      obtain ⟨cr0, fr0⟩ := hr0.cel (i := 0) rfl
      clear hls
      go_wp2_with fail
      refine (twin_any AP cP 0 w.heap.size ps wr (by omega) hbP (by omega) (hslP.below vNd_good hb0 (Nat.le_refl _))).mono ?_
      rintro e w1 ⟨v1, rfl, hp⟩
      obtain ⟨A0, c0, rfl, hG0, hB0, hle0⟩ := got_new hp
      clear hp
      go_upto_region 9 with (fail)
      generalize hW0 : w1.alloc (.cells #[.slice A0 ps.length c0] 25) = W0 at *
      generalize hh0 : w1.heap.size = h0 at *
      clear hW0 hh0
      have hBw : Below w.heap.size w W0 := hb0.trans (hB0.mono hbs0)
      have hws := hBw.size
      have hO0 : Sl 1 vPat W0 (w.heap.size + 1) W0.heap.size AO ls := (hslO.below vPat_good hB0 (Nat.le_refl _)).wide vPat_good (Nat.le_refl _) hB0.size
      have hrW := hr0.below hB0 hr0.lt
      obtain ⟨Ao, co, hco, hcom, hAt0⟩ := hG0.at_ hle0
      have hl0 : h0 < W0.heap.size := hG0.lt
      have hK : ∀ wx, Below W0.heap.size W0 wx → (wx.cell? ⟨w.heap.size, 0, none⟩ = some (.slice AP ps.length cP) ∧ wx.cell? ⟨h0, 0, none⟩ = some (.slice Ao ps.length co)) ∧ W0.heap.size ≤ wx.heap.size ∧ Sl 1 vPat wx (w.heap.size + 1) W0.heap.size AO ls ∧ Sl 1 vPat wx 0 w.heap.size AL ls ∧ Sl 5 vNd wx 0 w.heap.size AP ps ∧ Sl 5 vNd wx wr.heap.size W0.heap.size Ao ps :=
        fun wx hx => ⟨⟨((hrW.below hx hrW.lt).cel (i := 0) rfl).1, (hAt0 wx hx).1⟩, hx.size, hO0.below vPat_good hx (Nat.le_refl _), hslL.below vPat_good (hBw.trans (hx.mono hws)) (Nat.le_refl _), hslP.below vNd_good (hBw.trans (hx.mono hws)) (Nat.le_refl _), (hAt0 wx hx).2.2⟩
      have hC0 : Below W0.heap.size W0 W0 := Below.refl _ _
      have HK := Lib.hid hK
      have hwr : wr.heap.size ≤ W0.heap.size := hB0.size
      clear hK hAt0 hO0 hrW hr0 cr0 fr0 hslO hB0 hG0
      generalize hlo1 : wr.heap.size = lo1 at *
      clear hlo1
      obtain ⟨⟨cp, cn⟩, hz, hO, hL, hP, h1⟩ := HK.out W0 hC0
      go_wp2_with fail
      refine (seq_any AO cO (w.heap.size + 1) W0.heap.size ls W0 hmL hz hO).mono ?_
      clear hO hL hP h1 cp cn
      rintro e w1 ⟨v1, rfl, hp⟩
      obtain ⟨A1, c1, rfl, hG1, hB1, hle1⟩ := got_new hp
      clear hp
      go_upto_region 10 with (fail)
      generalize hW : w1.alloc (.cells #[.slice A1 (madeN 6 ls).length c1] 25) = W1 at *
      generalize hh : w1.heap.size = h1 at *
      clear hW hh hz
      have hC1 : Below W0.heap.size W0 W1 := hC0.trans (hB1.mono hC0.size)
      have hl1 : h1 < W1.heap.size := hG1.lt
      obtain ⟨⟨cp, cn⟩, hz, hO, hL, hP, h1⟩ := HK.out W1 hC1
      go_wp2_with fail
      refine (seqR_any AL cL 0 w.heap.size ls W1 hmL (by omega) hL).mono ?_
      clear hO hL hP h1 cp cn
      rintro e w2 ⟨v2, rfl, hp⟩
      obtain ⟨A2, c2, rfl, hG2, hB2, hle2⟩ := got_new hp
      clear hp
      go_upto_region 11 with (fail)
      generalize hW : w2.alloc (.cells #[.slice A2 (madeN 6 ls).length c2] 25) = W2 at *
      generalize hh : w2.heap.size = h2 at *
      clear hW hh hz
      have hC2 : Below W0.heap.size W0 W2 := hC1.trans (hB2.mono hC1.size)
      have hl2 : h2 < W2.heap.size := hG2.lt
      obtain ⟨⟨cp, cn⟩, hz, hO, hL, hP, h1⟩ := HK.out W2 hC2
      go_wp2_with fail
      refine (or_any AO cO (w.heap.size + 1) W0.heap.size ls W2 hmL hz hO).mono ?_
      clear hO hL hP h1 cp cn
      rintro e w3 ⟨v3, rfl, hp⟩
      obtain ⟨A3, c3, rfl, hG3, hB3, hle3⟩ := got_new hp
      clear hp
      go_upto_region 12 with (fail)
      generalize hW : w3.alloc (.cells #[.slice A3 (madeN 7 ls).length c3] 25) = W3 at *
      generalize hh : w3.heap.size = h3 at *
      clear hW hh hz
      have hC3 : Below W0.heap.size W0 W3 := hC2.trans (hB3.mono hC2.size)
      have hl3 : h3 < W3.heap.size := hG3.lt
      obtain ⟨⟨cp, cn⟩, hz, hO, hL, hP, h1⟩ := HK.out W3 hC3
      go_wp2_with fail
      refine (orR_any AL cL 0 w.heap.size ls W3 hmL (by omega) hL).mono ?_
      clear hO hL hP h1 cp cn
      rintro e w4 ⟨v4, rfl, hp⟩
      obtain ⟨A4, c4, rfl, hG4, hB4, hle4⟩ := got_new hp
      clear hp
      go_upto_region 13 with (fail)
      generalize hW : w4.alloc (.cells #[.slice A4 (madeN 7 ls).length c4] 25) = W4 at *
      generalize hh : w4.heap.size = h4 at *
      clear hW hh hz
      have hC4 : Below W0.heap.size W0 W4 := hC3.trans (hB4.mono hC3.size)
      have hl4 : h4 < W4.heap.size := hG4.lt
      obtain ⟨⟨cp, cn⟩, hz, hO, hL, hP, h1⟩ := HK.out W4 hC4
      go_wp2_with fail
      refine (star_any Ao co lo1 W0.heap.size ps W4 hco hcom (by omega) hz h1).mono ?_
      clear hO hL hP h1 cp cn
      rintro e w5 ⟨v5, rfl, hp⟩
      obtain ⟨A5, c5, rfl, hG5, hB5, hle5⟩ := got_new hp
      clear hp
      go_upto_region 14 with (fail)
      generalize hW : w5.alloc (.cells #[.slice A5 (madeN 8 [ps]).length c5] 25) = W5 at *
      generalize hh : w5.heap.size = h5 at *
      clear hW hh hz
      have hC5 : Below W0.heap.size W0 W5 := hC4.trans (hB5.mono hC4.size)
      have hl5 : h5 < W5.heap.size := hG5.lt
      obtain ⟨⟨cp, cn⟩, hz, hO, hL, hP, h1⟩ := HK.out W5 hC5
      go_wp2_with fail
      refine (starR_any AP cP 0 w.heap.size ps W5 hcP hcPm (by omega) (by omega) hP).mono ?_
      clear hO hL hP h1 cp cn
      rintro e w6 ⟨v6, rfl, hp⟩
      obtain ⟨A6, c6, rfl, hG6, hB6, hle6⟩ := got_new hp
      clear hp
      go_upto_region 15 with (fail)
      generalize hW : w6.alloc (.cells #[.slice A6 (madeN 8 [ps]).length c6] 25) = W6 at *
      generalize hh : w6.heap.size = h6 at *
      clear hW hh hz
      have hC6 : Below W0.heap.size W0 W6 := hC5.trans (hB6.mono hC5.size)
      have hl6 : h6 < W6.heap.size := hG6.lt
      obtain ⟨⟨cp, cn⟩, hz, hO, hL, hP, h1⟩ := HK.out W6 hC6
      go_wp2_with fail
      refine (opt_any Ao co lo1 W0.heap.size ps W6 hco hcom (by omega) hz h1).mono ?_
      clear hO hL hP h1 cp cn
      rintro e w7 ⟨v7, rfl, hp⟩
      obtain ⟨A7, c7, rfl, hG7, hB7, hle7⟩ := got_new hp
      clear hp
      go_upto_region 16 with (fail)
      generalize hW : w7.alloc (.cells #[.slice A7 (madeN 9 [ps]).length c7] 25) = W7 at *
      generalize hh : w7.heap.size = h7 at *
      clear hW hh hz
      have hC7 : Below W0.heap.size W0 W7 := hC6.trans (hB7.mono hC6.size)
      have hl7 : h7 < W7.heap.size := hG7.lt
      obtain ⟨⟨cp, cn⟩, hz, hO, hL, hP, h1⟩ := HK.out W7 hC7
      go_wp2_with fail
      refine (optR_any AP cP 0 w.heap.size ps W7 hcP hcPm (by omega) (by omega) hP).mono ?_
      clear hO hL hP h1 cp cn
      rintro e w8 ⟨v8, rfl, hp⟩
      obtain ⟨A8, c8, rfl, hG8, hB8, hle8⟩ := got_new hp
      clear hp
      go_upto_region 17 with (fail)
      generalize hW : w8.alloc (.cells #[.slice A8 (madeN 9 [ps]).length c8] 25) = W8 at *
      generalize hh : w8.heap.size = h8 at *
      clear hW hh hz
      have hC8 : Below W0.heap.size W0 W8 := hC7.trans (hB8.mono hC7.size)
      have hl8 : h8 < W8.heap.size := hG8.lt
      obtain ⟨⟨cp, cn⟩, hz, hO, hL, hP, h1⟩ := HK.out W8 hC8
      go_wp2_with fail
      refine (turned_any Ao co lo1 W0.heap.size ps W8 hmP hz h1).mono ?_
      clear hO hL hP h1 cp cn
      rintro e w9 ⟨v9, rfl, hp⟩
      obtain ⟨A9, c9, rfl, hG9, hB9, hle9⟩ := got_new hp
      clear hp
      go_upto_region 18 with (fail)
      generalize hW : w9.alloc (.cells #[.slice A9 (turnedN ps).length c9] 25) = W9 at *
      generalize hh : w9.heap.size = h9 at *
      clear hW hh hz
      have hC9 : Below W0.heap.size W0 W9 := hC8.trans (hB9.mono hC8.size)
      have hl9 : h9 < W9.heap.size := hG9.lt
      obtain ⟨⟨cp, cn⟩, hz, hO, hL, hP, h1⟩ := HK.out W9 hC9
      go_wp2_with fail
      refine (turnedR_any AP cP 0 w.heap.size ps W9 hmP (by omega) hP).mono ?_
      clear hO hL hP h1 cp cn
      rintro e w10 ⟨v10, rfl, hp⟩
      obtain ⟨A10, c10, rfl, hG10, hB10, hle10⟩ := got_new hp
      clear hp
      go_upto_region 19 with (fail)
      generalize hW : w10.alloc (.cells #[.slice A10 (turnedN ps).length c10] 25) = W10 at *
      generalize hh : w10.heap.size = h10 at *
      clear hW hh hz
      have hC10 : Below W0.heap.size W0 W10 := hC9.trans (hB10.mono hC9.size)
      have hl10 : h10 < W10.heap.size := hG10.lt
      have hD10 : Below W10.heap.size W10 W10 := Below.refl _ _
      have hD9 : Below W9.heap.size W9 W10 := hB10.trans (hD10.mono hB10.size)
      have hD8 : Below W8.heap.size W8 W10 := hB9.trans (hD9.mono hB9.size)
      have hD7 : Below W7.heap.size W7 W10 := hB8.trans (hD8.mono hB8.size)
      have hD6 : Below W6.heap.size W6 W10 := hB7.trans (hD7.mono hB7.size)
      have hD5 : Below W5.heap.size W5 W10 := hB6.trans (hD6.mono hB6.size)
      have hD4 : Below W4.heap.size W4 W10 := hB5.trans (hD5.mono hB5.size)
      have hD3 : Below W3.heap.size W3 W10 := hB4.trans (hD4.mono hB4.size)
      have hD2 : Below W2.heap.size W2 W10 := hB3.trans (hD3.mono hB3.size)
      have hD1 : Below W1.heap.size W1 W10 := hB2.trans (hD2.mono hB2.size)
      have hE1 := hG1.below hD1 hle1
      obtain ⟨a1, k1, hk1, hkm1, hAt⟩ := hE1.at_ hle1
      have HA1 := Lib.hid hAt
      clear hAt hG1
      have hE2 := hG2.below hD2 hle2
      obtain ⟨a2, k2, hk2, hkm2, hAt⟩ := hE2.at_ hle2
      have HA2 := Lib.hid hAt
      clear hAt hG2
      have hE3 := hG3.below hD3 hle3
      obtain ⟨a3, k3, hk3, hkm3, hAt⟩ := hE3.at_ hle3
      have HA3 := Lib.hid hAt
      clear hAt hG3
      have hE4 := hG4.below hD4 hle4
      obtain ⟨a4, k4, hk4, hkm4, hAt⟩ := hE4.at_ hle4
      have HA4 := Lib.hid hAt
      clear hAt hG4
      have hE5 := hG5.below hD5 hle5
      obtain ⟨a5, k5, hk5, hkm5, hAt⟩ := hE5.at_ hle5
      have HA5 := Lib.hid hAt
      clear hAt hG5
      have hE6 := hG6.below hD6 hle6
      obtain ⟨a6, k6, hk6, hkm6, hAt⟩ := hE6.at_ hle6
      have HA6 := Lib.hid hAt
      clear hAt hG6
      have hE7 := hG7.below hD7 hle7
      obtain ⟨a7, k7, hk7, hkm7, hAt⟩ := hE7.at_ hle7
      have HA7 := Lib.hid hAt
      clear hAt hG7
      have hE8 := hG8.below hD8 hle8
      obtain ⟨a8, k8, hk8, hkm8, hAt⟩ := hE8.at_ hle8
      have HA8 := Lib.hid hAt
      clear hAt hG8
      have hE9 := hG9.below hD9 hle9
      obtain ⟨a9, k9, hk9, hkm9, hAt⟩ := hE9.at_ hle9
      have HA9 := Lib.hid hAt
      clear hAt hG9
      have hE10 := hG10.below hD10 hle10
      obtain ⟨a10, k10, hk10, hkm10, hAt⟩ := hE10.at_ hle10
      have HA10 := Lib.hid hAt
      clear hAt hG10
      have HE := Lib.hid (And.intro hE1 (And.intro hE3 (And.intro hE5 (And.intro hE7 hE9))))
      clear hE1 hE2 hE3 hE4 hE5 hE6 hE7 hE8 hE9 hE10
      have hx := hD10
      obtain ⟨ca, _, sa⟩ := HA1.out W10 hx
      obtain ⟨cb, _, sb⟩ := HA2.out W10 hx
      have hz := hx.size
      go_wp2_with fail
      refine (like_same hk1 hkm1 hz hz sa sb).mono ?_
      rintro e x1 ⟨rfl, hy⟩
      replace hx := hx.trans (hy.mono hx.size)
      clear ca cb sa sb hz hy
      obtain ⟨ca, _, sa⟩ := HA3.out x1 hx
      obtain ⟨cb, _, sb⟩ := HA4.out x1 hx
      have hz := hx.size
      go_wp2_with fail
      refine (like_same hk3 hkm3 hz hz sa sb).mono ?_
      rintro e x2 ⟨rfl, hy⟩
      replace hx := hx.trans (hy.mono hx.size)
      clear ca cb sa sb hz hy
      obtain ⟨ca, _, sa⟩ := HA5.out x2 hx
      obtain ⟨cb, _, sb⟩ := HA6.out x2 hx
      have hz := hx.size
      go_wp2_with fail
      refine (like_same hk5 hkm5 hz hz sa sb).mono ?_
      rintro e x3 ⟨rfl, hy⟩
      replace hx := hx.trans (hy.mono hx.size)
      clear ca cb sa sb hz hy
      obtain ⟨ca, _, sa⟩ := HA7.out x3 hx
      obtain ⟨cb, _, sb⟩ := HA8.out x3 hx
      have hz := hx.size
      go_wp2_with fail
      refine (like_same hk7 hkm7 hz hz sa sb).mono ?_
      rintro e x4 ⟨rfl, hy⟩
      replace hx := hx.trans (hy.mono hx.size)
      clear ca cb sa sb hz hy
      obtain ⟨ca, _, sa⟩ := HA9.out x4 hx
      obtain ⟨cb, _, sb⟩ := HA10.out x4 hx
      have hz := hx.size
      go_wp2_with fail
      refine (like_same hk9 hkm9 hz hz sa sb).mono ?_
      rintro e x5 ⟨rfl, hy⟩
      replace hx := hx.trans (hy.mono hx.size)
      clear ca cb sa sb hz hy
      go_wp2_with fail
      refine (empty_any x5).mono ?_
      rintro e y1 ⟨v, rfl, hp⟩
      obtain ⟨LA, lc, rfl, hq1, hq2, sa, hy⟩ := pat_sl hp
      have hxy1 := hx.trans (hy.mono hx.size)
      clear hp hy
      go_wp2_with fail
      refine (empty_any_r y1).mono ?_
      rintro e y2 ⟨v, rfl, hp⟩
      obtain ⟨LB, ld, rfl, _, _, sb, hy⟩ := pat_sl hp
      have hxy2 := hxy1.trans (hy.mono hxy1.size)
      have sa2 := sa.below vNd_good hy (Nat.le_refl _)
      have hys := hy.size
      clear hp
      go_wp2_with fail
      refine (like_same hq1 hq2 hys (Nat.le_refl _) sa2 sb).mono ?_
      rintro e y3 ⟨rfl, hy2⟩
      replace hx := hxy2.trans (hy2.mono hxy2.size)
      clear hy hy2 hys sa sa2 sb hxy1 hxy2
      go_wp2_with fail
      refine (rune_any r y3 hr).mono ?_
      rintro e y4 ⟨v, rfl, hp⟩
      obtain ⟨LA, lc, rfl, hq1, hq2, sa, hy⟩ := pat_sl hp
      have hxy4 := hx.trans (hy.mono hx.size)
      clear hp hy
      go_wp2_with fail
      refine (rune_any_r r y4 hr).mono ?_
      rintro e y5 ⟨v, rfl, hp⟩
      obtain ⟨LB, ld, rfl, _, _, sb, hy⟩ := pat_sl hp
      have hxy5 := hxy4.trans (hy.mono hxy4.size)
      have sa2 := sa.below vNd_good hy (Nat.le_refl _)
      have hys := hy.size
      clear hp
      go_wp2_with fail
      refine (like_same hq1 hq2 hys (Nat.le_refl _) sa2 sb).mono ?_
      rintro e y6 ⟨rfl, hy2⟩
      replace hx := hxy5.trans (hy2.mono hxy5.size)
      clear hy hy2 hys sa sa2 sb hxy4 hxy5
      go_wp2_with fail
      refine (class_any pl mi y6 hpl hmi).mono ?_
      rintro e y7 ⟨v, rfl, hp⟩
      obtain ⟨LA, lc, rfl, hq1, hq2, sa, hy⟩ := pat_sl hp
      have hxy7 := hx.trans (hy.mono hx.size)
      clear hp hy
      go_wp2_with fail
      refine (class_any_r pl mi y7 hpl hmi).mono ?_
      rintro e y8 ⟨v, rfl, hp⟩
      obtain ⟨LB, ld, rfl, _, _, sb, hy⟩ := pat_sl hp
      have hxy8 := hxy7.trans (hy.mono hxy7.size)
      have sa2 := sa.below vNd_good hy (Nat.le_refl _)
      have hys := hy.size
      clear hp
      go_wp2_with fail
      refine (like_same hq1 hq2 hys (Nat.le_refl _) sa2 sb).mono ?_
      rintro e y9 ⟨rfl, hy2⟩
      replace hx := hxy8.trans (hy2.mono hxy8.size)
      clear hy hy2 hys sa sa2 sb hxy7 hxy8
      go_wp2_with fail
      go_loopw [34, 35] (fun s i wr => s = .bool true ∧ ∃ k : Nat, k ≤ ls.length ∧ i = .int .i64 k ∧ Below W10.heap.size W10 wr) (fun _ i _ => ls.length - (intOf i).toNat)
      case atStart => exact ⟨rfl, 0, by omega, rfl, hx⟩
      case round =>
        obtain ⟨rfl, k, hk, rfl, hxr⟩ := hrel
        by_cases hlt : k < ls.length
        · obtain ⟨⟨cp, cn⟩, hz, hO, hL, hP, h1⟩ := HK.out W10 hC10
          obtain ⟨b, off, B, cc, rfl, _, hb, hcel, hkl, hkc, hks⟩ := pat_at hO hlt
          obtain ⟨b', off', B', cc', rfl, _, hb', hcel', hkl', hkc', hks'⟩ := pat_at hL hlt
          have hxm : ls[k].length ≤ 9223372036854775807 := by unfold maxLen at hkc; omega
          have hws2 : w.heap.size ≤ W10.heap.size := by omega
          have HC : ∀ wx, Below W10.heap.size W10 wx → wx.cell? ⟨w.heap.size, 0, none⟩ = some (.slice AP ps.length cP) ∧ wx.cell? ⟨h0, 0, none⟩ = some (.slice Ao ps.length co) ∧ wx.cell? ⟨b, off + k, none⟩ = some (.slice B ls[k].length cc) ∧ wx.cell? ⟨b', off' + k, none⟩ = some (.slice B' ls[k].length cc') := fun wx hx =>
            ⟨(HK.out wx (hC10.trans (hx.mono hz))).1.1, (HK.out wx (hC10.trans (hx.mono hz))).1.2, (hcel.keep (Kp.of_below hx) (Nat.zero_le _) (by omega)).1, (hcel'.keep (Kp.of_below hx) (Nat.zero_le _) (by omega)).1⟩
          have K1 : ∀ wx, Below W10.heap.size W10 wx → Calls Try.prog 23 #[.agg #[.slice Ao ps.length co], .agg #[.slice B ls[k].length cc]] wx fun e w' => e = .returned (.bool (sameB ps ls[k])) ∧ Below W10.heap.size W10 w' := by
            intro wx hx
            have hs := hx.size
            refine (same_any Ao B co cc lo1 W0.heap.size (w.heap.size + 1) W0.heap.size ps ls[k] wx hmP hxm (by omega) (by omega) (h1.below vNd_good hx hz) (hks.below vNd_good hx hz)).mono ?_
            rintro e w' ⟨rfl, hy⟩
            exact ⟨rfl, hx.trans (hy.mono hs)⟩
          have K2 : ∀ wx, Below W10.heap.size W10 wx → Calls Try.prog 24 #[.agg #[.slice AP ps.length cP], .agg #[.slice B' ls[k].length cc']] wx fun e w' => e = .returned (.bool (sameB ps ls[k])) ∧ Below W10.heap.size W10 w' := by
            intro wx hx
            have hs := hx.size
            refine (sameR_any AP B' cP cc' 0 w.heap.size 0 w.heap.size ps ls[k] wx hmP hxm (by omega) (by omega) (hP.below vNd_good hx hws2) (hks'.below vNd_good hx hws2)).mono ?_
            rintro e w' ⟨rfl, hy⟩
            exact ⟨rfl, hx.trans (hy.mono hs)⟩
          have K3 : ∀ wx, Below W10.heap.size W10 wx → Calls Try.prog 23 #[.agg #[.slice B ls[k].length cc], .agg #[.slice B ls[k].length cc]] wx fun e w' => e = .returned (.bool (treeB ls[k])) ∧ Below W10.heap.size W10 w' := by
            intro wx hx
            have hs := hx.size
            refine (same_any B B cc cc (w.heap.size + 1) W0.heap.size (w.heap.size + 1) W0.heap.size ls[k] ls[k] wx hxm hxm (by omega) (by omega) (hks.below vNd_good hx hz) (hks.below vNd_good hx hz)).mono ?_
            rintro e w' ⟨rfl, hy⟩
            rw [sameB_self]
            exact ⟨rfl, hx.trans (hy.mono hs)⟩
          have K4 : ∀ wx, Below W10.heap.size W10 wx → Calls Try.prog 25 #[.agg #[.slice B' ls[k].length cc']] wx fun e w' => e = .returned (.bool (treeB ls[k])) ∧ Below W10.heap.size W10 w' := by
            intro wx hx
            have hs := hx.size
            refine (treeR_any B' cc' 0 w.heap.size ls[k] wx hxm (by omega) (hks'.below vNd_good hx hws2)).mono ?_
            rintro e w' ⟨rfl, hy⟩
            exact ⟨rfl, hx.trans (hy.mono hs)⟩
          have hd : Below W10.heap.size W10 wr.drew := below_drewN hxr 1
          generalize ls[k] = x at *
          generalize sameB ps x = s1 at *
          generalize treeB x = s2 at *
          have HC := Lib.hid HC
          have K1 := Lib.hid K1
          have K2 := Lib.hid K2
          have K3 := Lib.hid K3
          have K4 := Lib.hid K4
          clear hcel hcel' hks hks' hO hL hP h1 cp cn
          go_upto_region 24 with (fail)
          refine wp_region_class (fun wx => Below W10.heap.size W10 wx) (by kernel_rfl) (by kernel_rfl) hd ?_
          repeat (first
            | go_big_quiet_skip
            | (go_big_quiet_want; go_big_quiet_op; first
                | go_big_quiet_on
                | (apply Exists.intro
                   refine ⟨fun wx hx => ?_, ?_⟩
                   · (first
                      | exact rfl
                      | (have e1 := (HC.out wx hx).1; simp only [e1, Result.andThen]; exact ⟨trivial, rfl⟩)
                      | (have e1 := (HC.out wx hx).2.1; simp only [e1, Result.andThen]; exact ⟨trivial, rfl⟩)
                      | (have e1 := (HC.out wx hx).2.2.1; simp only [e1, Result.andThen]; exact ⟨trivial, rfl⟩)
                      | (have e1 := (HC.out wx hx).2.2.2; simp only [e1, Result.andThen]; exact ⟨trivial, rfl⟩)
                      | (go_at_call_of 23 (Value.agg #[Value.slice Ao ps.length co]); exact K1.out wx hx)
                      | (go_at_call_of 24 (Value.agg #[Value.slice AP ps.length cP]); exact K2.out wx hx)
                      | (go_at_call_of 23 (Value.agg #[Value.slice B x.length cc]); exact K3.out wx hx)
                      | (go_at_call_of 25 (Value.agg #[Value.slice B' x.length cc']); exact K4.out wx hx))
                   go_big_quiet_on)))
          refine wpQuiet_nil ?_
          intro wq hq
          clear HC K1 K2 K3 K4
          go_wp2_with fail
          exact ⟨⟨rfl, k + 1, by omega, by go_num, hq⟩, by simp [intOf]; omega⟩
        · obtain rfl : k = ls.length := by omega
          clear HA1 HA2 HA3 HA4 HA5 HA6 HA7 HA8 HA9 HA10
          obtain ⟨hE1, hE3, hE5, hE7, hE9⟩ := HE.out
          replace hE1 := hE1.below hxr hle1
          replace hE3 := hE3.below hxr hle3
          replace hE5 := hE5.below hxr hle5
          replace hE7 := hE7.below hxr hle7
          replace hE9 := hE9.below hxr hle9
          have hy := hC10.trans (hxr.mono hC10.size)
          clear HE hx
          obtain ⟨sA, sc, scell, sfr, scall⟩ := hE1.spoil hle1
          go_wp2_with fail
          refine scall.mono ?_
          rintro e z1 ⟨rfl, hF⟩
          replace hE3 := hE3.keep (fun j j1 j2 => hF.block j (by have := hE3.lt; omega) (fun hs => by omega)) hle3
          replace hE5 := hE5.keep (fun j j1 j2 => hF.block j (by have := hE5.lt; omega) (fun hs => by omega)) hle5
          replace hE7 := hE7.keep (fun j j1 j2 => hF.block j (by have := hE7.lt; omega) (fun hs => by omega)) hle7
          replace hE9 := hE9.keep (fun j j1 j2 => hF.block j (by have := hE9.lt; omega) (fun hs => by omega)) hle9
          replace hy := hy.trans (hF.below (B := W0.heap.size) (fun j hj => by omega) hy.size)
          clear scell sfr scall hF hE1
          obtain ⟨sA, sc, scell, sfr, scall⟩ := hE3.spoil hle3
          go_wp2_with fail
          refine scall.mono ?_
          rintro e z3 ⟨rfl, hF⟩
          replace hE5 := hE5.keep (fun j j1 j2 => hF.block j (by have := hE5.lt; omega) (fun hs => by omega)) hle5
          replace hE7 := hE7.keep (fun j j1 j2 => hF.block j (by have := hE7.lt; omega) (fun hs => by omega)) hle7
          replace hE9 := hE9.keep (fun j j1 j2 => hF.block j (by have := hE9.lt; omega) (fun hs => by omega)) hle9
          replace hy := hy.trans (hF.below (B := W0.heap.size) (fun j hj => by omega) hy.size)
          clear scell sfr scall hF hE3
          obtain ⟨sA, sc, scell, sfr, scall⟩ := hE5.spoil hle5
          go_wp2_with fail
          refine scall.mono ?_
          rintro e z5 ⟨rfl, hF⟩
          replace hE7 := hE7.keep (fun j j1 j2 => hF.block j (by have := hE7.lt; omega) (fun hs => by omega)) hle7
          replace hE9 := hE9.keep (fun j j1 j2 => hF.block j (by have := hE9.lt; omega) (fun hs => by omega)) hle9
          replace hy := hy.trans (hF.below (B := W0.heap.size) (fun j hj => by omega) hy.size)
          clear scell sfr scall hF hE5
          obtain ⟨sA, sc, scell, sfr, scall⟩ := hE7.spoil hle7
          go_wp2_with fail
          refine scall.mono ?_
          rintro e z7 ⟨rfl, hF⟩
          replace hE9 := hE9.keep (fun j j1 j2 => hF.block j (by have := hE9.lt; omega) (fun hs => by omega)) hle9
          replace hy := hy.trans (hF.below (B := W0.heap.size) (fun j hj => by omega) hy.size)
          clear scell sfr scall hF hE7
          obtain ⟨sA, sc, scell, sfr, scall⟩ := hE9.spoil hle9
          go_wp2_with fail
          refine scall.mono ?_
          rintro e z9 ⟨rfl, hF⟩
          replace hy := hy.trans (hF.below (B := W0.heap.size) (fun j hj => by omega) hy.size)
          clear scell sfr scall hF hE9
          go_wp2_with fail
          go_loopw [34, 36] (fun s i wr => s = .bool true ∧ ∃ k : Nat, k ≤ ls.length ∧ i = .int .i64 k ∧ Below W0.heap.size W0 wr) (fun _ i _ => ls.length - (intOf i).toNat)
          case atStart => exact ⟨rfl, 0, by omega, rfl, hy⟩
          case round =>
            obtain ⟨rfl, k, hk, rfl, hxr2⟩ := hrel
            by_cases hlt : k < ls.length
            · obtain ⟨⟨cp, cn⟩, hz, hO, hL, hP, h1⟩ := HK.out W0 hC0
              obtain ⟨b, off, B, cc, rfl, _, hb, hcel, hkl, hkc, hks⟩ := pat_at hO hlt
              obtain ⟨b', off', B', cc', rfl, _, hb', hcel', hkl', hkc', hks'⟩ := pat_at hL hlt
              have HC : ∀ wx, Below W0.heap.size W0 wx → wx.cell? ⟨b, off + k, none⟩ = some (.slice B ls[k].length cc) ∧ wx.cell? ⟨b', off' + k, none⟩ = some (.slice B' ls[k].length cc') := fun wx hx =>
                ⟨(hcel.keep (Kp.of_below hx) (Nat.zero_le _) (by omega)).1, (hcel'.keep (Kp.of_below hx) (Nat.zero_le _) (by omega)).1⟩
              have K1 : ∀ wx, Below W0.heap.size W0 wx → Calls Try.prog 16 #[.agg #[.slice B ls[k].length cc], .agg #[.slice B' ls[k].length cc']] wx fun e w' => e = .returned (.bool true) ∧ Below W0.heap.size W0 w' := by
                intro wx hx
                have hs := hx.size
                refine (like_same (ns := ls[k]) hkl hkc (by omega) (show w.heap.size ≤ _ by omega) (hks.below vNd_good hx (Nat.le_refl _)) (hks'.below vNd_good hx hws)).mono ?_
                rintro e w' ⟨rfl, hy⟩
                exact ⟨rfl, hx.trans (hy.mono hs)⟩
              have hd : Below W0.heap.size W0 wr.drew := below_drewN hxr2 1
              generalize ls[k] = x at *
              have HC := Lib.hid HC
              have K1 := Lib.hid K1
              clear hcel hcel' hks hks' hO hL hP h1 cp cn
              go_upto_region 33 with (fail)
              refine wp_region_class (fun wx => Below W0.heap.size W0 wx) (by kernel_rfl) (by kernel_rfl) hd ?_
              repeat (first
                | go_big_quiet_skip
                | (go_big_quiet_want; go_big_quiet_op; first
                    | go_big_quiet_on
                    | (apply Exists.intro
                       refine ⟨fun wx hx => ?_, ?_⟩
                       · (first
                          | exact rfl
                          | (have e1 := (HC.out wx hx).1; simp only [e1, Result.andThen]; exact ⟨trivial, rfl⟩)
                          | (have e1 := (HC.out wx hx).2; simp only [e1, Result.andThen]; exact ⟨trivial, rfl⟩)
                          | (go_at_call_of 16 (Value.agg #[Value.slice B x.length cc]); exact K1.out wx hx))
                       go_big_quiet_on)))
              refine wpQuiet_nil ?_
              intro wq hq
              clear HC K1
              go_wp2_with fail
              exact ⟨⟨rfl, k + 1, by omega, by go_num, hq⟩, by simp [intOf]; omega⟩
            · obtain rfl : k = ls.length := by omega
              obtain ⟨⟨cp, cn⟩, hz, _, _, hP, h1⟩ := HK.out wr hxr2
              go_wp2_with fail
              refine (like_same hco hcom hz (by omega) h1 hP).mono ?_
              rintro e w' ⟨rfl, hy⟩
              have hfin := hBw.trans ((hxr2.trans (hy.mono hxr2.size)).mono hws)
              clear cp cn hP h1
              go_wp2_with fail
              go_ret
              exact ⟨rfl, hfin⟩
end Go.Proofs.Ytlanjpickjndlaa
