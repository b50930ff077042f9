/- PatternBack: for every alphabet, pattern and text, what is written is read as the same pattern in its one numbering, and what is read is written again, byte by byte, and may be. Conditions: the arguments are together of bulk at most 1048576 (the second form); unicode/utf8's two tables are as their text lays them (the card ties them). -/
import Derived.Test.YtimhlnndobfehaaDoorPn09
import Derived.Test.YtimhlnndobfehaaDoorPn10
import Derived.Test.YtimhlnndobfehaaDoorPb01
import Derived.Test.YtimhlnndobfehaaDoorCards
import Derived.Test.YtimhlnndobfehaaDoorTie
import Derived.Test.YtimhlnndobfehaaDoorMc02
import Derived.Test.YtimhlnndobfehaaDoorMc39
namespace Go.Proofs.YtimhlnndobfehaaDoor
open Go.RowKit
open Go.Lib (Utf8Tabs)
set_option linter.unusedVariables false

/-- An alphabet in its box, patterns in theirs. -/
structure BkSt (W : World) (g : Nat) (A1 : Option Addr) (c1 : Nat) (A2 : Option Addr) (c2 : Nat) (a : Al) (l : List (Nat × Option Addr × Nat × List Nd)) (w : World) : Prop where
  row : Row w g 25 [.slice A1 a.feats.length c1, .slice A2 a.lets.length c2]
  hin : AlIn w 0 w.heap.size A1 A2 a
  tabs : Utf8Tabs 0 1 w
  hd : HdSt W l w
section
variable {W w w' : World} {g c1 c2 : Nat} {A1 A2 : Option Addr} {a : Al} {l : List (Nat × Option Addr × Nat × List Nd)}
theorem BkSt.on (h : BkSt W g A1 c1 A2 c2 a l w) (hb : Below w.heap.size w w') : BkSt W g A1 c1 A2 c2 a l w' := ⟨h.row.below hb h.row.lt, h.hin.on hb, Utf8Tabs_below h.tabs hb, h.hd.on hb⟩
theorem BkSt.push (h : BkSt W g A1 c1 A2 c2 a l w) {A : Option Addr} {c : Nat} {ns : List Nd} (hs : Sl 5 vNd w 0 w.heap.size A ns) (h1 : ns.length ≤ c) (h2 : c ≤ maxLen) : BkSt W g A1 c1 A2 c2 a ((w.heap.size, A, c, ns) :: l) (w.alloc (.cells #[.slice A ns.length c] 28)) :=
  ⟨h.row.alloc _, h.hin.on ((Below.refl _ _).alloc (Nat.le_refl _) _), Utf8Tabs_below h.tabs ((Below.refl _ _).alloc (Nat.le_refl _) _), h.hd.push hs h1 h2⟩
theorem BkSt.al (h : BkSt W g A1 c1 A2 c2 a l w) : w.cell? ⟨g, 0, none⟩ = some (.slice A1 a.feats.length c1) ∧ w.cell? ⟨g, 1, none⟩ = some (.slice A2 a.lets.length c2) ∧ g < w.heap.size := ⟨(h.row.cel (i := 0) rfl).1, (h.row.cel (i := 1) rfl).1, h.row.lt⟩
theorem BkSt.text (h : BkSt W g A1 c1 A2 c2 a l w) {g' c : Nat} {A : Option Addr} {ns : List Nd} (hd : Hd w g' A c ns) : Calls Tryd.prog 12 #[.agg #[.slice A1 a.feats.length c1, .slice A2 a.lets.length c2], .agg #[.slice A ns.length c]] w (StrOut (ptextS a ns) w) :=
  ptext_any A1 A2 A c1 c2 c a ns w h.hin hd.sl (by have := hd.c1; have := hd.c2; unfold maxLen at this; omega)
theorem BkSt.check (h : BkSt W g A1 c1 A2 c2 a l w) {g' c : Nat} {A : Option Addr} {ns : List Nd} (hd : Hd w g' A c ns) : Calls Tryd.prog 15 #[.agg #[.slice A1 a.feats.length c1, .slice A2 a.lets.length c2], .agg #[.slice A ns.length c]] w fun e w' => e = .returned (.int .i64 (patE a ns)) ∧ Below w.heap.size w w' :=
  pcheck_any A1 A2 A c1 c2 c 0 a ns w h.hin hd.sl (by have := hd.c1; have := hd.c2; unfold maxLen at this; omega)
theorem BkSt.parse (h : BkSt W g A1 c1 A2 c2 a l w) {s : ByteArray} (hs : s.size ≤ maxLen) {ns : List Nd} {q : Nat} {E : Int} (hp : parseS a s = (ns, q, E)) : Calls Tryd.prog 13 #[.agg #[.slice A1 a.feats.length c1, .slice A2 a.lets.length c2], .string s] w fun e w' =>
    ∃ A c, e = .returned (.tuple #[.agg #[.slice A ns.length c], .int .i64 (q : Int), .int .i64 E]) ∧ Sl 5 vNd w' 0 w'.heap.size A ns ∧ ns.length ≤ c ∧ c ≤ maxLen ∧ Below w.heap.size w w' := by
  refine (pparse_any A1 A2 c1 c2 a s w h.hin h.tabs hs).mono ?_
  rintro e w' ⟨v, rfl, hr⟩
  rw [hp] at hr ⊢
  obtain ⟨A, c, rfl, k1, k2, k3, k4⟩ := held_res hr
  exact ⟨A, c, rfl, k1, k2, k3, k4⟩
end
theorem nodes_u32 {w : World} {A : Option Addr} {ns : List Nd} (h : Sl 5 vNd w 0 w.heap.size A ns) : ∀ x ∈ ns, 0 ≤ x.plus ∧ 0 ≤ x.minus := fun x hx => by
  obtain ⟨i, hi, rfl⟩ := List.getElem_of_mem hx
  obtain ⟨_, _, _, _, _, _, _, _, _, _, _, _, _, _, _, _, _, h3, h4⟩ := nd_at h hi
  exact ⟨(kin_u32 h3).1, (kin_u32 h4).1⟩
theorem text_size {a : Al} {ns : List Nd} (h : (ptextS a ns).2 = 0) : (ptextS a ns).1.size ≤ maxLen := by
  unfold ptextS at h ⊢
  by_cases h1 : patE a ns ≠ 0
  · rw [if_pos h1]; show 0 ≤ maxLen; exact Nat.zero_le _
  · rw [if_neg h1]
    by_cases h2 : 65536 < (txtN a ns ns.length 0).length
    · rw [if_pos h2]; show 0 ≤ maxLen; exact Nat.zero_le _
    · rw [if_neg h2]
      have : (ByteArray.mk (txtN a ns ns.length 0).toArray).size = (txtN a ns ns.length 0).length := by simp [ByteArray.size]
      unfold maxLen
      rw [this]
      omega
set_option maxHeartbeats 16000000 in
set_option maxRecDepth 100000 in
theorem pback_walk (A1 A2 Ap : Option Addr) (c1 c2 cp : Nat) (a : Al) (p : List Nd) (s : ByteArray) (w : World) (hin : AlIn w 0 w.heap.size A1 A2 a) (hT : Utf8Tabs 0 1 w) (hp1 : p.length ≤ cp) (hp2 : cp ≤ maxLen) (hp : Sl 5 vNd w 0 w.heap.size Ap p) (hs : s.size ≤ maxLen) :
    Calls Tryd.prog 3 #[.agg #[.slice A1 a.feats.length c1, .slice A2 a.lets.length c2], .agg #[.slice Ap p.length cp], .string s] w fun e w' => e = .returned (.bool true) ∧ Below w.heap.size w w' := by
  obtain ⟨W2, hW2⟩ : ∃ W2, W2 = (w.alloc (.cells #[.slice A1 a.feats.length c1, .slice A2 a.lets.length c2] 25)).alloc (.cells #[.slice Ap p.length cp] 28) := ⟨_, rfl⟩
  obtain ⟨g0, hg0⟩ : ∃ g, g = w.heap.size := ⟨_, rfl⟩
  have hb1 : Below w.heap.size w (w.alloc (.cells #[.slice A1 a.feats.length c1, .slice A2 a.lets.length c2] 25)) := (Below.refl _ _).alloc (Nat.le_refl _) _
  have hS1 : BkSt w g0 A1 c1 A2 c2 a [] (w.alloc (.cells #[.slice A1 a.feats.length c1, .slice A2 a.lets.length c2] 25)) := by
    rw [hg0]
    exact ⟨Row.new _ _ _, hin.on hb1, Utf8Tabs_below hT hb1, fun x hx => (by cases hx), hb1⟩
  have hS2 : BkSt w g0 A1 c1 A2 c2 a [(g0 + 1, Ap, cp, p)] W2 := by
    have h2 := hS1.push ((hp.below vNd_good hb1 (Nat.le_refl _)).wide vNd_good (Nat.le_refl _) hb1.size) hp1 hp2
    rw [World.size_alloc] at h2
    rw [hW2]
    rw [← hg0] at h2
    exact h2
  have HAL := Lib.hid (palive_any W2 hS2.tabs)
  have HS2 := Lib.hid hS2
  have hpm : p.length ≤ 9223372036854775807 := by unfold maxLen at hp2; omega
  have hn1 := hin.n1
  have hn2 := hin.n2
  have hu := Lib.hid (nodes_u32 hp)
  have hsm : s.size ≤ 9223372036854775807 := by unfold maxLen at hs; omega
  clear hb1 hS1 hS2 hp hT hin
  go_enter Tryd.func3, Tryd.ntmps3
  go_wp2_with fail
  rw [← hW2, ← hg0]
  clear hW2 hg0
  refine HAL.out.mono ?_
  rintro e w1 ⟨rfl, hb1⟩
  have HS1 := Lib.hid (HS2.out.on hb1)
  obtain ⟨ap, lp⟩ := HS1.out.hd.cl (g := g0 + 1) (A := Ap) (c := cp) (ns := p) (by simp)
  obtain ⟨aa, ab, la⟩ := HS1.out.al
  clear HAL hb1 HS2
  obtain ⟨w2, hw2⟩ : ∃ w2, w2 = w1.alloc (.cells #[.slice Ap p.length cp] 28) := ⟨_, rfl⟩
  have hb2 : Below w1.heap.size w1 w2 := by rw [hw2]; exact (Below.refl _ _).alloc (Nat.le_refl _) _
  have hl : Sl 1 vPat w2 0 w2.heap.size (some ⟨w1.heap.size, 0, none⟩) [p] := by
    have hd := (HS1.out.hd.at_ (g := g0 + 1) (A := Ap) (c := cp) (ns := p) (by simp))
    refine pats_one (c := cp) (by rw [hw2]; exact Row.new _ _ _) hp1 hp2 (hd.on hb2).sl
  have HLO := Lib.hid (plong_any _ 1 0 w2.heap.size [p] w2 (by simp) (Nat.le_refl _) hl)
  have HS := Lib.hid (HS1.out.on hb2)
  clear hl
  go_wp2_with fail
  rw [← hw2]
  refine HLO.out.mono ?_
  rintro e w3 ⟨b, rfl, rfl, hlong⟩
  obtain ⟨ap, lp⟩ := HS.out.hd.cl (g := g0 + 1) (A := Ap) (c := cp) (ns := p) (by simp)
  obtain ⟨aa, ab, la⟩ := HS.out.al
  clear HLO hb2 hw2 HS1
  cases b with
  | true =>
    go_wp2_with fail
    go_ret
    exact ⟨rfl, HS.out.hd.below⟩
  | false =>
    by_cases h1 : 3000 < s.size
    · go_wp2_with fail
      go_ret
      exact ⟨rfl, HS.out.hd.below⟩
    by_cases h2 : 300 < a.lets.length
    · go_wp2_with fail
      go_ret
      exact ⟨rfl, HS.out.hd.below⟩
    by_cases h3 : 60 < a.feats.length
    · go_wp2_with fail
      go_ret
      exact ⟨rfl, HS.out.hd.below⟩
    have CT := Lib.hid (HS.out.text (HS.out.hd.at_ (g := g0 + 1) (A := Ap) (c := cp) (ns := p) (by simp)))
    go_wp2_with fail
    refine CT.out.mono ?_
    rintro e w4 ⟨rfl, hb4⟩
    have HS4 := Lib.hid (HS.out.on hb4)
    obtain ⟨ap, lp⟩ := HS4.out.hd.cl (g := g0 + 1) (A := Ap) (c := cp) (ns := p) (by simp)
    obtain ⟨aa, ab, la⟩ := HS4.out.al
    clear HS CT hb4 hlong
    obtain ⟨t, F, htx⟩ : ∃ t F, ptextS a p = (t, F) := ⟨_, _, rfl⟩
    by_cases hF : F = 0
    · have hz : (ptextS a p).2 = 0 := by rw [htx]; exact hF
      obtain ⟨r1, r2⟩ := text_read hu.out hz
      have hts := text_size hz
      obtain ⟨k1, k2, k3⟩ := text_same r2
      rw [htx] at r1 hts ⊢
      simp only at r1 hts ⊢
      subst hF
      clear hz htx
      generalize sub p false p.length 0 0 = qs at *
      have K1 := Lib.hid k1
      have K2 := Lib.hid k2
      have CP := Lib.hid (HS4.out.parse hts r1)
      have K3 := Lib.hid k3
      clear k1 k2 k3 r1 r2
      go_wp2_with fail
      refine CP.out.mono ?_
      rintro e w5 ⟨A5, c5, rfl, s5, n5, m5, b5⟩
      have K5 := Lib.hid (HS4.out.on b5)
      obtain ⟨x5, hx5⟩ : ∃ x, x = w5.alloc (.cells #[.slice A5 qs.length c5] 28) := ⟨_, rfl⟩
      obtain ⟨g5, hg5⟩ : ∃ g, g = w5.heap.size := ⟨_, rfl⟩
      have HS5 := Lib.hid (show BkSt w g0 A1 c1 A2 c2 a [(g5, A5, c5, qs), (g0 + 1, Ap, cp, p)] x5 by rw [hx5, hg5]; exact K5.out.push s5 n5 m5)
      obtain ⟨ap, lp⟩ := K5.out.hd.cl (g := g0 + 1) (A := Ap) (c := cp) (ns := p) (by simp)
      have CS := Lib.hid ((HS5.out.hd.at_ (g := g0 + 1) (A := Ap) (c := cp) (ns := p) (by simp)).same (HS5.out.hd.at_ (g := g5) (A := A5) (c := c5) (ns := qs) (by simp)))
      rw [K1.out] at CS
      clear CP s5 b5 HS4 K5 aa ab la K1
      go_wp2_with fail
      rw [← hx5, ← hg5]
      clear hx5 hg5
      refine CS.out.mono ?_
      rintro e w6 ⟨rfl, b6⟩
      have HS6 := Lib.hid (HS5.out.on b6)
      obtain ⟨aa, ab, la⟩ := HS6.out.al
      obtain ⟨a5, l5⟩ := HS6.out.hd.cl (g := g5) (A := A5) (c := c5) (ns := qs) (by simp)
      have CC := Lib.hid (HS6.out.check (HS6.out.hd.at_ (g := g5) (A := A5) (c := c5) (ns := qs) (by simp)))
      rw [K2.out] at CC
      clear HS5 b6 CS ap lp K2
      go_wp2_with fail
      refine CC.out.mono ?_
      rintro e w7 ⟨rfl, b7⟩
      have HS7 := Lib.hid (HS6.out.on b7)
      obtain ⟨aa, ab, la⟩ := HS7.out.al
      obtain ⟨a5, l5⟩ := HS7.out.hd.cl (g := g5) (A := A5) (c := c5) (ns := qs) (by simp)
      obtain ⟨ap, lp⟩ := HS7.out.hd.cl (g := g0 + 1) (A := Ap) (c := cp) (ns := p) (by simp)
      rw [K3.out] at a5
      clear HS6 b7 CC K3
      obtain ⟨ns, q, E, hpar⟩ : ∃ ns q E, parseS a s = (ns, q, E) := ⟨_, _, _, rfl⟩
      have CP := Lib.hid (HS7.out.parse hs hpar)
      go_wp2_with fail
      refine CP.out.mono ?_
      rintro e w8 ⟨Aq, cq, rfl, sq, nq, mq, bq⟩
      have KQ := Lib.hid (HS7.out.on bq)
      obtain ⟨xq, hxq⟩ : ∃ x, x = w8.alloc (.cells #[.slice Aq ns.length cq] 28) := ⟨_, rfl⟩
      obtain ⟨gq, hgq⟩ : ∃ g, g = w8.heap.size := ⟨_, rfl⟩
      have HQ := Lib.hid (show BkSt w g0 A1 c1 A2 c2 a ((gq, Aq, cq, ns) :: [(g5, A5, c5, qs), (g0 + 1, Ap, cp, p)]) xq by rw [hxq, hgq]; exact KQ.out.push sq nq mq)
      obtain ⟨aa, ab, la⟩ := KQ.out.al
      clear CP sq bq HS7
      by_cases hE : E = 0
      · have hz : (parseS a s).2.2 = 0 := by rw [hpar]; exact hE
        obtain ⟨r1, r2, r3⟩ := read_text hz
        rw [hpar] at r1 r2 r3
        simp only at r1 r2 r3
        subst r1
        subst hE
        have CT := Lib.hid (HQ.out.text (HQ.out.hd.at_ (g := gq) (A := Aq) (c := cq) (ns := ns) (by simp)))
        rw [r3] at CT
        have R2 := Lib.hid r2
        clear r2 r3 hz hpar KQ
        go_wp2_with fail
        rw [← hxq]
        refine CT.out.mono ?_
        rintro e wz ⟨rfl, bz⟩
        rw [← hgq]
        have HZ := Lib.hid (HQ.out.on bz)
        have CC := Lib.hid (HZ.out.check (HZ.out.hd.at_ (g := gq) (A := Aq) (c := cq) (ns := ns) (by simp)))
        rw [R2.out] at CC
        obtain ⟨aa, ab, la⟩ := HZ.out.al
        obtain ⟨aq, lq⟩ := HZ.out.hd.cl (g := gq) (A := Aq) (c := cq) (ns := ns) (by simp)
        clear bz HQ CT hxq hgq R2
        go_wp2_with fail
        refine CC.out.mono ?_
        rintro e wy ⟨rfl, dy⟩
        have HB := Lib.hid (HZ.out.on dy).hd.below
        clear dy HZ CC aa ab la aq lq
        go_wp2_with fail
        go_ret
        exact ⟨rfl, HB.out⟩
      · have hz : (parseS a s).2.2 ≠ 0 := by rw [hpar]; exact hE
        obtain ⟨r1, r2⟩ := read_wrong hz
        rw [hpar] at r1 r2
        simp only at r1 r2
        subst r1
        have hne : (E != 0) = true := by rw [bne_iff_ne]; exact hE
        have j1 : 0 ≤ (q : Int) := by omega
        have j2 : (q : Int) ≤ (s.size : Int) := by omega
        have HB := Lib.hid HQ.out.hd.below
        have hxq : xq = w8.alloc (.cells #[.slice Aq 0 cq] 28) := by rw [hxq]; rfl
        clear hz hpar KQ HQ
        go_wp2_with fail
        go_ret
        refine ⟨rfl, ?_⟩
        rw [← hxq]
        exact HB.out
    · rw [htx]
      simp only
      have hne : (F == 0) = false := by rw [beq_eq_false_iff_ne]; exact hF
      clear htx hu
      obtain ⟨ns, q, E, hpar⟩ : ∃ ns q E, parseS a s = (ns, q, E) := ⟨_, _, _, rfl⟩
      have CP := Lib.hid (HS4.out.parse hs hpar)
      go_wp2_with fail
      refine CP.out.mono ?_
      rintro e w8 ⟨Aq, cq, rfl, sq, nq, mq, bq⟩
      have KQ := Lib.hid (HS4.out.on bq)
      obtain ⟨xq, hxq⟩ : ∃ x, x = w8.alloc (.cells #[.slice Aq ns.length cq] 28) := ⟨_, rfl⟩
      obtain ⟨gq, hgq⟩ : ∃ g, g = w8.heap.size := ⟨_, rfl⟩
      have HQ := Lib.hid (show BkSt w g0 A1 c1 A2 c2 a ((gq, Aq, cq, ns) :: [(g0 + 1, Ap, cp, p)]) xq by rw [hxq, hgq]; exact KQ.out.push sq nq mq)
      obtain ⟨aa, ab, la⟩ := KQ.out.al
      clear CP sq bq HS4
      by_cases hE : E = 0
      · have hz : (parseS a s).2.2 = 0 := by rw [hpar]; exact hE
        obtain ⟨r1, r2, r3⟩ := read_text hz
        rw [hpar] at r1 r2 r3
        simp only at r1 r2 r3
        subst r1
        subst hE
        have CT := Lib.hid (HQ.out.text (HQ.out.hd.at_ (g := gq) (A := Aq) (c := cq) (ns := ns) (by simp)))
        rw [r3] at CT
        have R2 := Lib.hid r2
        clear r2 r3 hz hpar KQ
        go_wp2_with fail
        rw [← hxq]
        refine CT.out.mono ?_
        rintro e wz ⟨rfl, bz⟩
        rw [← hgq]
        have HZ := Lib.hid (HQ.out.on bz)
        have CC := Lib.hid (HZ.out.check (HZ.out.hd.at_ (g := gq) (A := Aq) (c := cq) (ns := ns) (by simp)))
        rw [R2.out] at CC
        obtain ⟨aa, ab, la⟩ := HZ.out.al
        obtain ⟨aq, lq⟩ := HZ.out.hd.cl (g := gq) (A := Aq) (c := cq) (ns := ns) (by simp)
        clear bz HQ CT hxq hgq R2
        go_wp2_with fail
        refine CC.out.mono ?_
        rintro e wy ⟨rfl, dy⟩
        have HB := Lib.hid (HZ.out.on dy).hd.below
        clear dy HZ CC aa ab la aq lq
        go_wp2_with fail
        go_ret
        exact ⟨rfl, HB.out⟩
      · have hz : (parseS a s).2.2 ≠ 0 := by rw [hpar]; exact hE
        obtain ⟨r1, r2⟩ := read_wrong hz
        rw [hpar] at r1 r2
        simp only at r1 r2
        subst r1
        have hne : (E != 0) = true := by rw [bne_iff_ne]; exact hE
        have j1 : 0 ≤ (q : Int) := by omega
        have j2 : (q : Int) ≤ (s.size : Int) := by omega
        have HB := Lib.hid HQ.out.hd.below
        have hxq : xq = w8.alloc (.cells #[.slice Aq 0 cq] 28) := by rw [hxq]; rfl
        clear hz hpar KQ HQ
        go_wp2_with fail
        go_ret
        refine ⟨rfl, ?_⟩
        rw [← hxq]
        exact HB.out
end Go.Proofs.YtimhlnndobfehaaDoor
namespace Go.Proofs.YtimhlnndobfehaaDoor.patternBack
open Go.ChangeShapes Go.WideShapes Go.ChangeAt Go.RowKit
set_option linter.unusedVariables false

set_option maxRecDepth 100000 in
theorem contract (H : Type) (enc : TypeId × Value → H) (W : World) (base : Nat) (args : Array Value) (ds gs : List (DataW H)) (before : List MemPlace)
    (hval : ∀ (j : Nat) t v, Tryd.f3.params[j]? = some t → args[j]? = some v → Value.okWide Tryd.prog W .any base t v)
    (hW : DataW.Whole enc Tryd.prog Tryd.f3.params.toList Rows.patternBackSpec.vars false W args.toList ds gs before) (hL : laidMetH Tryd.prog utf8List W) :
    Calls Tryd.prog 3 args W fun e W' => ∃ v, e = .returned v ∧ Rows.patternBackSpec.post enc Tryd.prog Tryd.f3 false true false false W args v W' := by
  have hW' := hW
  have hfr := free_of_whole hW
  obtain ⟨p, q, hA0, hV, rfl, hfz, hnd⟩ := hW
  have hA : DataW.TrodAll enc Tryd.prog W 0 (fun _ => true) true Tryd.f3.params.toList args.toList ds p := hA0
  rw [Tryd.params3] at hA hval
  obtain ⟨v0, vs0, d0, ds0, p0, q0, hargs, rfl, rfl, h0, r0⟩ := trodAll_cons hA
  obtain ⟨v1, vs1, d1, ds1, p1, q1, rfl, rfl, rfl, h1, r1⟩ := trodAll_cons r0
  obtain ⟨v2, vs2, d2, ds2, p2, q2, rfl, rfl, rfl, h2, r2⟩ := trodAll_cons r1
  obtain ⟨rfl, rfl, rfl⟩ := trodAll_nil r2
  obtain rfl : args = #[v0, v1, v2] := by cases args; simp_all
  obtain ⟨rfl, rfl⟩ := trodVars_none hV
  obtain ⟨cs0, a, rfl, hva, _, _⟩ := (opens_Al (enc := enc) (w := W)).struct_arg Tryd.underlying25 (hval 0 25 v0 rfl rfl) h0 hfr.left.left
  obtain ⟨A1a, c1a, A2a, c2a, hcs0, ha⟩ := al_cells hva
  obtain rfl : cs0 = #[.slice A1a a.feats.length c1a, .slice A2a a.lets.length c2a] := by cases cs0; simp_all
  obtain ⟨cs1, u, rfl, hvu, _, hqu⟩ := (opens_Pat (enc := enc) (w := W)).struct_arg Tryd.underlying28 (hval 1 28 v1 rfl rfl) h1 hfr.left.right.left
  obtain ⟨Au, cu, hcs1, hlcu, hcmu, hu⟩ := hvu
  obtain rfl : cs1 = #[.slice Au u.length cu] := by cases cs1; simp_all
  obtain ⟨x, rfl, hx, _, _⟩ := Opens.str_arg Tryd.underlying9 (hval 2 9 v2 rfl rfl) h2
  refine (pback_walk A1a A2a Au c1a c2a cu a u x W ha (tabs_laid hL) hlcu hcmu hu hx).mono fun e W' ⟨he, hb⟩ => ?_
  subst he
  exact ⟨_, rfl, post_true laidOut (by rw [Tryd.params3]; intro t ht; simp only [List.mem_cons, List.not_mem_nil, or_false] at ht; rcases ht with rfl | rfl | rfl <;> exact ⟨by kernel_rfl, of_decide_eq_true (by kernel_rfl)⟩) (by kernel_rfl) Tryd.underlying4 rfl ⟨rfl, rfl, rfl⟩ hW' hb⟩

theorem reads (os : Os) {H : Type} (enc : TypeId × Value → H) : ∃ places, DataW.whole enc Tryd.prog ((laidWorld os).forCall (fun _ _ => 0) ⟨#[], #[.agg #[.slice none 0 0, .slice none 0 0], .agg #[.slice none 0 0], .string ⟨#[]⟩], []⟩).memory Tryd.f3.params.toList Rows.patternBackSpec.vars false #[Value.agg #[.slice none 0 0, .slice none 0 0], .agg #[.slice none 0 0], .string ⟨#[]⟩].toList 8 = some ([.agg [.nil, .nil], .agg [.nil], .lit (.string [])], [], places) :=
  ⟨[], by kernel_rfl⟩

set_option maxRecDepth 100000 in
theorem lifted (os : Os) (started : os.Started) (H : Type) (enc : TypeId × Value → H) (F : Stop.Interp) :
    ReturnsInHanded {} Tryd.checked os 3 .any ((Rows.OpenSpec.upto Rows.patternBackSpec).preRow enc Tryd.prog Tryd.f3 Rows.patternBackUptoRow.domain false Rows.patternBackUptoRow.laid) (((Rows.OpenSpec.upto Rows.patternBackSpec).at F).post enc Tryd.prog Tryd.f3 false true false false) := by
  obtain ⟨places, hx⟩ := reads os enc
  refine returnsInHanded_of_row (C := Tryd.checked) (s := Rows.OpenSpec.upto Rows.patternBackSpec) own started (by kernel_rfl) Tryd.func3
    (witness_row_at (enc := enc) (C := Tryd.checked) false (laidWorld os) #[.agg #[.slice none 0 0, .slice none 0 0], .agg #[.slice none 0 0], .string ⟨#[]⟩] rfl (by kernel_rfl) (by kernel_rfl) (by kernel_rfl)
      (OpenSpec.preRow_of_cond 8 hx (by kernel_rfl) (fun k hk => by cases hk; kernel_rfl) (by kernel_rfl) (laid_met os _))) ?_
  intro W base args ds gs before hval hW _ _ _ hL _ _
  exact contract H enc W base args ds gs before hval hW hL

theorem said : Rows.PatternBackUptoSaid :=
  OpenClaim.holds_of_cond 3 Tryd.f3 rfl rfl rfl rfl rfl rfl rfl ⟨rfl, rfl, rfl, rfl, rfl⟩ rfl rfl rfl rfl rfl (by kernel_rfl) Tryd.func3 (by kernel_rfl)
    (of_decide_eq_true (by kernel_rfl)) (by unfold Func.isWrapper; first | (rw [if_pos (by decide +kernel)]; kernel_rfl) | (rw [if_neg (by decide +kernel)]; exact ⟨rfl, rfl⟩))
    (fun os started H enc _ F => by rw [OpenClaim.pre_eq_preRow]; exact lifted os started H enc F)

/-- No parameter wants a stand-in; whether the program looks. -/
theorem plain (f : FuncId) (fn : Func) (hf : Tryd.pinned.checked.prog.funcNamed "cognate/cognatelaw04.PatternBack" = some f) (hfn : Tryd.pinned.checked.prog.funcs[f]? = some fn) :
    true = Tryd.pinned.checked.prog.looks [] ∧ ∀ (j : Nat) t, fn.params[j]? = some t → Tryd.pinned.checked.prog.wantsStandIn t = false := by
  obtain rfl : f = 3 := Option.some.inj ((show Tryd.prog.funcNamed "cognate/cognatelaw04.PatternBack" = some 3 by kernel_rfl).symm.trans hf) |>.symm
  obtain rfl : fn = Tryd.f3 := (Option.some.inj (Tryd.func3.symm.trans hfn)).symm
  refine ⟨by kernel_rfl, fun j t ht => ?_⟩
  rw [Tryd.params3] at ht
  have hm := Array.mem_of_getElem? ht
  simp only [List.mem_toArray, List.mem_cons, List.not_mem_nil, or_false] at hm
  rcases hm with rfl | rfl | rfl
  · exact (show Tryd.prog.wantsStandIn 25 = false by kernel_rfl)
  · exact (show Tryd.prog.wantsStandIn 28 = false by kernel_rfl)
  · exact (show Tryd.prog.wantsStandIn 9 = false by kernel_rfl)

theorem proved : Rows.PatternBackUptoCardSaid :=
  Claim7.holds_tied_plain_at .later [] _ _ _ _ said (fun _ h => by cases h) (by kernel_rfl) (fun _ h => by cases h) patternBackUpto_row_tie rfl ⟨rfl, rfl⟩ (by kernel_rfl) rfl plain (by kernel_rfl)
#print axioms proved
end Go.Proofs.YtimhlnndobfehaaDoor.patternBack
