/- PatternTurns: for every two patterns, what is turned twice is the same, a sequence turned is that of what was turned, the last one first, and what is put together is numbered as one goes through it. Conditions: the arguments are together of bulk at most 1048576 (the second form); unicode/utf8's two tables are as their text lays them (the card ties them). -/
import Derived.Test.YtimhlnndobfehaaDoorPn09
import Derived.Test.YtimhlnndobfehaaDoorPn10
import Derived.Test.YtimhlnndobfehaaDoorPt01
import Derived.Test.YtimhlnndobfehaaDoorCards
import Derived.Test.YtimhlnndobfehaaDoorTie
import Derived.Test.YtimhlnndobfehaaDoorMc02
import Derived.Test.YtimhlnndobfehaaDoorMc39
namespace Go.Proofs.YtimhlnndobfehaaDoor
open Go.RowKit
open Go.Lib (Utf8Tabs)
set_option linter.unusedVariables false

section
variable {w : World} {g c : Nat} {A : Option Addr} {p : List Nd}
theorem Hd.numb (h : Hd w g A c p) (hm : p.length ≤ 1000) (hk : ∀ x ∈ p, x.kids.length ≤ 1000) (hn : numB p = true) : Calls Tryd.prog 23 #[.agg #[.slice A p.length c]] w fun e w' => e = .returned (.bool true) ∧ Below w.heap.size w w' :=
  numb_any A c p w h.sl hm hk hn
end
theorem pats_seq {w : World} {g : Nat} {p q : List Nd} (hl : Sl 1 vPat w 0 w.heap.size (some ⟨g, 0, none⟩) [p, q]) : Calls Tryd.prog 18 #[.slice (some ⟨g, 0, none⟩) 2 2] w fun e w' => ∃ v, e = .returned (.tuple #[v, .int .i64 (madeE [p, q])]) ∧ PatRes w w' v (madeN 6 [p, q]) :=
  seq_any (some ⟨g, 0, none⟩) 2 0 w.heap.size [p, q] w (by simp) (Nat.le_refl _) hl
theorem pats_or {w : World} {g : Nat} {p q : List Nd} (hl : Sl 1 vPat w 0 w.heap.size (some ⟨g, 0, none⟩) [p, q]) : Calls Tryd.prog 22 #[.slice (some ⟨g, 0, none⟩) 2 2] w fun e w' => ∃ v, e = .returned (.tuple #[v, .int .i64 (madeE [p, q])]) ∧ PatRes w w' v (madeN 7 [p, q]) :=
  or_any (some ⟨g, 0, none⟩) 2 0 w.heap.size [p, q] w (by simp) (Nat.le_refl _) hl
set_option maxHeartbeats 8000000 in
set_option maxRecDepth 100000 in
theorem pturns_walk (Ap Aq : Option Addr) (cp cq : Nat) (p q : List Nd) (w : World) (hT : Utf8Tabs 0 1 w) (hp1 : p.length ≤ cp) (hp2 : cp ≤ maxLen) (hp : Sl 5 vNd w 0 w.heap.size Ap p) (hq1 : q.length ≤ cq) (hq2 : cq ≤ maxLen) (hq : Sl 5 vNd w 0 w.heap.size Aq q) :
    Calls Tryd.prog 5 #[.agg #[.slice Ap p.length cp], .agg #[.slice Aq q.length cq]] w fun e w' => e = .returned (.bool true) ∧ Below w.heap.size w w' := by
  obtain ⟨W2, hW2⟩ : ∃ W2, W2 = (w.alloc (.cells #[.slice Ap p.length cp] 28)).alloc (.cells #[.slice Aq q.length cq] 28) := ⟨_, rfl⟩
  obtain ⟨g1, hg1⟩ : ∃ g, g = w.heap.size := ⟨_, rfl⟩
  have hS0 : HdSt w [] w := ⟨fun x hx => (by cases hx), Below.refl _ _⟩
  have hb1 : Below w.heap.size w (w.alloc (.cells #[.slice Ap p.length cp] 28)) := (Below.refl _ _).alloc (Nat.le_refl _) _
  have hS2 : HdSt w [(g1 + 1, Aq, cq, q), (g1, Ap, cp, p)] W2 := by
    have h1 := hS0.push hp hp1 hp2
    have h2 := h1.push ((hq.below vNd_good hb1 (Nat.le_refl _)).wide vNd_good (Nat.le_refl _) hb1.size) hq1 hq2
    rw [World.size_alloc] at h2
    rw [hW2, hg1]
    exact h2
  have HAL := Lib.hid (palive_any W2 (Utf8Tabs_below hT hS2.below))
  have HS2 := Lib.hid hS2
  have hpm : p.length ≤ 9223372036854775807 := by unfold maxLen at hp2; omega
  have hqm : q.length ≤ 9223372036854775807 := by unfold maxLen at hq2; omega
  clear hS0 hb1 hS2 hp hq hT
  go_enter Tryd.func5, Tryd.ntmps5
  go_wp2_with fail
  rw [← hW2, ← hg1]
  clear hW2 hg1
  refine HAL.out.mono ?_
  rintro e w1 ⟨rfl, hb1⟩
  have HS1 := Lib.hid (HS2.out.on hb1)
  obtain ⟨a_1, l_1⟩ := HS1.out.cl (g := g1) (A := Ap) (c := cp) (ns := p) (by simp)
  obtain ⟨a_2, l_2⟩ := HS1.out.cl (g := g1 + 1) (A := Aq) (c := cq) (ns := q) (by simp)
  clear HAL hb1 HS2
  go_wp2_with fail
  obtain ⟨w2, hw2⟩ : ∃ w2, w2 = w1.alloc (.cells #[.slice Ap p.length cp, .slice Aq q.length cq] 28) := ⟨_, rfl⟩
  have hb2 : Below w1.heap.size w1 w2 := by rw [hw2]; exact (Below.refl _ _).alloc (Nat.le_refl _) _
  have hl := (HS1.out.at_ (g := g1) (A := Ap) (c := cp) (ns := p) (by simp)).list (HS1.out.at_ (g := g1 + 1) (A := Aq) (c := cq) (ns := q) (by simp))
  rw [← hw2] at hl ⊢
  have HS := Lib.hid (HS1.out.on hb2)
  refine (plong_any _ 2 0 w2.heap.size [p, q] w2 (by simp) (Nat.le_refl _) hl).mono ?_
  rintro e w3 ⟨b, rfl, rfl, hlong⟩
  clear hl hb2 hw2 a_1 a_2 l_1 l_2
  cases b with
  | true =>
    go_wp2_with fail
    go_ret
    exact ⟨rfl, HS.out.below⟩
  | false =>
    obtain ⟨a_1, l_1⟩ := HS.out.cl (g := g1) (A := Ap) (c := cp) (ns := p) (by simp)
    obtain ⟨a_2, l_2⟩ := HS.out.cl (g := g1 + 1) (A := Aq) (c := cq) (ns := q) (by simp)
    have C3 := Lib.hid (HS.out.at_ (g := g1) (A := Ap) (c := cp) (ns := p) (by simp)).turned
    go_wp2_with fail
    clear a_1 a_2 l_1 l_2
    refine C3.out.mono ?_
    rintro e w4 ⟨v4, rfl, hr4⟩
    obtain ⟨A4, c4, rfl, s4, n4, m4, b4⟩ := held_res hr4
    obtain ⟨x4, hx4⟩ : ∃ x, x = w4.alloc (.cells #[.slice A4 (turnedN p).length c4] 28) := ⟨_, rfl⟩
    obtain ⟨g104, hg4⟩ : ∃ g, g = w4.heap.size := ⟨_, rfl⟩
    have hz4 : x4.heap.size = g104 + 1 := by rw [hx4, hg4]; simp
    have K4 := Lib.hid (HS.out.on b4)
    obtain ⟨a_2, l_2⟩ := K4.out.cl (g := g1 + 1) (A := Aq) (c := cq) (ns := q) (by simp)
    have HS104 := Lib.hid (show HdSt w [(g104, A4, c4, turnedN p), (g1 + 1, Aq, cq, q), (g1, Ap, cp, p)] x4 by rw [hx4, hg4]; exact K4.out.push s4 n4 m4)
    clear hr4 s4 b4 K4
    clear C3 HS
    go_wp2_with fail
    rw [← hx4, ← hg4]
    clear hx4 hg4 hz4 a_2 l_2
    refine (HS104.out.at_ (g := g1 + 1) (A := Aq) (c := cq) (ns := q) (by simp)).turned.mono ?_
    rintro e w5 ⟨v5, rfl, hr5⟩
    obtain ⟨A5, c5, rfl, s5, n5, m5, b5⟩ := held_res hr5
    obtain ⟨x5, hx5⟩ : ∃ x, x = w5.alloc (.cells #[.slice A5 (turnedN q).length c5] 28) := ⟨_, rfl⟩
    obtain ⟨g105, hg5⟩ : ∃ g, g = w5.heap.size := ⟨_, rfl⟩
    have hz5 : x5.heap.size = g105 + 1 := by rw [hx5, hg5]; simp
    have K5 := Lib.hid (HS104.out.on b5)
    obtain ⟨a_1, l_1⟩ := K5.out.cl (g := g1) (A := Ap) (c := cp) (ns := p) (by simp)
    obtain ⟨a_2, l_2⟩ := K5.out.cl (g := g1 + 1) (A := Aq) (c := cq) (ns := q) (by simp)
    have HS105 := Lib.hid (show HdSt w [(g105, A5, c5, turnedN q), (g104, A4, c4, turnedN p), (g1 + 1, Aq, cq, q), (g1, Ap, cp, p)] x5 by rw [hx5, hg5]; exact K5.out.push s5 n5 m5)
    clear hr5 s5 b5 K5
    clear HS104
    obtain ⟨ys, hys⟩ : ∃ y, y = x5.alloc (.cells #[.slice Ap (p).length cp, .slice Aq (q).length cq] 28) := ⟨_, rfl⟩
    have hls := (HS105.out.at_ (g := g1) (A := Ap) (c := cp) (ns := p) (by simp)).list (HS105.out.at_ (g := g1 + 1) (A := Aq) (c := cq) (ns := q) (by simp))
    rw [← hys, hz5] at hls
    have HLs := Lib.hid (HS105.out.on (show Below x5.heap.size x5 ys by rw [hys]; exact (Below.refl _ _).alloc (Nat.le_refl _) _))
    have Cs := Lib.hid (pats_seq hls)
    rw [hx5] at hys
    clear hls
    go_wp2_with fail
    rw [← hys, ← hg5]
    clear hys hx5 hg5 hz5 HS105
    clear a_1 l_1 a_2 l_2
    refine Cs.out.mono ?_
    rintro e w6 ⟨v6, rfl, hr6⟩
    obtain ⟨A6, c6, rfl, s6, n6, m6, b6⟩ := held_res hr6
    obtain ⟨x6, hx6⟩ : ∃ x, x = w6.alloc (.cells #[.slice A6 (madeN 6 [p, q]).length c6] 28) := ⟨_, rfl⟩
    obtain ⟨g106, hg6⟩ : ∃ g, g = w6.heap.size := ⟨_, rfl⟩
    have hz6 : x6.heap.size = g106 + 1 := by rw [hx6, hg6]; simp
    have K6 := Lib.hid (HLs.out.on b6)
    obtain ⟨a_1, l_1⟩ := K6.out.cl (g := g1) (A := Ap) (c := cp) (ns := p) (by simp)
    obtain ⟨a_2, l_2⟩ := K6.out.cl (g := g1 + 1) (A := Aq) (c := cq) (ns := q) (by simp)
    have HS106 := Lib.hid (show HdSt w [(g106, A6, c6, madeN 6 [p, q]), (g105, A5, c5, turnedN q), (g104, A4, c4, turnedN p), (g1 + 1, Aq, cq, q), (g1, Ap, cp, p)] x6 by rw [hx6, hg6]; exact K6.out.push s6 n6 m6)
    clear hr6 s6 b6 K6
    clear Cs HLs
    obtain ⟨yo, hyo⟩ : ∃ y, y = x6.alloc (.cells #[.slice Ap (p).length cp, .slice Aq (q).length cq] 28) := ⟨_, rfl⟩
    have hlo := (HS106.out.at_ (g := g1) (A := Ap) (c := cp) (ns := p) (by simp)).list (HS106.out.at_ (g := g1 + 1) (A := Aq) (c := cq) (ns := q) (by simp))
    rw [← hyo, hz6] at hlo
    have HLo := Lib.hid (HS106.out.on (show Below x6.heap.size x6 yo by rw [hyo]; exact (Below.refl _ _).alloc (Nat.le_refl _) _))
    have Co := Lib.hid (pats_or hlo)
    rw [hx6] at hyo
    clear hlo
    go_wp2_with fail
    rw [← hyo, ← hg6]
    clear hyo hx6 hg6 hz6 HS106
    clear a_1 l_1 a_2 l_2
    refine Co.out.mono ?_
    rintro e w7 ⟨v7, rfl, hr7⟩
    obtain ⟨A7, c7, rfl, s7, n7, m7, b7⟩ := held_res hr7
    have K := Lib.hid (HLo.out.on b7)
    obtain ⟨x7, hx7⟩ : ∃ x, x = w7.alloc (.cells #[.slice A7 (madeN 7 [p, q]).length c7] 28) := ⟨_, rfl⟩
    obtain ⟨g107, hg7⟩ : ∃ g, g = w7.heap.size := ⟨_, rfl⟩
    have HX := Lib.hid (show HdSt w [(g107, A7, c7, madeN 7 [p, q]), (g106, A6, c6, madeN 6 [p, q]), (g105, A5, c5, turnedN q), (g104, A4, c4, turnedN p), (g1 + 1, Aq, cq, q), (g1, Ap, cp, p)] x7 by rw [hx7, hg7]; exact K.out.push s7 n7 m7)
    clear Co HLo hr7 s7 b7
    by_cases htt : treeB p = true ∧ treeB q = true
    · obtain ⟨ht1, ht2⟩ := htt
      have OK := Lib.hid (turns_ok ht1 ht2)
      have TW := Lib.hid (fun h => turns_two ht1 ht2 h)
      have TM := Lib.hid (fun h => two_many ht1 ht2 h)
      clear ht1 ht2
      rw [OK.out.e1, OK.out.e2]
      have C8 := Lib.hid (HX.out.at_ (g := g104) (A := A4) (c := c4) (ns := turnedN p) (by simp)).turned
      rw [OK.out.e3] at C8
      obtain ⟨a_T, l_T⟩ := K.out.cl (g := g104) (A := A4) (c := c4) (ns := turnedN p) (by simp)
      clear K
      go_wp2_with fail
      rw [← hx7, ← hg7]
      clear hx7 hg7 a_T l_T
      refine C8.out.mono ?_
      rintro e w8 ⟨v8, rfl, hr8⟩
      obtain ⟨A8, c8, rfl, s8, n8, m8, b8⟩ := held_res hr8
      obtain ⟨x8, hx8⟩ : ∃ x, x = w8.alloc (.cells #[.slice A8 (turnedN (turnedN p)).length c8] 28) := ⟨_, rfl⟩
      obtain ⟨g108, hg8⟩ : ∃ g, g = w8.heap.size := ⟨_, rfl⟩
      have hz8 : x8.heap.size = g108 + 1 := by rw [hx8, hg8]; simp
      have K8 := Lib.hid (HX.out.on b8)
      obtain ⟨a_1, l_1⟩ := K8.out.cl (g := g1) (A := Ap) (c := cp) (ns := p) (by simp)
      obtain ⟨a_T, l_T⟩ := K8.out.cl (g := g104) (A := A4) (c := c4) (ns := turnedN p) (by simp)
      have HS108 := Lib.hid (show HdSt w [(g108, A8, c8, turnedN (turnedN p)), (g107, A7, c7, madeN 7 [p, q]), (g106, A6, c6, madeN 6 [p, q]), (g105, A5, c5, turnedN q), (g104, A4, c4, turnedN p), (g1 + 1, Aq, cq, q), (g1, Ap, cp, p)] x8 by rw [hx8, hg8]; exact K8.out.push s8 n8 m8)
      clear hr8 s8 b8 K8
      clear C8 HX
      have C9 := Lib.hid ((HS108.out.at_ (g := g108) (A := A8) (c := c8) (ns := turnedN (turnedN p)) (by simp)).same (HS108.out.at_ (g := g1) (A := Ap) (c := cp) (ns := p) (by simp)))
      rw [OK.out.s1] at C9
      go_wp2_with fail
      rw [← hx8, ← hg8]
      clear hx8 hg8 hz8 a_1 l_1 a_T l_T
      refine C9.out.mono ?_
      rintro e z1 ⟨rfl, dz1⟩
      have Hz1 := Lib.hid (HS108.out.on dz1)
      clear dz1 C9 HS108
      obtain ⟨a_1, l_1⟩ := Hz1.out.cl (g := g1) (A := Ap) (c := cp) (ns := p) (by simp)
      obtain ⟨a_T, l_T⟩ := Hz1.out.cl (g := g104) (A := A4) (c := c4) (ns := turnedN p) (by simp)
      obtain ⟨a_b, l_b⟩ := Hz1.out.cl (g := g108) (A := A8) (c := c8) (ns := turnedN (turnedN p)) (by simp)
      have hlen : (((turnedN p).length : Int) != (p.length : Int)) = false := by rw [bne_eq_false_iff_eq, OK.out.l1]
      have D1 := Lib.hid ((Hz1.out.at_ (g := g104) (A := A4) (c := c4) (ns := turnedN p) (by simp)).numb (by rw [OK.out.l1]; have := OK.out.m1; omega) OK.out.k1 OK.out.n1)
      go_wp2_with fail
      clear a_1 l_1 a_T l_T a_b l_b hlen
      refine D1.out.mono ?_
      rintro e z2 ⟨rfl, dz2⟩
      have Hz2 := Lib.hid (Hz1.out.on dz2)
      clear dz2 D1 Hz1
      obtain ⟨a_1, l_1⟩ := Hz2.out.cl (g := g1) (A := Ap) (c := cp) (ns := p) (by simp)
      obtain ⟨a_b, l_b⟩ := Hz2.out.cl (g := g108) (A := A8) (c := c8) (ns := turnedN (turnedN p)) (by simp)
      have D2 := Lib.hid ((Hz2.out.at_ (g := g108) (A := A8) (c := c8) (ns := turnedN (turnedN p)) (by simp)).numb (by rw [OK.out.m3]; have := OK.out.m1; omega) OK.out.k2 OK.out.n2)
      go_wp2_with fail
      clear a_1 l_1 a_b l_b
      refine D2.out.mono ?_
      rintro e z3 ⟨rfl, dz3⟩
      have Hz3 := Lib.hid (Hz2.out.on dz3)
      clear dz3 D2 Hz2
      obtain ⟨a_1, l_1⟩ := Hz3.out.cl (g := g1) (A := Ap) (c := cp) (ns := p) (by simp)
      have D3 := Lib.hid ((Hz3.out.at_ (g := g1) (A := Ap) (c := cp) (ns := p) (by simp)).same (Hz3.out.at_ (g := g1) (A := Ap) (c := cp) (ns := p) (by simp)))
      rw [OK.out.s2] at D3
      go_wp2_with fail
      clear a_1 l_1
      refine D3.out.mono ?_
      rintro e z4 ⟨rfl, dz4⟩
      have Hz4 := Lib.hid (Hz3.out.on dz4)
      clear dz4 D3 Hz3
      obtain ⟨a_1, l_1⟩ := Hz4.out.cl (g := g1) (A := Ap) (c := cp) (ns := p) (by simp)
      obtain ⟨a_2, l_2⟩ := Hz4.out.cl (g := g1 + 1) (A := Aq) (c := cq) (ns := q) (by simp)
      obtain ⟨a_s, l_s⟩ := Hz4.out.cl (g := g106) (A := A6) (c := c6) (ns := madeN 6 [p, q]) (by simp)
      have hm1 := OK.out.m1
      have hm2 := OK.out.m2
      by_cases hbig : 1 + p.length + q.length ≤ 256
      · have TT := Lib.hid (TW.out hbig)
        clear TW TM
        rw [TT.out.e]
        have C13 := Lib.hid (Hz4.out.at_ (g := g106) (A := A6) (c := c6) (ns := madeN 6 [p, q]) (by simp)).turned
        rw [TT.out.t] at C13
        go_wp2_with fail
        clear a_1 l_1 a_2 l_2 a_s l_s
        refine C13.out.mono ?_
        rintro e w9 ⟨v9, rfl, hr9⟩
        obtain ⟨A9, c9, rfl, s9, n9, m9, b9⟩ := held_res hr9
        obtain ⟨x9, hx9⟩ : ∃ x, x = w9.alloc (.cells #[.slice A9 (turnedN (madeN 6 [p, q])).length c9] 28) := ⟨_, rfl⟩
        obtain ⟨g109, hg9⟩ : ∃ g, g = w9.heap.size := ⟨_, rfl⟩
        have hz9 : x9.heap.size = g109 + 1 := by rw [hx9, hg9]; simp
        have K9 := Lib.hid (Hz4.out.on b9)
        obtain ⟨a_u, l_u⟩ := K9.out.cl (g := g105) (A := A5) (c := c5) (ns := turnedN q) (by simp)
        obtain ⟨a_T, l_T⟩ := K9.out.cl (g := g104) (A := A4) (c := c4) (ns := turnedN p) (by simp)
        have HS109 := Lib.hid (show HdSt w [(g109, A9, c9, turnedN (madeN 6 [p, q])), (g108, A8, c8, turnedN (turnedN p)), (g107, A7, c7, madeN 7 [p, q]), (g106, A6, c6, madeN 6 [p, q]), (g105, A5, c5, turnedN q), (g104, A4, c4, turnedN p), (g1 + 1, Aq, cq, q), (g1, Ap, cp, p)] x9 by rw [hx9, hg9]; exact K9.out.push s9 n9 m9)
        clear hr9 s9 b9 K9
        clear C13 Hz4
        obtain ⟨yw, hyw⟩ : ∃ y, y = x9.alloc (.cells #[.slice A5 (turnedN q).length c5, .slice A4 (turnedN p).length c4] 28) := ⟨_, rfl⟩
        have hlw := (HS109.out.at_ (g := g105) (A := A5) (c := c5) (ns := turnedN q) (by simp)).list (HS109.out.at_ (g := g104) (A := A4) (c := c4) (ns := turnedN p) (by simp))
        rw [← hyw, hz9] at hlw
        have HLw := Lib.hid (HS109.out.on (show Below x9.heap.size x9 yw by rw [hyw]; exact (Below.refl _ _).alloc (Nat.le_refl _) _))
        have Cw := Lib.hid (pats_seq hlw)
        rw [TT.out.w] at Cw
        rw [hx9] at hyw
        clear hlw
        go_wp2_with fail
        rw [← hyw, ← hg9]
        clear hyw hx9 hg9 hz9 HS109 a_u l_u a_T l_T
        refine Cw.out.mono ?_
        rintro e w10 ⟨v10, rfl, hr10⟩
        obtain ⟨A10, c10, rfl, s10, n10, m10, b10⟩ := held_res hr10
        obtain ⟨x10, hx10⟩ : ∃ x, x = w10.alloc (.cells #[.slice A10 (madeN 6 [turnedN q, turnedN p]).length c10] 28) := ⟨_, rfl⟩
        obtain ⟨g110, hg10⟩ : ∃ g, g = w10.heap.size := ⟨_, rfl⟩
        have hz10 : x10.heap.size = g110 + 1 := by rw [hx10, hg10]; simp
        have K10 := Lib.hid (HLw.out.on b10)
        obtain ⟨a_v, l_v⟩ := K10.out.cl (g := g109) (A := A9) (c := c9) (ns := turnedN (madeN 6 [p, q])) (by simp)
        have HS110 := Lib.hid (show HdSt w [(g110, A10, c10, madeN 6 [turnedN q, turnedN p]), (g109, A9, c9, turnedN (madeN 6 [p, q])), (g108, A8, c8, turnedN (turnedN p)), (g107, A7, c7, madeN 7 [p, q]), (g106, A6, c6, madeN 6 [p, q]), (g105, A5, c5, turnedN q), (g104, A4, c4, turnedN p), (g1 + 1, Aq, cq, q), (g1, Ap, cp, p)] x10 by rw [hx10, hg10]; exact K10.out.push s10 n10 m10)
        clear hr10 s10 b10 K10
        clear Cw HLw
        have E1 := Lib.hid ((HS110.out.at_ (g := g109) (A := A9) (c := c9) (ns := turnedN (madeN 6 [p, q])) (by simp)).same (HS110.out.at_ (g := g110) (A := A10) (c := c10) (ns := madeN 6 [turnedN q, turnedN p]) (by simp)))
        rw [TT.out.s] at E1
        go_wp2_with fail
        rw [← hx10, ← hg10]
        clear hx10 hg10 hz10 a_v l_v
        refine E1.out.mono ?_
        rintro e z5 ⟨rfl, dz5⟩
        have Hz5 := Lib.hid (HS110.out.on dz5)
        clear dz5 E1 HS110
        obtain ⟨a_s, l_s⟩ := Hz5.out.cl (g := g106) (A := A6) (c := c6) (ns := madeN 6 [p, q]) (by simp)
        have E2 := Lib.hid ((Hz5.out.at_ (g := g106) (A := A6) (c := c6) (ns := madeN 6 [p, q]) (by simp)).numb (by rw [TT.out.l1]; omega) TT.out.k1 TT.out.n1)
        go_wp2_with fail
        clear a_s l_s
        refine E2.out.mono ?_
        rintro e z6 ⟨rfl, dz6⟩
        have Hz6 := Lib.hid (Hz5.out.on dz6)
        clear dz6 E2 Hz5
        obtain ⟨a_o, l_o⟩ := Hz6.out.cl (g := g107) (A := A7) (c := c7) (ns := madeN 7 [p, q]) (by simp)
        have E3 := Lib.hid ((Hz6.out.at_ (g := g107) (A := A7) (c := c7) (ns := madeN 7 [p, q]) (by simp)).numb (by rw [TT.out.l2]; omega) TT.out.k2 TT.out.n2)
        go_wp2_with fail
        clear a_o l_o
        refine E3.out.mono ?_
        rintro e z7 ⟨rfl, dz7⟩
        have Hz7 := Lib.hid (Hz6.out.on dz7)
        clear dz7 E3 Hz6
        obtain ⟨a_v, l_v⟩ := Hz7.out.cl (g := g109) (A := A9) (c := c9) (ns := turnedN (madeN 6 [p, q])) (by simp)
        have E4 := Lib.hid ((Hz7.out.at_ (g := g109) (A := A9) (c := c9) (ns := turnedN (madeN 6 [p, q])) (by simp)).numb (by rw [TT.out.l3]; omega) TT.out.k3 TT.out.n3)
        go_wp2_with fail
        clear a_v l_v
        refine E4.out.mono ?_
        rintro e z8 ⟨rfl, dz8⟩
        have Hz8 := Lib.hid (Hz7.out.on dz8)
        clear dz8 E4 Hz7
        obtain ⟨a_s, l_s⟩ := Hz8.out.cl (g := g106) (A := A6) (c := c6) (ns := madeN 6 [p, q]) (by simp)
        obtain ⟨a_o, l_o⟩ := Hz8.out.cl (g := g107) (A := A7) (c := c7) (ns := madeN 7 [p, q]) (by simp)
        obtain ⟨ys, os, hs, hls, hns⟩ := nd_cells (Hz8.out.at_ (g := g106) (A := A6) (c := c6) (ns := madeN 6 [p, q]) (by simp)).sl (by rw [TT.out.l1]; omega)
        obtain ⟨_, _, ks, u1, u2, u3, u4⟩ := hns 0 (by rw [TT.out.l1]; omega)
        have js : z8.cell? ⟨ys, os, none⟩ = some (.int .u8 6) := by
          have hk := TT.out.c1
          rw [List.getD_eq_getElem?_getD, List.getElem?_eq_getElem (by rw [TT.out.l1]; omega), Option.getD_some] at hk
          rw [← hk]
          simpa using ks
        clear u1 u2 u3 u4 ks hns
        rw [TT.out.l1, hs] at a_s
        obtain ⟨yo, oo, ho, hlo, hno⟩ := nd_cells (Hz8.out.at_ (g := g107) (A := A7) (c := c7) (ns := madeN 7 [p, q]) (by simp)).sl (by rw [TT.out.l2]; omega)
        obtain ⟨_, _, ko, u1, u2, u3, u4⟩ := hno 0 (by rw [TT.out.l2]; omega)
        have jo : z8.cell? ⟨yo, oo, none⟩ = some (.int .u8 7) := by
          have hk := TT.out.c2
          rw [List.getD_eq_getElem?_getD, List.getElem?_eq_getElem (by rw [TT.out.l2]; omega), Option.getD_some] at hk
          rw [← hk]
          simpa using ko
        clear u1 u2 u3 u4 ko hno
        rw [TT.out.l2, ho] at a_o
        have hpp : 0 < 1 + p.length + q.length := by omega
        have HB := Lib.hid Hz8.out.below
        clear Hz8 TT OK
        go_wp2_with fail
        go_ret
        exact ⟨rfl, HB.out⟩
      · rw [TM.out (by omega)]
        have HB := Lib.hid Hz4.out.below
        clear Hz4 TW TM OK
        go_wp2_with fail
        go_ret
        exact ⟨rfl, HB.out⟩
    · have hbad : treeB p = false ∨ treeB q = false := by
        cases h1 : treeB p with
        | false => exact .inl rfl
        | true => cases h2 : treeB q with
          | false => exact .inr rfl
          | true => exact absurd ⟨h1, h2⟩ htt
      obtain ⟨hE, hN⟩ := two_bad hbad
      have hT1 : turnedE p = if treeB p then 0 else 40 := rfl
      have hT2 : turnedE q = if treeB q then 0 else 40 := rfl
      have D := Lib.hid ((HX.out.at_ (g := g1) (A := Ap) (c := cp) (ns := p) (by simp)).same (HX.out.at_ (g := g1) (A := Ap) (c := cp) (ns := p) (by simp)))
      rw [sameB_self] at D
      obtain ⟨a_1, l_1⟩ := K.out.cl (g := g1) (A := Ap) (c := cp) (ns := p) (by simp)
      obtain ⟨a_s, l_s⟩ := K.out.cl (g := g106) (A := A6) (c := c6) (ns := madeN 6 [p, q]) (by simp)
      rw [hN 6] at a_s
      rw [hN 7] at hx7 ⊢
      have hx7 : x7 = w7.alloc (.cells #[.slice A7 0 c7] 28) := by rw [hx7]; rfl
      rw [hE]
      rw [hT1, hT2]
      clear K hT1 hT2 hN hE htt
      have HB := Lib.hid (fun (w1 : World) (h : Below x7.heap.size x7 w1) => (HX.out.on h).below)
      clear HX
      rcases hbad with hb0 | hb0
      · rw [hb0] at D ⊢
        cases hb1 : treeB q with
        | false =>
          clear hb0 hb1
          (try simp only [Bool.false_eq_true, if_false])
          go_wp2_with fail
          rw [← hx7]
          refine D.out.mono ?_
          rintro e w1 ⟨rfl, hd⟩
          have HF := Lib.hid (HB.out w1 hd)
          clear hd D HB hx7 a_s l_s a_1 l_1
          go_wp2_with fail
          go_ret
          exact ⟨rfl, HF.out⟩
        | true =>
          clear hb0 hb1
          (try simp only [Bool.false_eq_true, if_true, if_false])
          go_wp2_with fail
          rw [← hx7]
          refine D.out.mono ?_
          rintro e w1 ⟨rfl, hd⟩
          have HF := Lib.hid (HB.out w1 hd)
          clear hd D HB hx7 a_s l_s a_1 l_1
          go_wp2_with fail
          go_ret
          exact ⟨rfl, HF.out⟩
      · rw [hb0]
        cases hb1 : treeB p with
        | false =>
          rw [hb1] at D
          clear hb0 hb1
          (try simp only [Bool.false_eq_true, if_false])
          go_wp2_with fail
          rw [← hx7]
          refine D.out.mono ?_
          rintro e w1 ⟨rfl, hd⟩
          have HF := Lib.hid (HB.out w1 hd)
          clear hd D HB hx7 a_s l_s a_1 l_1
          go_wp2_with fail
          go_ret
          exact ⟨rfl, HF.out⟩
        | true =>
          rw [hb1] at D
          clear hb0 hb1
          (try simp only [Bool.false_eq_true, if_true, if_false])
          go_wp2_with fail
          rw [← hx7]
          refine D.out.mono ?_
          rintro e w1 ⟨rfl, hd⟩
          have HF := Lib.hid (HB.out w1 hd)
          clear hd D HB hx7 a_s l_s a_1 l_1
          go_wp2_with fail
          go_ret
          exact ⟨rfl, HF.out⟩
end Go.Proofs.YtimhlnndobfehaaDoor
namespace Go.Proofs.YtimhlnndobfehaaDoor.patternTurns
open Go.ChangeShapes Go.WideShapes Go.ChangeAt Go.RowKit
set_option linter.unusedVariables false

set_option maxRecDepth 100000 in
theorem contract (H : Type) (enc : TypeId × Value → H) (W : World) (base : Nat) (args : Array Value) (ds gs : List (DataW H)) (before : List MemPlace)
    (hval : ∀ (j : Nat) t v, Tryd.f5.params[j]? = some t → args[j]? = some v → Value.okWide Tryd.prog W .any base t v)
    (hW : DataW.Whole enc Tryd.prog Tryd.f5.params.toList Rows.patternTurnsSpec.vars false W args.toList ds gs before) (hL : laidMetH Tryd.prog utf8List W) :
    Calls Tryd.prog 5 args W fun e W' => ∃ v, e = .returned v ∧ Rows.patternTurnsSpec.post enc Tryd.prog Tryd.f5 false true false false W args v W' := by
  have hW' := hW
  have hfr := free_of_whole hW
  obtain ⟨p, q, hA0, hV, rfl, hfz, hnd⟩ := hW
  have hA : DataW.TrodAll enc Tryd.prog W 0 (fun _ => true) true Tryd.f5.params.toList args.toList ds p := hA0
  rw [Tryd.params5] at hA hval
  obtain ⟨v0, vs0, d0, ds0, p0, q0, hargs, rfl, rfl, h0, r0⟩ := trodAll_cons hA
  obtain ⟨v1, vs1, d1, ds1, p1, q1, rfl, rfl, rfl, h1, r1⟩ := trodAll_cons r0
  obtain ⟨rfl, rfl, rfl⟩ := trodAll_nil r1
  obtain rfl : args = #[v0, v1] := by cases args; simp_all
  obtain ⟨rfl, rfl⟩ := trodVars_none hV
  obtain ⟨cs0, u, rfl, hvu, _, hqu⟩ := (opens_Pat (enc := enc) (w := W)).struct_arg Tryd.underlying28 (hval 0 28 v0 rfl rfl) h0 hfr.left.left
  obtain ⟨Au, cu, hcs0, hlcu, hcmu, hu⟩ := hvu
  obtain rfl : cs0 = #[.slice Au u.length cu] := by cases cs0; simp_all
  obtain ⟨cs1, v, rfl, hvv, _, hqv⟩ := (opens_Pat (enc := enc) (w := W)).struct_arg Tryd.underlying28 (hval 1 28 v1 rfl rfl) h1 hfr.left.right.left
  obtain ⟨Av, cv, hcs1, hlcv, hcmv, hv⟩ := hvv
  obtain rfl : cs1 = #[.slice Av v.length cv] := by cases cs1; simp_all
  refine (pturns_walk Au Av cu cv u v W (tabs_laid hL) hlcu hcmu hu hlcv hcmv hv).mono fun e W' ⟨he, hb⟩ => ?_
  subst he
  exact ⟨_, rfl, post_true laidOut (by rw [Tryd.params5]; intro t ht; simp only [List.mem_cons, List.not_mem_nil, or_false] at ht; rcases ht with rfl | rfl <;> exact ⟨by kernel_rfl, of_decide_eq_true (by kernel_rfl)⟩) (by kernel_rfl) Tryd.underlying4 rfl ⟨rfl, rfl, rfl⟩ hW' hb⟩

theorem reads (os : Os) {H : Type} (enc : TypeId × Value → H) : ∃ places, DataW.whole enc Tryd.prog ((laidWorld os).forCall (fun _ _ => 0) ⟨#[], #[.agg #[.slice none 0 0], .agg #[.slice none 0 0]], []⟩).memory Tryd.f5.params.toList Rows.patternTurnsSpec.vars false #[Value.agg #[.slice none 0 0], .agg #[.slice none 0 0]].toList 8 = some ([.agg [.nil], .agg [.nil]], [], places) :=
  ⟨[], by kernel_rfl⟩

set_option maxRecDepth 100000 in
theorem lifted (os : Os) (started : os.Started) (H : Type) (enc : TypeId × Value → H) (F : Stop.Interp) :
    ReturnsInHanded {} Tryd.checked os 5 .any ((Rows.OpenSpec.upto Rows.patternTurnsSpec).preRow enc Tryd.prog Tryd.f5 Rows.patternTurnsUptoRow.domain false Rows.patternTurnsUptoRow.laid) (((Rows.OpenSpec.upto Rows.patternTurnsSpec).at F).post enc Tryd.prog Tryd.f5 false true false false) := by
  obtain ⟨places, hx⟩ := reads os enc
  refine returnsInHanded_of_row (C := Tryd.checked) (s := Rows.OpenSpec.upto Rows.patternTurnsSpec) own started (by kernel_rfl) Tryd.func5
    (witness_row_at (enc := enc) (C := Tryd.checked) false (laidWorld os) #[.agg #[.slice none 0 0], .agg #[.slice none 0 0]] rfl (by kernel_rfl) (by kernel_rfl) (by kernel_rfl)
      (OpenSpec.preRow_of_cond 8 hx (by kernel_rfl) (fun k hk => by cases hk; kernel_rfl) (by kernel_rfl) (laid_met os _))) ?_
  intro W base args ds gs before hval hW _ _ _ hL _ _
  exact contract H enc W base args ds gs before hval hW hL

theorem said : Rows.PatternTurnsUptoSaid :=
  OpenClaim.holds_of_cond 5 Tryd.f5 rfl rfl rfl rfl rfl rfl rfl ⟨rfl, rfl, rfl, rfl, rfl⟩ rfl rfl rfl rfl rfl (by kernel_rfl) Tryd.func5 (by kernel_rfl)
    (of_decide_eq_true (by kernel_rfl)) (by unfold Func.isWrapper; first | (rw [if_pos (by decide +kernel)]; kernel_rfl) | (rw [if_neg (by decide +kernel)]; exact ⟨rfl, rfl⟩))
    (fun os started H enc _ F => by rw [OpenClaim.pre_eq_preRow]; exact lifted os started H enc F)

/-- No parameter wants a stand-in; whether the program looks. -/
theorem plain (f : FuncId) (fn : Func) (hf : Tryd.pinned.checked.prog.funcNamed "cognate/cognatelaw04.PatternTurns" = some f) (hfn : Tryd.pinned.checked.prog.funcs[f]? = some fn) :
    true = Tryd.pinned.checked.prog.looks [] ∧ ∀ (j : Nat) t, fn.params[j]? = some t → Tryd.pinned.checked.prog.wantsStandIn t = false := by
  obtain rfl : f = 5 := Option.some.inj ((show Tryd.prog.funcNamed "cognate/cognatelaw04.PatternTurns" = some 5 by kernel_rfl).symm.trans hf) |>.symm
  obtain rfl : fn = Tryd.f5 := (Option.some.inj (Tryd.func5.symm.trans hfn)).symm
  refine ⟨by kernel_rfl, fun j t ht => ?_⟩
  rw [Tryd.params5] at ht
  have hm := Array.mem_of_getElem? ht
  simp only [List.mem_toArray, List.mem_cons, List.not_mem_nil, or_false] at hm
  rcases hm with rfl | rfl
  · exact (show Tryd.prog.wantsStandIn 28 = false by kernel_rfl)
  · exact (show Tryd.prog.wantsStandIn 28 = false by kernel_rfl)

theorem proved : Rows.PatternTurnsUptoCardSaid :=
  Claim7.holds_tied_plain_at .later [] _ _ _ _ said (fun _ h => by cases h) (by kernel_rfl) (fun _ h => by cases h) patternTurnsUpto_row_tie rfl ⟨rfl, rfl⟩ (by kernel_rfl) rfl plain (by kernel_rfl)
#print axioms proved
end Go.Proofs.YtimhlnndobfehaaDoor.patternTurns
