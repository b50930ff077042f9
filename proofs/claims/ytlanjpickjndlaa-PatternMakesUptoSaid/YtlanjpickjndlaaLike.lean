/- The document's Like, walked. -/
import Derived.Test.YtlanjpickjndlaaNodes
import Derived.Test.YtlanjpickjndlaaChecked
import Derived.Deep.DeepCutAuto
import Derived.Deep.CutBlock
namespace Go.Proofs.Ytlanjpickjndlaa
open Go.RowKit
set_option linter.unusedVariables false

def TwoSt (w : World) (x y : Nd) (B : Option Addr) (cc : Nat) (B' : Option Addr) (cc' : Nat) (p6 p7 : Value) (wc : World) : Prop :=
  ∃ b6 b7, p6 = .pointer (some ⟨b6, 0, none⟩) ∧ p7 = .pointer (some ⟨b7, 0, none⟩) ∧ Row wc b6 42 (ndCells x (.slice B x.kids.length cc)) ∧ Row wc b7 42 (ndCells y (.slice B' y.kids.length cc')) ∧ Below w.heap.size w wc

theorem two_new (w : World) (t : TypeId) (l m : List Value) : Row ((w.alloc (.cells l.toArray t)).alloc (.cells m.toArray t)).drew w.heap.size t l ∧ Row ((w.alloc (.cells l.toArray t)).alloc (.cells m.toArray t)).drew (w.heap.size + 1) t m ∧ Below w.heap.size w ((w.alloc (.cells l.toArray t)).alloc (.cells m.toArray t)).drew := by
  have h1 : Row ((w.alloc (.cells l.toArray t)).alloc (.cells m.toArray t)) w.heap.size t l := (Row.new w t l).alloc _
  have h2 : Row ((w.alloc (.cells l.toArray t)).alloc (.cells m.toArray t)) (w.heap.size + 1) t m := by
    have h := Row.new (w.alloc (.cells l.toArray t)) t m
    simpa using h
  have h3 : Below w.heap.size w ((w.alloc (.cells l.toArray t)).alloc (.cells m.toArray t)) := ((Below.refl _ _).alloc (Nat.le_refl _) _).alloc (by simp) _
  exact ⟨h1, h2, ⟨h3.os, h3.tape, h3.output, h3.size, h3.block⟩⟩
theorem two_st (w : World) (x y : Nd) (B : Option Addr) (cc : Nat) (B' : Option Addr) (cc' : Nat) :
    TwoSt w x y B cc B' cc' (.pointer (some ⟨w.heap.size, 0, none⟩)) (.pointer (some ⟨w.heap.size + 1, 0, none⟩)) ((w.alloc (.cells (ndCells x (.slice B x.kids.length cc)).toArray 42)).alloc (.cells (ndCells y (.slice B' y.kids.length cc')).toArray 42)).drew :=
  ⟨_, _, rfl, rfl, (two_new w _ _ _).1, (two_new w _ _ _).2.1, (two_new w _ _ _).2.2⟩
theorem two_st' (w : World) (x y : Nd) (B : Option Addr) (cc : Nat) (B' : Option Addr) (cc' : Nat) :
    TwoSt w x y B cc B' cc' (.pointer (some ⟨w.heap.size + 1, 0, none⟩)) (.pointer (some ⟨w.heap.size, 0, none⟩)) ((w.alloc (.cells (ndCells y (.slice B' y.kids.length cc')).toArray 42)).alloc (.cells (ndCells x (.slice B x.kids.length cc)).toArray 42)).drew :=
  ⟨_, _, rfl, rfl, (two_new w _ _ _).2.1, (two_new w _ _ _).1, (two_new w _ _ _).2.2⟩

theorem take_eq_step {α : Type} {l m : List α} {k : Nat} (h1 : k < l.length) (h2 : k < m.length) (h : l.take k = m.take k) (he : l[k] = m[k]) : l.take (k + 1) = m.take (k + 1) := by
  rw [List.take_succ_eq_append_getElem h1, List.take_succ_eq_append_getElem h2, h, he]

set_option maxHeartbeats 8000000 in
set_option maxRecDepth 100000 in
theorem like_len (n : Nat) (A A' : Option Addr) (c c' lo hi lo' hi' : Nat) (ps qs : List Nd) (w : World) (hn1 : Hid (ps.length = n)) (hn2 : Hid (qs.length = n)) (hm : n ≤ 9223372036854775807) (hhi : hi ≤ w.heap.size) (hhi' : hi' ≤ w.heap.size) (hsl : Sl 5 vNd w lo hi A ps) (hsl' : Sl 5 vNd w lo' hi' A' qs) :
    Calls Try.prog 16 #[.agg #[.slice A n c], .agg #[.slice A' n c']] w fun e w' => e = .returned (.bool (decide (ps = qs))) ∧ Below w.heap.size w w' := by
  go_enter Try.func16, Try.ntmps16
  go_wp2_with fail
  go_loopw [5] (fun i wr => ∃ k : Nat, k ≤ n ∧ i = .int .i64 k ∧ Hid (ps.take k = qs.take k) ∧ Row wr w.heap.size 25 [.slice A n c] ∧ Row wr (w.heap.size + 1) 25 [.slice A' n c'] ∧ Below w.heap.size w wr) (fun i _ => n - (intOf i).toNat)
  case atStart =>
    refine ⟨0, by omega, rfl, by show _ = _; rfl, ?_, ?_, by go_grown⟩
    · exact (Row.new w 25 _).alloc _
    · have h := Row.new (w.alloc (.cells #[.slice A n c] 25)) 25 [.slice A' n c']
      simpa using h
  case round =>
    obtain ⟨k, hk, rfl, hT, hr0, hr1, hbw⟩ := hrel
    have hbz := hbw.size
    have hl1 := hr1.lt
    obtain ⟨cb0, fb0⟩ := hr0.cel (i := 0) rfl
    obtain ⟨cb1, fb1⟩ := hr1.cel (i := 0) rfl
    by_cases hlt : k < n
    · obtain ⟨b, off, B, cc, rfl, _, hb, ⟨c0, f0⟩, ⟨c1, f1⟩, ⟨c2, f2⟩, ⟨c3, f3⟩, ⟨c4, f4⟩, hkl, hkc, hks, k0, k1, k2, k3⟩ := nd_at (hsl.below vNd_good hbw hhi) (show k < ps.length by rw [hn1.out]; exact hlt)
      obtain ⟨b', off', B', cc', rfl, _, hb', ⟨d0, g0⟩, ⟨d1, g1⟩, ⟨d2, g2⟩, ⟨d3, g3⟩, ⟨d4, g4⟩, hkl', hkc', hks', l0, l1, l2, l3⟩ := nd_at (hsl'.below vNd_good hbw hhi') (show k < qs.length by rw [hn2.out]; exact hlt)
      have hE : Hid (ps[k]'(by rw [hn1.out]; exact hlt) = qs[k]'(by rw [hn2.out]; exact hlt) → ps.take (k + 1) = qs.take (k + 1)) := fun h => take_eq_step _ _ hT.out h
      have hD : Hid (ps[k]'(by rw [hn1.out]; exact hlt) ≠ qs[k]'(by rw [hn2.out]; exact hlt) → decide (ps = qs) = false) := fun h => by
        rw [decide_eq_false_iff_not]
        intro e
        subst e
        exact h rfl
      generalize ps[k]'(by rw [hn1.out]; exact hlt) = x at *
      generalize qs[k]'(by rw [hn2.out]; exact hlt) = y at *
      have hkm : x.kids.length ≤ 9223372036854775807 := by unfold maxLen at hkc; omega
      have hkm' : y.kids.length ≤ 9223372036854775807 := by unfold maxLen at hkc'; omega
      have hbx1 : b < wr.heap.size := by omega
      have hbx2 : b' < wr.heap.size := by omega
      have hbx3 : w.heap.size < wr.heap.size := by omega
      go_upto_region 6 with (fail)
      go_cut [5, 6, 7] (fun s5 p6 p7 wc => s5 = .int .i64 (k : Int) ∧ TwoSt wr x y B cc B' cc' p6 p7 wc)
      case first =>
        go_region
        all_goals (go_wp2_with fail; go_meet)
        case rel => first | exact ⟨rfl, two_st wr x y B cc B' cc'⟩ | exact ⟨rfl, two_st' wr x y B cc B' cc'⟩
        case rel => first | exact ⟨rfl, two_st wr x y B cc B' cc'⟩ | exact ⟨rfl, two_st' wr x y B cc B' cc'⟩
      case rest =>
      obtain ⟨rfl, b6, b7, rfl, rfl, hx6, hx7, hbt⟩ := hcut
      obtain ⟨wo, hwo⟩ : ∃ wo : World, wo = wc := ⟨_, rfl⟩
      subst hwo
      have hbo : Below w.heap.size w wo := hbw.trans (hbt.mono hbz)
      have hks2 := hks.below (vInt_good _) hbt (by omega)
      have hks2' := hks'.below (vInt_good _) hbt (by omega)
      have hr02 := hr0.below hbt hbx3
      have hr12 := hr1.below hbt hl1
      clear c0 c1 c2 c3 c4 f0 f1 f2 f3 f4 d0 d1 d2 d3 d4 g0 g1 g2 g3 g4 cb0 cb1 fb0 fb1 hr0 hr1
      obtain ⟨p0, q0⟩ := hx6.cel (i := 0) rfl
      obtain ⟨p1, q1⟩ := hx6.cel (i := 1) rfl
      obtain ⟨p2, q2⟩ := hx6.cel (i := 2) rfl
      obtain ⟨p3, q3⟩ := hx6.cel (i := 3) rfl
      obtain ⟨p4, q4⟩ := hx6.cel (i := 4) rfl
      obtain ⟨r0, s0⟩ := hx7.cel (i := 0) rfl
      obtain ⟨r1, s1⟩ := hx7.cel (i := 1) rfl
      obtain ⟨r2, s2⟩ := hx7.cel (i := 2) rfl
      obtain ⟨r3, s3⟩ := hx7.cel (i := 3) rfl
      obtain ⟨r4, s4⟩ := hx7.cel (i := 4) rfl
      cases e0 : (x.kind != y.kind) with
      | true =>
        have hF := Lib.hid (hD.out (fun e => by rw [e] at e0; simp at e0))
        go_wp2_with fail
        go_ret
        exact ⟨by rw [hF.out]; rfl, hbo⟩
      | false =>
      cases e1 : (x.rune != y.rune) with
      | true =>
        have hF := Lib.hid (hD.out (fun e => by rw [e] at e1; simp at e1))
        go_wp2_with fail
        go_ret
        exact ⟨by rw [hF.out]; rfl, hbo⟩
      | false =>
      cases e2 : (x.plus != y.plus) with
      | true =>
        have hF := Lib.hid (hD.out (fun e => by rw [e] at e2; simp at e2))
        go_wp2_with fail
        go_ret
        exact ⟨by rw [hF.out]; rfl, hbo⟩
      | false =>
      cases e3 : (x.minus != y.minus) with
      | true =>
        have hF := Lib.hid (hD.out (fun e => by rw [e] at e3; simp at e3))
        go_wp2_with fail
        go_ret
        exact ⟨by rw [hF.out]; rfl, hbo⟩
      | false =>
      cases e4 : ((x.kids.length : Int) != (y.kids.length : Int)) with
      | true =>
        have hF := Lib.hid (hD.out (fun e => by rw [e] at e4; simp at e4))
        go_wp2_with fail
        go_ret
        exact ⟨by rw [hF.out]; rfl, hbo⟩
      | false =>
        have hkk : Hid (x.kids.length = y.kids.length) := by
          show _ = _
          rw [bne_eq_false_iff_eq] at e4
          omega
        have hXY : Hid (x.kids = y.kids → x = y) := fun h => by
          rw [bne_eq_false_iff_eq] at e0 e1 e2 e3
          obtain ⟨a, b, c, d, e⟩ := x
          obtain ⟨a', b', c', d', e'⟩ := y
          simp only at e0 e1 e2 e3 h
          rw [e0, e1, e2, e3, h]
        have hl6 := hx6.lt
        have hl7 := hx7.lt
        go_wp2_with fail
        go_loopw [8] (fun i wr => ∃ j : Nat, j ≤ x.kids.length ∧ i = .int .i64 j ∧ Hid (x.kids.take j = y.kids.take j) ∧ Below wo.heap.size wo wr) (fun i _ => x.kids.length - (intOf i).toNat)
        case atStart => exact ⟨0, by omega, rfl, by show _ = _; rfl, Below.refl _ _⟩
        case round =>
          obtain ⟨j, hj, rfl, hTj, hbj⟩ := hrel
          clear p0 p1 p2 p3 p4 q0 q1 q2 q3 q4 r0 r1 r2 r3 r4 s0 s1 s2 s3 s4
          obtain ⟨p4, q4⟩ := (hx6.below hbj hl6).cel (i := 4) rfl
          obtain ⟨r4, s4⟩ := (hx7.below hbj hl7).cel (i := 4) rfl
          by_cases hjl : j < x.kids.length
          · have hjl' : j < y.kids.length := by have := hkk.out; omega
            have hso := hbt.size
            obtain ⟨bk, ok, rfl, _, hbk, ⟨ck, fk⟩, kk⟩ := ints_at (hks2.below (vInt_good _) hbj (by omega)) hjl
            obtain ⟨bk', ok', rfl, _, hbk', ⟨ck', fk'⟩, kk'⟩ := ints_at (hks2'.below (vInt_good _) hbj (by omega)) hjl'
            cases ek : (x.kids[j] != y.kids[j]) with
            | true =>
              have hF := Lib.hid (hD.out (fun e => by
                subst e
                simp at ek))
              generalize x.kids[j] = xj at *
              generalize y.kids[j] = yj at *
              have hfin := hbo.trans (hbj.mono hbo.size)
              go_wp2_with fail
              go_quiet (fail)
              go_wp2_with fail
              go_ret
              exact ⟨by rw [hF.out]; rfl, below_drewN hfin _⟩
            | false =>
              have hT2 : Hid (x.kids.take (j + 1) = y.kids.take (j + 1)) := take_eq_step hjl hjl' hTj.out (by rw [bne_eq_false_iff_eq] at ek; exact ek)
              generalize x.kids[j] = xj at *
              generalize y.kids[j] = yj at *
              go_wp2_with fail
              go_quiet (fail)
              go_wp2_with fail
              exact ⟨⟨j + 1, by omega, by go_num, hT2, below_drewN hbj _⟩, by simp [intOf]; omega⟩
          · obtain rfl : j = x.kids.length := by omega
            have hxy := hXY.out (by
              have h1 := hTj.out
              rw [List.take_length] at h1
              rw [h1, List.take_of_length_le (by rw [hkk.out]; exact Nat.le_refl _)])
            have hT2 : Hid (ps.take (k + 1) = qs.take (k + 1)) := hE.out hxy
            have hfin := hbo.trans (hbj.mono hbo.size)
            have hr03 := hr02.below hbj hr02.lt
            have hr13 := hr12.below hbj hr12.lt
            clear hxy
            go_wp2_with fail
            exact ⟨⟨k + 1, by omega, by go_num, hT2, hr03, hr13, hfin⟩, by simp [intOf]; omega⟩
    · obtain rfl : k = n := by omega
      have hF : Hid (decide (ps = qs) = true) := by
        show _ = _
        rw [decide_eq_true_eq]
        have h1 := hT.out
        rw [List.take_of_length_le (by rw [hn1.out]; exact Nat.le_refl _), List.take_of_length_le (by rw [hn2.out]; exact Nat.le_refl _)] at h1
        exact h1
      go_wp2_with fail
      go_ret
      exact ⟨by rw [hF.out]; rfl, hbw⟩

set_option maxHeartbeats 1000000 in
theorem like_any (A A' : Option Addr) (c c' lo hi lo' hi' : Nat) (ps qs : List Nd) (w : World) (hm : ps.length ≤ 9223372036854775807) (hm' : qs.length ≤ 9223372036854775807) (hhi : hi ≤ w.heap.size) (hhi' : hi' ≤ w.heap.size) (hsl : Sl 5 vNd w lo hi A ps) (hsl' : Sl 5 vNd w lo' hi' A' qs) :
    Calls Try.prog 16 #[.agg #[.slice A ps.length c], .agg #[.slice A' qs.length c']] w fun e w' => e = .returned (.bool (decide (ps = qs))) ∧ Below w.heap.size w w' := by
  by_cases h : ps.length = qs.length
  · have h1 := like_len ps.length A A' c c' lo hi lo' hi' ps qs w rfl h.symm hm hhi hhi' hsl hsl'
    rw [h] at h1 ⊢
    exact h1
  · have hF : Hid (decide (ps = qs) = false) := by
      show _ = _
      rw [decide_eq_false_iff_not]
      intro e
      exact h (by rw [e])
    have e : ((ps.length : Int) != (qs.length : Int)) = true := by rw [bne_iff_ne]; omega
    clear h
    go_enter Try.func16, Try.ntmps16
    go_wp2_with fail
    go_ret
    exact ⟨by rw [hF.out]; rfl, by go_grown⟩
end Go.Proofs.Ytlanjpickjndlaa
