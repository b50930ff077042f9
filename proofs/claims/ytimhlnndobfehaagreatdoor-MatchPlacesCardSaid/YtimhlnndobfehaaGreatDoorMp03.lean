/- The law's kept and ints, at what is the same. -/
import Derived.Test.YtimhlnndobfehaaGreatDoorMp01
import Derived.Test.YtimhlnndobfehaaGreatDoorMd25
import Derived.Deep.DeepCutAuto
namespace Go.Proofs.YtimhlnndobfehaaGreatDoor
open Go.RowKit
set_option linter.unusedVariables false

set_option maxHeartbeats 4000000 in
theorem ints_yes {A B : Option Addr} {c d lo hi lo' hi' : Nat} {l : List Int} {w : World} (h1 : Sl 1 (vInt .i64) w lo hi A l) (h2 : Sl 1 (vInt .i64) w lo' hi' B l) (hh1 : hi ≤ w.heap.size) (hh2 : hi' ≤ w.heap.size) (hm : l.length ≤ 1000) :
    Calls Tryz.prog 27 #[.slice A l.length c, .slice B l.length d] w fun e w' => e = .returned (.bool true) ∧ Below w.heap.size w w' := by
  go_enter Tryz.func27, Tryz.ntmps27
  go_wp2_with fail
  go_loopw [5] (fun i wr => ∃ k : Nat, k ≤ l.length ∧ i = .int .i64 (k : Int) ∧ Below w.heap.size w wr) (fun i _ => l.length - (intOf i).toNat)
  case atStart => exact ⟨0, by omega, rfl, Below.refl _ _⟩
  case round =>
    obtain ⟨k, hk, rfl, hb⟩ := hrel
    by_cases hlt : k < l.length
    · obtain ⟨g, o, rfl, _, hg, ⟨x0, y0⟩, _⟩ := ints_at (h1.below (vInt_good _) hb hh1) hlt
      obtain ⟨g', o', rfl, _, hg', ⟨x1, y1⟩, _⟩ := ints_at (h2.below (vInt_good _) hb hh2) hlt
      generalize l[k] = x at *
      have j0 : 0 ≤ (k : Int) := by omega
      have j1 : (k : Int) < (l.length : Int) := by omega
      have t1 : (x != x) = false := by simp
      have hd : Below w.heap.size w wr.drew := below_drewN hb 1
      have hbs := hb.size
      have HD := Lib.hid hd
      clear hd h1 h2
      go_wp2_with fail
      go_region
      all_goals go_wp2_with fail
      exact ⟨⟨k + 1, by omega, by go_num, HD.out⟩, by simp [intOf]; omega⟩
    · obtain rfl : k = l.length := by omega
      clear h1 h2
      go_wp2_with fail
      go_ret
      exact ⟨rfl, hb⟩
set_option maxHeartbeats 8000000 in
set_option maxRecDepth 100000 in
theorem kept_yes {A A' : Option Addr} {c c' lo hi lo' hi' : Nat} {ns : List Nd} {w : World} (hm : ns.length ≤ 9223372036854775807) (hhi : hi ≤ w.heap.size) (hhi' : hi' ≤ w.heap.size) (hsl : Sl 5 vNd w lo hi A ns) (hsl' : Sl 5 vNd w lo' hi' A' ns) :
    Calls Tryz.prog 28 #[.agg #[.slice A ns.length c], .agg #[.slice A' ns.length c']] w fun e w' => e = .returned (.bool true) ∧ Below w.heap.size w w' := by
  obtain ⟨W2, hW2⟩ : ∃ W2, W2 = (w.alloc (.cells #[.slice A ns.length c] 28)).alloc (.cells #[.slice A' ns.length c'] 28) := ⟨_, rfl⟩
  have hr0 : Row W2 w.heap.size 28 [.slice A ns.length c] := by rw [hW2]; exact (Row.new w _ _).alloc _
  have hr1 : Row W2 (w.heap.size + 1) 28 [.slice A' ns.length c'] := by
    have h := Row.new (w.alloc (.cells #[.slice A ns.length c] 28)) 28 [.slice A' ns.length c']
    rw [hW2]
    simpa using h
  have hal : Below w.heap.size w W2 := by rw [hW2]; exact ((Below.refl _ _).alloc (Nat.le_refl _) _).alloc (by simp) _
  have HSL := Lib.hid hsl
  have HSL' := Lib.hid hsl'
  clear hsl hsl'
  go_enter Tryz.func28, Tryz.ntmps28
  go_wp2_with fail
  rw [← hW2]
  clear hW2
  go_loopw [5] (fun i wr => ∃ k : Nat, k ≤ ns.length ∧ i = .int .i64 k ∧ Row wr w.heap.size 28 [.slice A ns.length c] ∧ Row wr (w.heap.size + 1) 28 [.slice A' ns.length c'] ∧ Below w.heap.size w wr) (fun i _ => ns.length - (intOf i).toNat)
  case atStart => exact ⟨0, by omega, rfl, hr0, hr1, hal⟩
  case round =>
    clear hr0 hr1 hal
    obtain ⟨k, hk, rfl, hr0, hr1, hbw⟩ := hrel
    have hbz := hbw.size
    have hl1 := hr1.lt
    obtain ⟨cb0, fb0⟩ := hr0.cel (i := 0) rfl
    obtain ⟨cb1, fb1⟩ := hr1.cel (i := 0) rfl
    by_cases hlt : k < ns.length
    · obtain ⟨b, off, B, cc, rfl, _, hb, ⟨c0, f0⟩, ⟨c1, f1⟩, ⟨c2, f2⟩, ⟨c3, f3⟩, ⟨c4, f4⟩, hkl, hkc, hks, k0, k1, k2, k3⟩ := nd_at (HSL.out.below vNd_good hbw hhi) hlt
      obtain ⟨b', off', B', cc', rfl, _, hb', ⟨d0, g0⟩, ⟨d1, g1⟩, ⟨d2, g2⟩, ⟨d3, g3⟩, ⟨d4, g4⟩, hkl', hkc', hks', l0, l1, l2, l3⟩ := nd_at (HSL'.out.below vNd_good hbw hhi') hlt
      generalize ns[k] = x at *
      have hkm : x.kids.length ≤ 9223372036854775807 := by unfold maxLen at hkc; omega
      have hbx1 : b < wr.heap.size := by omega
      have hbx2 : b' < wr.heap.size := by omega
      have j0 : 0 ≤ (k : Int) := by omega
      have j1 : (k : Int) < (ns.length : Int) := by omega
      obtain ⟨wo, hwo⟩ : ∃ wo, wo = (wr.alloc (.cells #[.int .u8 x.kind, .int .i32 x.rune, .int .u32 x.plus, .int .u32 x.minus, .slice B x.kids.length cc] 66)).alloc (.cells #[.int .u8 x.kind, .int .i32 x.rune, .int .u32 x.plus, .int .u32 x.minus, .slice B' x.kids.length cc'] 66) := ⟨_, rfl⟩
      have hx6 : Row wo wr.heap.size 66 [.int .u8 x.kind, .int .i32 x.rune, .int .u32 x.plus, .int .u32 x.minus, .slice B x.kids.length cc] := by rw [hwo]; exact (Row.new wr _ _).alloc _
      have hx7 : Row wo (wr.heap.size + 1) 66 [.int .u8 x.kind, .int .i32 x.rune, .int .u32 x.plus, .int .u32 x.minus, .slice B' x.kids.length cc'] := by
        have h := Row.new (wr.alloc (.cells #[.int .u8 x.kind, .int .i32 x.rune, .int .u32 x.plus, .int .u32 x.minus, .slice B x.kids.length cc] 66)) 66 [.int .u8 x.kind, .int .i32 x.rune, .int .u32 x.plus, .int .u32 x.minus, .slice B' x.kids.length cc']
        rw [hwo]
        simpa using h
      have hbo : Below wr.heap.size wr wo := by rw [hwo]; exact ((Below.refl _ _).alloc (Nat.le_refl _) _).alloc (by simp) _
      have hks2 := Lib.hid (hks.below (vInt_good _) hbo (by omega))
      have hks2' := Lib.hid (hks'.below (vInt_good _) hbo (by omega))
      have HX6 := Lib.hid hx6
      have HX7 := Lib.hid hx7
      have hl6 := hx6.lt
      have hl7 := hx7.lt
      have HFIN := Lib.hid (fun (wz : World) (hz : Below wo.heap.size wo wz) => And.intro ((hr0.below hbo hr0.lt).below (hz.mono (Nat.le_refl _)) (hr0.below hbo hr0.lt).lt) (And.intro ((hr1.below hbo hr1.lt).below hz (hr1.below hbo hr1.lt).lt) ((hbw.trans (hbo.mono hbz)).trans (hz.mono (by have := hbo.size; omega)))))
      have hbos := hbo.size
      clear hks hks' hx6 hx7 hbo
      go_wp2_with fail
      rw [← hwo]
      clear hwo c0 c1 c2 c3 c4 f0 f1 f2 f3 f4 d0 d1 d2 d3 d4 g0 g1 g2 g3 g4 cb0 cb1 fb0 fb1 hr0 hr1
      go_loopw [8] (fun i wz => ∃ j : Nat, j ≤ x.kids.length ∧ i = .int .i64 j ∧ Below wo.heap.size wo wz) (fun i _ => x.kids.length - (intOf i).toNat)
      case atStart => exact ⟨0, by omega, rfl, Below.refl _ _⟩
      case round =>
        obtain ⟨j, hj, rfl, hbj⟩ := hrel
        have hbjs := hbj.size
        obtain ⟨p4, q4⟩ := (HX6.out.below hbj hl6).cel (i := 4) rfl
        obtain ⟨r4, s4⟩ := (HX7.out.below hbj hl7).cel (i := 4) rfl
        by_cases hjl : j < x.kids.length
        · obtain ⟨bk, ok, rfl, _, hbk, ⟨ck, fk⟩, kk⟩ := ints_at (hks2.out.below (vInt_good _) hbj (by omega)) hjl
          obtain ⟨bk', ok', rfl, _, hbk', ⟨ck', fk'⟩, kk'⟩ := ints_at (hks2'.out.below (vInt_good _) hbj (by omega)) hjl
          generalize x.kids[j] = y at *
          have j2 : 0 ≤ (j : Int) := by omega
          have j3 : (j : Int) < (x.kids.length : Int) := by omega
          have t1 : (y != y) = false := by simp
          have HD := Lib.hid (below_drewN hbj 1)
          clear hks2 hks2' HFIN
          go_wp2_with fail
          go_region
          all_goals go_wp2_with fail
          exact ⟨⟨j + 1, by omega, by go_num, HD.out⟩, by simp [intOf]; omega⟩
        · obtain rfl : j = x.kids.length := by omega
          obtain ⟨y0, y1, y2⟩ := HFIN.out _ hbj
          go_wp2_with fail
          exact ⟨⟨k + 1, by omega, by go_num, y0, y1, y2⟩, by simp [intOf]; omega⟩
    · obtain rfl : k = ns.length := by omega
      go_wp2_with fail
      go_ret
      exact ⟨rfl, hbw⟩
end Go.Proofs.YtimhlnndobfehaaGreatDoor
