/- Same's inner function, walked. Same, the program's and the document's, walked. Patterns in boxes, through later worlds; what is asked of them. -/
import Derived.Test.YtimhlnndobfehaaDoorPn09
import Derived.Test.YtimhlnndobfehaaDoorPn08
import Derived.StillTailTactics
import Derived.Test.YtimhlnndobfehaaDoorMc26
import Derived.Laws.EntriesVeiled
namespace Go.Proofs.YtimhlnndobfehaaDoor
open Go.RowKit
set_option linter.unusedVariables false

theorem zip_drop_step {α β : Type} {l : List α} {m : List β} {j : Nat} (h1 : j < l.length) (h2 : j < m.length) : (l.zip m).drop j = (l[j], m[j]) :: (l.zip m).drop (j + 1) := by
  have h : j < (l.zip m).length := by rw [List.length_zip]; omega
  rw [List.drop_eq_getElem_cons h, List.getElem_zip]
theorem likeB_ne {ps qs : List Nd} {f i k : Nat} (h : ¬ ((ps.getD i nd0).kind = (qs.getD k nd0).kind ∧ (ps.getD i nd0).rune = (qs.getD k nd0).rune ∧ (ps.getD i nd0).plus = (qs.getD k nd0).plus ∧ (ps.getD i nd0).minus = (qs.getD k nd0).minus ∧ (ps.getD i nd0).kids.length = (qs.getD k nd0).kids.length)) : likeB ps qs (f + 1) i k = false := by
  rw [Bool.eq_false_iff]
  intro e
  simp only [likeB, Bool.and_eq_true, decide_eq_true_eq] at e
  exact h ⟨e.1.1.1.1.1, e.1.1.1.1.2, e.1.1.1.2, e.1.1.2, e.1.2⟩
theorem likeB_eq {ps qs : List Nd} {f i k : Nat} (h : (ps.getD i nd0).kind = (qs.getD k nd0).kind ∧ (ps.getD i nd0).rune = (qs.getD k nd0).rune ∧ (ps.getD i nd0).plus = (qs.getD k nd0).plus ∧ (ps.getD i nd0).minus = (qs.getD k nd0).minus ∧ (ps.getD i nd0).kids.length = (qs.getD k nd0).kids.length) : likeB ps qs (f + 1) i k = (((ps.getD i nd0).kids.zip (qs.getD k nd0).kids).drop 0).all fun ab => likeB ps qs f ab.1.toNat ab.2.toNat := by
  simp only [likeB, h.1, h.2.1, h.2.2.1, h.2.2.2.1, h.2.2.2.2, decide_true, Bool.true_and, List.drop_zero]

set_option maxHeartbeats 8000000 in
set_option maxRecDepth 100000 in
theorem same_in (ps qs : List Nd) (A A' : Option Addr) (c c' lo hi lo' hi' bp bq bl : Nat) (hin : InR ps.length 0 ps) (hin' : InR qs.length 0 qs) (hm : ps.length ≤ 300) (hm' : qs.length ≤ 300) : ∀ (f i k : Nat) (w : World),
    i < ps.length → k < qs.length → ps.length - i ≤ f → hi ≤ w.heap.size → hi' ≤ w.heap.size → Sl 5 vNd w lo hi A ps → Sl 5 vNd w lo' hi' A' qs →
    Row w bp 28 [.slice A ps.length c] → Row w bq 28 [.slice A' qs.length c'] →
    Row w bl 87 [.func (.func 48) #[] #[.pointer (some ⟨bp, 0, none⟩), .pointer (some ⟨bq, 0, none⟩), .pointer (some ⟨bl, 0, none⟩)]] →
    Calls Tryd.prog 48 #[.int .i64 (i : Int), .int .i64 (k : Int), .pointer (some ⟨bp, 0, none⟩), .pointer (some ⟨bq, 0, none⟩), .pointer (some ⟨bl, 0, none⟩)] w fun e w' =>
      e = .returned (.bool (likeB ps qs f i k)) ∧ Below w.heap.size w w' := by
  intro f
  induction f with
  | zero => intro i k w h1 h2 h3; omega
  | succ f ih =>
    intro i k w hat hat' hf hhi hhi' hsl hsl' hrp hrq hrl
    obtain ⟨cp, fp⟩ := hrp.cel (i := 0) rfl
    obtain ⟨cq, fq⟩ := hrq.cel (i := 0) rfl
    have hbp := hrp.lt
    have hbq := hrq.lt
    have hbl := hrl.lt
    have hD := Lib.hid (@likeB_ne ps qs f i k)
    have hE := Lib.hid (@likeB_eq ps qs f i k)
    have hI := Lib.hid (inr_at i hin hat)
    have hI' := Lib.hid (inr_at k hin' hat')
    obtain ⟨b, off, B, cc, rfl, _, hb, ⟨c0, f0⟩, ⟨c1, f1⟩, ⟨c2, f2⟩, ⟨c3, f3⟩, ⟨c4, f4⟩, hkl, hkc, hks, k0, k1, k2, k3⟩ := nd_at hsl hat
    obtain ⟨b', off', B', cc', rfl, _, hb', ⟨d0, g0⟩, ⟨d1, g1⟩, ⟨d2, g2⟩, ⟨d3, g3⟩, ⟨d4, g4⟩, hkl', hkc', hks', l0, l1, l2, l3⟩ := nd_at hsl' hat'
    have hx : ps.getD i nd0 = ps[i] := by rw [List.getD_eq_getElem?_getD, List.getElem?_eq_getElem hat]; rfl
    have hy : qs.getD k nd0 = qs[k] := by rw [List.getD_eq_getElem?_getD, List.getElem?_eq_getElem hat']; rfl
    rw [hx] at hD hE hI
    rw [hy] at hD hE hI'
    clear hx hy
    generalize ps[i] = x at *
    generalize qs[k] = y at *
    have hkm : x.kids.length ≤ 9223372036854775807 := by unfold maxLen at hkc; omega
    have hkm' : y.kids.length ≤ 9223372036854775807 := by unfold maxLen at hkc'; omega
    generalize likeB ps qs (f + 1) i k = R at *
    have hbx1 : b < w.heap.size := by omega
    have hbx2 : b' < w.heap.size := by omega
    go_enter Tryd.func48, Tryd.ntmps48
    go_upto_region 1 with (fail)
    go_cut [8, 9] from 8 (fun p6 p7 wc => TwoSt w x y B cc B' cc' p6 p7 wc)
    case first =>
      go_region
      all_goals (go_wp2_with fail; go_meet)
      case rel => first | exact two_st w x y B cc B' cc' | exact two_st' w x y B cc B' cc'
      case rel => first | exact two_st w x y B cc B' cc' | exact two_st' w x y B cc B' cc'
    case rest =>
    obtain ⟨b6, b7, rfl, rfl, hx6, hx7, hbt⟩ := hcut
    obtain ⟨wo, hwo⟩ : ∃ wo : World, wo = wc := ⟨_, rfl⟩
    subst hwo
    have hks2 := hks.below (vInt_good _) hbt (by omega)
    have hks2' := hks'.below (vInt_good _) hbt (by omega)
    have hrp2 := hrp.below hbt hbp
    have hrq2 := hrq.below hbt hbq
    have hrl2 := hrl.below hbt hbl
    have hso := hbt.size
    clear c0 c1 c2 c3 c4 f0 f1 f2 f3 f4 d0 d1 d2 d3 d4 g0 g1 g2 g3 g4 cp cq fp fq
    obtain ⟨p0, q0⟩ := hx6.cel (i := 0) rfl
    obtain ⟨p1, q1⟩ := hx6.cel (i := 1) rfl
    obtain ⟨p2, q2⟩ := hx6.cel (i := 2) rfl
    obtain ⟨p3, q3⟩ := hx6.cel (i := 3) rfl
    obtain ⟨p4, q4⟩ := hx6.cel (i := 4) rfl
    obtain ⟨r0, s0⟩ := hx7.cel (i := 0) rfl
    obtain ⟨r1, s1⟩ := hx7.cel (i := 1) rfl
    obtain ⟨r2, s2⟩ := hx7.cel (i := 2) rfl
    obtain ⟨r3, s3⟩ := hx7.cel (i := 3) rfl
    obtain ⟨r4, s4⟩ := hx7.cel (i := 4) rfl
    cases e0 : (x.kind != y.kind) with
    | true =>
      have hF := Lib.hid (hD.out (fun e => by rw [e.1] at e0; simp at e0))
      go_wp2_with fail
      go_ret
      exact ⟨by rw [hF.out]; rfl, hbt⟩
    | false =>
    cases e1 : (x.rune != y.rune) with
    | true =>
      have hF := Lib.hid (hD.out (fun e => by rw [e.2.1] at e1; simp at e1))
      go_wp2_with fail
      go_ret
      exact ⟨by rw [hF.out]; rfl, hbt⟩
    | false =>
    cases e2 : (x.plus != y.plus) with
    | true =>
      have hF := Lib.hid (hD.out (fun e => by rw [e.2.2.1] at e2; simp at e2))
      go_wp2_with fail
      go_ret
      exact ⟨by rw [hF.out]; rfl, hbt⟩
    | false =>
    cases e3 : (x.minus != y.minus) with
    | true =>
      have hF := Lib.hid (hD.out (fun e => by rw [e.2.2.2.1] at e3; simp at e3))
      go_wp2_with fail
      go_ret
      exact ⟨by rw [hF.out]; rfl, hbt⟩
    | false =>
    cases e4 : ((x.kids.length : Int) != (y.kids.length : Int)) with
    | true =>
      have hF := Lib.hid (hD.out (fun e => by rw [e.2.2.2.2] at e4; simp at e4))
      go_wp2_with fail
      go_ret
      exact ⟨by rw [hF.out]; rfl, hbt⟩
    | false =>
      have hkk : Hid (x.kids.length = y.kids.length) := by
        show _ = _
        rw [bne_eq_false_iff_eq] at e4
        omega
      have hR : Hid (R = ((x.kids.zip y.kids).drop 0).all fun ab => likeB ps qs f ab.1.toNat ab.2.toNat) := by
        rw [bne_eq_false_iff_eq] at e0 e1 e2 e3
        exact hE.out ⟨e0, e1, e2, e3, hkk.out⟩
      clear hD hE
      have hl6 := hx6.lt
      have hl7 := hx7.lt
      go_wp2_with fail
      go_loopw [59] (fun i wr => ∃ j : Nat, j ≤ x.kids.length ∧ i = .int .i64 j ∧ Hid (R = ((x.kids.zip y.kids).drop j).all fun ab => likeB ps qs f ab.1.toNat ab.2.toNat) ∧ Below wo.heap.size wo wr) (fun i _ => x.kids.length - (intOf i).toNat)
      case atStart => exact ⟨0, by omega, rfl, hR, Below.refl _ _⟩
      case round =>
        obtain ⟨j, hj, rfl, hRj, hbj⟩ := hrel
        clear p0 p1 p2 p3 p4 q0 q1 q2 q3 q4 r0 r1 r2 r3 r4 s0 s1 s2 s3 s4 hR
        obtain ⟨p4, q4⟩ := (hx6.below hbj hl6).cel (i := 4) rfl
        obtain ⟨r4, s4⟩ := (hx7.below hbj hl7).cel (i := 4) rfl
        have hrl3 := hrl2.below hbj hrl2.lt
        obtain ⟨cl, fl⟩ := hrl3.cel (i := 0) rfl
        by_cases hjl : j < x.kids.length
        · have hjl' : j < y.kids.length := by have := hkk.out; omega
          have hsj := hbj.size
          obtain ⟨bk, ok, rfl, _, hbk, ⟨ck, fk⟩, kk⟩ := ints_at (hks2.below (vInt_good _) hbj (by omega)) hjl
          obtain ⟨bk', ok', rfl, _, hbk', ⟨ck', fk'⟩, kk'⟩ := ints_at (hks2'.below (vInt_good _) hbj (by omega)) hjl'
          have hR2 := hRj.out
          rw [zip_drop_step hjl hjl', List.all_cons] at hR2
          have hz := hI.out _ (List.getElem_mem hjl)
          have hz' := hI'.out _ (List.getElem_mem hjl')
          generalize x.kids[j] = xj at *
          generalize y.kids[j] = yj at *
          obtain ⟨xn, rfl⟩ : ∃ n : Nat, xj = n := ⟨xj.toNat, by omega⟩
          obtain ⟨yn, rfl⟩ : ∃ n : Nat, yj = n := ⟨yj.toNat, by omega⟩
          simp only [Int.toNat_natCast] at hR2
          have HR2 := Lib.hid hR2
          have hbo : Below w.heap.size w wr.drew := below_drewN (hbt.trans (hbj.mono hso)) 1
          have hih := ih xn yn wr.drew (by omega) (by omega) (by omega) (by have := hbo.size; omega) (by have := hbo.size; omega) (hsl.below vNd_good hbo hhi) (hsl'.below vNd_good hbo hhi') (hrp.below hbo hbp) (hrq.below hbo hbq) (hrl.below hbo hbl)
          clear hR2 hRj
          generalize likeB ps qs f xn yn = rb at *
          cases rb with
          | false =>
            have hF : Hid (R = false) := by show _ = _; rw [HR2.out]; rfl
            go_wp2_with fail
            go_still_tail 11, (by kernel_rfl)
            change wpList _ _ _ _ _ wr.drew
            go_wp2_with (go_at_call 48; refine hih.mono ?_; rintro e w5 ⟨rfl, hb5⟩)
            all_goals
              go_ret
              exact ⟨by rw [hF.out]; rfl, hbo.trans (hb5.mono hbo.size)⟩
          | true =>
            have hF : Hid (R = ((x.kids.zip y.kids).drop (j + 1)).all fun ab => likeB ps qs f ab.1.toNat ab.2.toNat) := by show _ = _; rw [HR2.out]; rfl
            have hbd : Below wo.heap.size wo wr.drew := below_drewN hbj 1
            go_wp2_with fail
            go_still_tail 11, (by kernel_rfl)
            change wpList _ _ _ _ _ wr.drew
            go_wp2_with (go_at_call 48; refine hih.mono ?_; rintro e w5 ⟨rfl, hb5⟩)
            all_goals
              exact ⟨⟨j + 1, by omega, by go_num, hF, hbd.trans (hb5.mono hbd.size)⟩, by simp [intOf]; omega⟩
        · have hF : Hid (R = true) := by
            show _ = _
            rw [hRj.out, List.drop_eq_nil_of_le (by rw [List.length_zip]; omega)]
            rfl
          go_wp2_with fail
          go_ret
          exact ⟨by rw [hF.out]; rfl, hbt.trans (hbj.mono hso)⟩
end Go.Proofs.YtimhlnndobfehaaDoor
namespace Go.Proofs.YtimhlnndobfehaaDoor
open Go.RowKit
set_option linter.unusedVariables false

theorem two_boxes (w : World) (t : TypeId) (l m : List Value) : Row ((w.alloc (.cells l.toArray t)).alloc (.cells m.toArray t)) w.heap.size t l ∧ Row ((w.alloc (.cells l.toArray t)).alloc (.cells m.toArray t)) (w.heap.size + 1) t m ∧ Below w.heap.size w ((w.alloc (.cells l.toArray t)).alloc (.cells m.toArray t)) :=
  ⟨(two_new w t l m).1, (two_new w t l m).2.1, (two_new w t l m).2.2.os, (two_new w t l m).2.2.tape, (two_new w t l m).2.2.output, (two_new w t l m).2.2.size, (two_new w t l m).2.2.block⟩

set_option maxHeartbeats 4000000 in
set_option maxRecDepth 100000 in
theorem same_any (A A' : Option Addr) (c c' lo hi lo' hi' : Nat) (ps qs : List Nd) (w : World) (hm : ps.length ≤ 9223372036854775807) (hm' : qs.length ≤ 9223372036854775807) (hhi : hi ≤ w.heap.size) (hhi' : hi' ≤ w.heap.size) (hsl : Sl 5 vNd w lo hi A ps) (hsl' : Sl 5 vNd w lo' hi' A' qs) :
    Calls Tryd.prog 14 #[.agg #[.slice A ps.length c], .agg #[.slice A' qs.length c']] w fun e w' => e = .returned (.bool (sameB ps qs)) ∧ Below w.heap.size w w' := by
  obtain ⟨hr1, hr2, hb⟩ := two_boxes w 28 [.slice A ps.length c] [.slice A' qs.length c']
  have hbs := hb.size
  go_enter Tryd.func14, Tryd.ntmps14
  go_wp2_with fail
  refine (tree_any A c lo hi ps _ hm (by omega) (hsl.below vNd_good hb hhi)).mono ?_
  rintro e w1 ⟨rfl, hb1⟩
  have hbw := hb.trans (hb1.mono hbs)
  have hr3 := hr1.below hb1 hr1.lt
  have hr4 := hr2.below hb1 hr2.lt
  obtain ⟨c3, f3⟩ := hr3.cel (i := 0) rfl
  obtain ⟨c4, f4⟩ := hr4.cel (i := 0) rfl
  have hbs1 := hbw.size
  clear hr1 hr2 hb hb1 hbs
  cases hp : treeB ps with
  | false =>
    have hF := Lib.hid (sameB_p (qs := qs) hp)
    go_wp2_with fail
    go_ret
    exact ⟨by rw [hF.out]; rfl, hbw⟩
  | true =>
    go_wp2_with fail
    refine (tree_any A' c' lo' hi' qs _ hm' (by omega) (hsl'.below vNd_good hbw hhi')).mono ?_
    rintro e w2 ⟨rfl, hb2⟩
    have hbw2 := hbw.trans (hb2.mono hbs1)
    have hr5 := hr3.below hb2 hr3.lt
    have hr6 := hr4.below hb2 hr4.lt
    obtain ⟨c5, f5⟩ := hr5.cel (i := 0) rfl
    obtain ⟨c6, f6⟩ := hr6.cel (i := 0) rfl
    have hbs2 := hbw2.size
    clear hr3 hr4 hb2 hbs1 hbw c3 c4 f3 f4
    cases hq : treeB qs with
    | false =>
      have hF := Lib.hid (sameB_q (ps := ps) hq)
      go_wp2_with fail
      go_ret
      exact ⟨by rw [hF.out]; rfl, hbw2⟩
    | true =>
      cases hl : ((ps.length : Int) != (qs.length : Int)) with
      | true =>
        have hF := Lib.hid (sameB_len hp hq (by rw [bne_iff_ne] at hl; omega))
        go_wp2_with fail
        go_ret
        exact ⟨by rw [hF.out]; rfl, hbw2⟩
      | false =>
        have hF := Lib.hid (sameB_like hp hq (by rw [bne_eq_false_iff_eq] at hl; omega))
        have tp := (treeB_iff ps).1 hp
        have tq := (treeB_iff qs).1 hq
        have hpos := tp.pos
        have hmax := tp.max
        have hpos' := tq.pos
        have hmax' := tq.max
        have hba : Below w2.heap.size w2 (w2.alloc (.cells #[.func (.func 48) #[] #[.pointer (some ⟨w.heap.size, 0, none⟩), .pointer (some ⟨w.heap.size + 1, 0, none⟩), .pointer (some ⟨w2.heap.size, 0, none⟩)]] 87)) := (Below.refl _ _).alloc (Nat.le_refl _) _
        have hbb := hbw2.trans (hba.mono hbs2)
        have hcall := same_in ps qs A A' c c' lo hi lo' hi' w.heap.size (w.heap.size + 1) w2.heap.size tp.inr tq.inr (by omega) (by omega) ps.length 0 0 _ hpos hpos' (by omega) (by have := hbb.size; omega) (by have := hbb.size; omega) (hsl.below vNd_good hbb hhi) (hsl'.below vNd_good hbb hhi') (hr5.alloc _) (hr6.alloc _) (Row.new w2 _ _)
        clear tp tq
        go_wp2_with fail
        refine hcall.mono ?_
        rintro e w5 ⟨rfl, hb5⟩
        go_wp2_with fail
        go_ret
        exact ⟨by rw [hF.out]; rfl, hbb.trans (hb5.mono hbb.size)⟩
end Go.Proofs.YtimhlnndobfehaaDoor
namespace Go.Proofs.YtimhlnndobfehaaDoor
open Go.RowKit
set_option linter.unusedVariables false

/-- Patterns in their boxes. -/
def Hds (w : World) (l : List (Nat × Option Addr × Nat × List Nd)) : Prop := ∀ x ∈ l, Hd w x.1 x.2.1 x.2.2.1 x.2.2.2
structure HdSt (W : World) (l : List (Nat × Option Addr × Nat × List Nd)) (w : World) : Prop where
  hds : Hds w l
  below : Below W.heap.size W w
section
variable {W w w' : World} {l : List (Nat × Option Addr × Nat × List Nd)}
theorem HdSt.on (h : HdSt W l w) (hb : Below w.heap.size w w') : HdSt W l w' := ⟨fun x hx => (h.hds x hx).on hb, h.below.trans (hb.mono h.below.size)⟩
theorem HdSt.push (h : HdSt W l w) {A : Option Addr} {c : Nat} {ns : List Nd} (hs : Sl 5 vNd w 0 w.heap.size A ns) (h1 : ns.length ≤ c) (h2 : c ≤ maxLen) : HdSt W ((w.heap.size, A, c, ns) :: l) (w.alloc (.cells #[.slice A ns.length c] 28)) := by
  have hb : Below w.heap.size w (w.alloc (.cells #[.slice A ns.length c] 28)) := (Below.refl _ _).alloc (Nat.le_refl _) _
  refine ⟨fun x hx => ?_, (h.on hb).below⟩
  rcases List.mem_cons.1 hx with rfl | hx
  · exact Hd.box hs h1 h2
  · exact (h.on hb).hds x hx
theorem HdSt.at_ {g c : Nat} {A : Option Addr} {ns : List Nd} (h : HdSt W l w) (hm : (g, A, c, ns) ∈ l) : Hd w g A c ns := h.hds _ hm
theorem HdSt.cl {g c : Nat} {A : Option Addr} {ns : List Nd} (h : HdSt W l w) (hm : (g, A, c, ns) ∈ l) : w.cell? ⟨g, 0, none⟩ = some (.slice A ns.length c) ∧ g < w.heap.size := ⟨(h.at_ hm).cell, (h.at_ hm).lt⟩
end
section
variable {w : World} {g g' c c' : Nat} {A A' : Option Addr} {p q : List Nd}
theorem Hd.turned (h : Hd w g A c p) : Calls Tryd.prog 21 #[.agg #[.slice A p.length c]] w fun e w' => ∃ v, e = .returned (.tuple #[v, .int .i64 (turnedE p)]) ∧ PatRes w w' v (turnedN p) :=
  pturned_any (A := A) (c := c) (ns := p) (lo := 0) (hi := w.heap.size) (w := w) (by have := h.c1; have := h.c2; unfold maxLen at this; omega) (Nat.le_refl _) h.sl
theorem Hd.same (h : Hd w g A c p) (h' : Hd w g' A' c' q) : Calls Tryd.prog 14 #[.agg #[.slice A p.length c], .agg #[.slice A' q.length c']] w fun e w' => e = .returned (.bool (sameB p q)) ∧ Below w.heap.size w w' :=
  same_any A A' c c' 0 w.heap.size 0 w.heap.size p q w (by have := h.c1; have := h.c2; unfold maxLen at this; omega) (by have := h'.c1; have := h'.c2; unfold maxLen at this; omega) (Nat.le_refl _) (Nat.le_refl _) h.sl h'.sl
end
end Go.Proofs.YtimhlnndobfehaaDoor
