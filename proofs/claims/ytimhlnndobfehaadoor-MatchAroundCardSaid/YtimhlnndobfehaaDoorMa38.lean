/- MatchAround: the statement's walk. The alphabets that come in: what lies in their cells. -/
import Derived.Test.YtimhlnndobfehaaDoorMa37
import Derived.Test.YtimhlnndobfehaaDoorMa06
import Derived.Test.YtimhlnndobfehaaDoorMa02
namespace Go.Proofs.YtimhlnndobfehaaDoor
open Go.RowKit
open Go.Lib (Utf8Tabs)
set_option linter.unusedVariables false

/-- Between by what begins and what ends. -/
theorem around_law (a : Al) (ls rs : List Nd) (s : ByteArray) (f t : Int) :
    ((betweenS a ls rs s f t).2 ≠ 0 → (betweenS a ls rs s f t).1 = false ∧ ((beginsS a ls s f).2 ≠ 0 ∨ (endsS a rs s t).2 ≠ 0)) ∧
    ((betweenS a ls rs s f t).2 = 0 → (beginsS a ls s f).2 = 0 ∧ (endsS a rs s t).2 = 0 ∧ (betweenS a ls rs s f t).1 = (decide (0 < (beginsS a ls s f).1.length) && decide (0 < (endsS a rs s t).1.length))) := by
  by_cases hp : patE a ls = 0
  · by_cases hb : begE a rs s = 0
    · have hbl : begE a ls s = 0 := by
        unfold begE
        rw [if_neg (by simp [hp])]
        exact (beg_zero hb).2
      have h1 : betweenS a ls rs s f t = if placeB (matW a s) f && placeB (matW a s) t then
        (decide (0 < (begI ls (matW a s) f.toNat (f.toNat + 1)).length) && decide (0 < (endsI rs (matW a s) 0 t.toNat).length), 0) else (false, 2) := by
        unfold betweenS
        rw [if_neg (by simp [hp]), if_neg (by simp [hb])]
      have h2 : beginsS a ls s f = if placeB (matW a s) f then (begI ls (matW a s) f.toNat (f.toNat + 1), 0) else ([], 2) := by unfold beginsS; rw [if_neg (by simp [hbl])]
      have h3 : endsS a rs s t = if placeB (matW a s) t then (endsI rs (matW a s) 0 t.toNat, 0) else ([], 2) := by unfold endsS; rw [if_neg (by simp [hb])]
      rw [h1, h2, h3]
      cases placeB (matW a s) f <;> cases placeB (matW a s) t <;> simp
    · have h1 : betweenS a ls rs s f t = (false, begE a rs s) := by unfold betweenS; rw [if_neg (by simp [hp]), if_pos hb]
      have h3 : endsS a rs s t = ([], begE a rs s) := by unfold endsS; rw [if_pos hb]
      rw [h1, h3]
      exact ⟨fun h => ⟨rfl, .inr h⟩, fun h => absurd h hb⟩
  · have hbl : begE a ls s = patE a ls := by unfold begE; rw [if_pos hp]
    have h1 : betweenS a ls rs s f t = (false, patE a ls) := by unfold betweenS; rw [if_pos hp]
    have h2 : beginsS a ls s f = ([], patE a ls) := by unfold beginsS; rw [hbl, if_pos hp]
    rw [h1, h2]
    exact ⟨fun h => ⟨rfl, .inl h⟩, fun h => absurd h hp⟩
set_option maxHeartbeats 8000000 in
set_option maxRecDepth 100000 in
theorem around_walk (A1 A2 An Am : Option Addr) (c1 c2 cn cm : Nat) (a : Al) (ls rs : List Nd) (s : ByteArray) (f t : Int) (w : World) (hin : AlIn w 0 w.heap.size A1 A2 a) (hT : Utf8Tabs 0 1 w) (hls : Sl 5 vNd w 0 w.heap.size An ls) (hrs : Sl 5 vNd w 0 w.heap.size Am rs) (hm : ls.length ≤ 9223372036854775807) (hm2 : rs.length ≤ 9223372036854775807) (hs : s.size ≤ maxLen) :
    Calls Tryd.prog 9 #[.agg #[.slice A1 a.feats.length c1, .slice A2 a.lets.length c2], .agg #[.slice An ls.length cn], .agg #[.slice Am rs.length cm], .string s, .int .i64 f, .int .i64 t] w fun e w' => e = .returned (.bool true) ∧ Below w.heap.size w w' := by
  have hs0 : MSt A1 A2 An Am c1 c2 cn cm a ls rs w _ := MSt.new hin hT hls hrs
  have HAW := Lib.hid (fun (wx : World) (h : MSt A1 A2 An Am c1 c2 cn cm a ls rs w wx) => alive_any wx h.tabs)
  have HM1 := Lib.hid (fun (wx : World) => much_any An ls.length cn s wx hm hs)
  have HM2 := Lib.hid (fun (wx : World) => much_any Am rs.length cm s wx hm2 hs)
  have HB := Lib.hid (fun (wx : World) (h : MSt A1 A2 An Am c1 c2 cn cm a ls rs w wx) => between_any A1 A2 An Am c1 c2 cn cm 0 a ls rs s f t wx h.al h.tabs h.l h.r hm hm2 hs)
  have HL := Lib.hid (fun (wx : World) (h : MSt A1 A2 An Am c1 c2 cn cm a ls rs w wx) => begins_op A1 A2 An c1 c2 cn 0 a ls s f wx h.al h.tabs h.l hm hs)
  have HR := Lib.hid (fun (wx : World) (h : MSt A1 A2 An Am c1 c2 cn cm a ls rs w wx) => ends_op A1 A2 Am c1 c2 cm 0 a rs s t wx h.al h.tabs h.r hm2 hs)
  have HLAW := Lib.hid (around_law a ls rs s f t)
  generalize betweenS a ls rs s f t = B at *
  generalize beginsS a ls s f = L at *
  generalize endsS a rs s t = R at *
  obtain ⟨B1, B2⟩ := B
  obtain ⟨L1, L2⟩ := L
  obtain ⟨R1, R2⟩ := R
  clear hin hT hls hrs
  have haw := Lib.hid (HAW.out _ hs0)
  have HS0 := Lib.hid hs0
  clear hs0
  go_enter Tryd.func9, Tryd.ntmps9
  go_wp2_with fail
  refine haw.out.mono ?_
  rintro e0 w1 ⟨rfl, hb1⟩
  have hs1 := HS0.out.on hb1
  have HS1 := Lib.hid hs1
  obtain ⟨a1, _⟩ := hs1.r0.cel (i := 0) rfl
  obtain ⟨d1, _⟩ := hs1.r0.cel (i := 1) rfl
  obtain ⟨p1, _⟩ := hs1.r1.cel (i := 0) rfl
  obtain ⟨q1, _⟩ := hs1.r2.cel (i := 0) rfl
  have l1 := hs1.r2.lt
  have HBW1 := Lib.hid hs1.below
  clear HS0 haw HAW hb1 hs1
  have hm1 := Lib.hid (HM1.out w1)
  cases h1 : muchB ls.length s.size with
  | true =>
    rw [h1] at hm1
    clear h1
    go_wp2_with fail
    refine hm1.out.mono ?_
    rintro e w2 ⟨rfl, hb2⟩
    have HF := Lib.hid (HBW1.out.trans (hb2.mono HBW1.out.size))
    clear hb2
    go_wp2_with fail
    go_ret
    exact ⟨rfl, HF.out⟩
  | false =>
    rw [h1] at hm1
    clear h1
    go_wp2_with fail
    refine hm1.out.mono ?_
    rintro e w2 ⟨rfl, hb2⟩
    have hs2 := HS1.out.on hb2
    have HS2 := Lib.hid hs2
    obtain ⟨a2, _⟩ := hs2.r0.cel (i := 0) rfl
    obtain ⟨d2, _⟩ := hs2.r0.cel (i := 1) rfl
    obtain ⟨p2, _⟩ := hs2.r1.cel (i := 0) rfl
    obtain ⟨q2, _⟩ := hs2.r2.cel (i := 0) rfl
    have l2 := hs2.r2.lt
    have HBW2 := Lib.hid hs2.below
    have hm2' := Lib.hid (HM2.out w2)
    clear hs2 hb2 HS1 hm1 a1 d1 p1 q1 l1 HBW1
    cases h2 : muchB rs.length s.size with
    | true =>
      rw [h2] at hm2'
      clear h2
      go_wp2_with fail
      refine hm2'.out.mono ?_
      rintro e w3 ⟨rfl, hb3⟩
      have HF := Lib.hid (HBW2.out.trans (hb3.mono HBW2.out.size))
      clear hb3
      go_wp2_with fail
      go_ret
      exact ⟨rfl, HF.out⟩
    | false =>
      rw [h2] at hm2'
      clear h2
      go_wp2_with fail
      refine hm2'.out.mono ?_
      rintro e w3 ⟨rfl, hb3⟩
      have hs3 := HS2.out.on hb3
      have HS3 := Lib.hid hs3
      obtain ⟨a3, _⟩ := hs3.r0.cel (i := 0) rfl
      obtain ⟨d3, _⟩ := hs3.r0.cel (i := 1) rfl
      obtain ⟨p3, _⟩ := hs3.r1.cel (i := 0) rfl
      obtain ⟨q3, _⟩ := hs3.r2.cel (i := 0) rfl
      have l3 := hs3.r2.lt
      have HBW3 := Lib.hid hs3.below
      have hb := Lib.hid (HB.out w3 hs3)
      clear hs3 hb3 HS2 hm2' a2 d2 p2 q2 l2 HBW2
      by_cases h3 : 60 < ls.length
      · have h3' : (60 : Int) < (ls.length : Int) := by omega
        clear hb
        go_wp2_with fail
        go_ret
        exact ⟨rfl, HBW3.out⟩
      have h3' : ¬ (60 : Int) < (ls.length : Int) := by omega
      by_cases h4 : 60 < rs.length
      · have h4' : (60 : Int) < (rs.length : Int) := by omega
        clear hb
        go_wp2_with fail
        go_ret
        exact ⟨rfl, HBW3.out⟩
      have h4' : ¬ (60 : Int) < (rs.length : Int) := by omega
      go_wp2_with fail
      refine hb.out.mono ?_
      rintro e w4 ⟨rfl, hb4⟩
      have hs4 := HS3.out.on hb4
      have HS4 := Lib.hid hs4
      obtain ⟨a4, _⟩ := hs4.r0.cel (i := 0) rfl
      obtain ⟨d4, _⟩ := hs4.r0.cel (i := 1) rfl
      obtain ⟨p4, _⟩ := hs4.r1.cel (i := 0) rfl
      obtain ⟨q4, _⟩ := hs4.r2.cel (i := 0) rfl
      have l4 := hs4.r2.lt
      have hl := Lib.hid (HL.out w4 hs4)
      clear hs4 hb4 HS3 hb a3 d3 p3 q3 l3 HBW3
      go_wp2_with fail
      refine hl.out.mono ?_
      rintro e w5 ⟨AL, cL, rfl, _, hb5⟩
      have hs5 := HS4.out.on hb5
      have HS5 := Lib.hid hs5
      obtain ⟨a5, _⟩ := hs5.r0.cel (i := 0) rfl
      obtain ⟨d5, _⟩ := hs5.r0.cel (i := 1) rfl
      obtain ⟨q5, _⟩ := hs5.r2.cel (i := 0) rfl
      have l5 := hs5.r2.lt
      have hr := Lib.hid (HR.out w5 hs5)
      clear hs5 hb5 HS4 hl a4 d4 p4 q4 l4
      go_wp2_with fail
      refine hr.out.mono ?_
      rintro e w6 ⟨AR, cR, rfl, _, hb6⟩
      have HF := Lib.hid ((HS5.out.on hb6).below)
      clear hb6 HS5 hr a5 d5 q5 l5
      obtain ⟨g1, g2⟩ := HLAW.out
      by_cases hB2 : B2 = 0
      · obtain ⟨rfl, rfl, rfl⟩ := g2 hB2
        subst hB2
        clear g1 g2 HLAW
        by_cases k1 : 0 < L1.length
        · have k1' : (0 : Int) < (L1.length : Int) := by omega
          by_cases k2 : 0 < R1.length
          · have k2' : (0 : Int) < (R1.length : Int) := by omega
            go_wp2_with fail
            go_ret
            exact ⟨by first | rfl | (simp [k1, k2]), HF.out⟩
          · have k2' : ¬ (0 : Int) < (R1.length : Int) := by omega
            go_wp2_with fail
            go_ret
            exact ⟨by first | rfl | (simp [k1, k2]), HF.out⟩
        · have k1' : ¬ (0 : Int) < (L1.length : Int) := by omega
          go_wp2_with fail
          go_ret
          exact ⟨by first | rfl | (simp [k1]), HF.out⟩
      · obtain ⟨rfl, hor⟩ := g1 hB2
        have hne : (B2 != 0) = true := by rw [bne_iff_ne]; exact hB2
        clear g1 g2 HLAW
        by_cases k1 : L2 = 0
        · have k2 : R2 ≠ 0 := hor.elim (fun h => absurd k1 h) id
          have e1 : (L2 != 0) = false := by rw [k1]; rfl
          have e2 : (R2 != 0) = true := by rw [bne_iff_ne]; exact k2
          clear hor k1 k2 hB2
          go_wp2_with fail
          go_ret
          exact ⟨rfl, HF.out⟩
        · have e1 : (L2 != 0) = true := by rw [bne_iff_ne]; exact k1
          clear hor k1 hB2
          go_wp2_with fail
          go_ret
          exact ⟨rfl, HF.out⟩
end Go.Proofs.YtimhlnndobfehaaDoor
namespace Go.Proofs.YtimhlnndobfehaaDoor
open Go.ChangeShapes Go.WideShapes Go.RowKit
set_option linter.unusedVariables false

def tLt : Ty Lt := ⟨3, vLt, fun _ => 4, fun _ => True⟩
set_option maxRecDepth 100000 in
theorem opens_Lt {H : Type} {enc : TypeId × Value → H} {w : World} : Opens enc Tryd.prog w 89 tLt := by
  refine ⟨by kernel_rfl, vLt_good, fun {fuel cs x ps} h hf => ?_⟩
  obtain ⟨ys, n, _, hx, hlen, hyl, hfs⟩ := DataW.trod_struct Tryd.underlying89 h
  have hlen' : cs.length = 3 := hlen.trans (by kernel_rfl)
  match cs, hlen', ys, hyl with
  | [c0, c1, c2], _, [y0, y1, y2], _ =>
    simp only [Prod.mk.injEq] at hx
    obtain ⟨rfl, rfl⟩ := hx
    have g0 := hfs 0 _ rfl
    have g1 := hfs 1 _ rfl
    have g2 := hfs 2 _ rfl
    have o0 := (opens_int Tryd.underlying21 (by kernel_rfl) : Opens enc Tryd.prog w _ _)
    have e0 : Tryd.prog.cellsOf _ = 1 := o0.size
    obtain ⟨a0, ⟨p0, k0⟩, _, m0, _⟩ := o0.cells (cs := [c0]) (x := y0.1) (ps := y0.2) (by simpa [e0] using g0) (fun b o hm => hf b o (List.mem_flatMap.2 ⟨y0, by simp, hm⟩))
    have o1 := (opens_int Tryd.underlying41 (by kernel_rfl) : Opens enc Tryd.prog w _ _)
    have e1 : Tryd.prog.cellsOf _ = 1 := o1.size
    obtain ⟨a1, ⟨p1, k1⟩, _, m1, _⟩ := o1.cells (cs := [c1]) (x := y1.1) (ps := y1.2) (by simpa [e1] using g1) (fun b o hm => hf b o (List.mem_flatMap.2 ⟨y1, by simp, hm⟩))
    obtain ⟨a2, ⟨p2, k2⟩, _, m2, _⟩ := o1.cells (cs := [c2]) (x := y2.1) (ps := y2.2) (by simpa [e1] using g2) (fun b o hm => hf b o (List.mem_flatMap.2 ⟨y2, by simp, hm⟩))
    have k1 := kin_u32 k1
    have k2 := kin_u32 k2
    have n1 : ((a1.toNat : Nat) : Int) = a1 := Int.toNat_of_nonneg k1.1
    have n2 : ((a2.toNat : Nat) : Int) = a2 := Int.toNat_of_nonneg k2.1
    simp only [List.cons.injEq, and_true] at p0 p1 p2
    refine ⟨⟨a0, a1.toNat, a2.toNat⟩, ⟨by rw [p0, p1, p2, n1, n2], k0, by show a1.toNat < _; omega, by show a2.toNat < _; omega⟩, rfl, ?_, fun _ => trivial⟩
    simp only [tLt, tInt, List.map_cons, List.map_nil, Rows.uptoBulk, Rows.uptoBulkAll] at m0 m1 m2 ⊢
    omega

def vAl : Rep Al := fun w lo hi cs x => ∃ c0 c1, cs = [c0, c1] ∧ vSl 1 vStr w lo hi [c0] x.feats ∧ vSl 3 vLt w lo hi [c1] x.lets
theorem vAl_good : vAl.Good :=
  ⟨fun k ⟨c0, c1, e, h0, h1⟩ => ⟨c0, c1, e, (vSl_good vStr_good).keep k h0, (vSl_good vLt_good).keep k h1⟩, fun a b ⟨c0, c1, e, h0, h1⟩ => ⟨c0, c1, e, (vSl_good vStr_good).wide a b h0, (vSl_good vLt_good).wide a b h1⟩⟩
def tAl : Ty Al := ⟨2, vAl, fun x => (tSl 16 tStr).m x.feats + (tSl 12 tLt).m x.lets + 1, fun x => (tSl 16 tStr).Q x.feats ∧ (tSl 12 tLt).Q x.lets⟩
set_option maxRecDepth 100000 in
theorem opens_Al {H : Type} {enc : TypeId × Value → H} {w : World} : Opens enc Tryd.prog w 25 tAl := by
  refine ⟨by kernel_rfl, vAl_good, fun {fuel cs x ps} h hf => ?_⟩
  obtain ⟨ys, n, _, hx, hlen, hyl, hfs⟩ := DataW.trod_struct Tryd.underlying25 h
  have hlen' : cs.length = 2 := hlen.trans (by kernel_rfl)
  match cs, hlen', ys, hyl with
  | [c0, c1], _, [y0, y1], _ =>
    simp only [Prod.mk.injEq] at hx
    obtain ⟨rfl, rfl⟩ := hx
    have g0 := hfs 0 _ rfl
    have g1 := hfs 1 _ rfl
    have o0 : Opens enc Tryd.prog w _ (tSl 16 tStr) := opens_slice Tryd.underlying22 (by kernel_rfl) (by kernel_rfl) (by decide) (opens_str Tryd.underlying9 (by kernel_rfl))
    have e0 : Tryd.prog.cellsOf _ = 1 := o0.size
    obtain ⟨a0, p0, _, m0, q0⟩ := o0.cells (cs := [c0]) (x := y0.1) (ps := y0.2) (by simpa [e0] using g0) (fun b o hm => hf b o (List.mem_flatMap.2 ⟨y0, by simp, hm⟩))
    have o1 : Opens enc Tryd.prog w _ (tSl 12 tLt) := opens_slice Tryd.underlying23 (by kernel_rfl) (by kernel_rfl) (by decide) opens_Lt
    have e1 : Tryd.prog.cellsOf _ = 1 := o1.size
    obtain ⟨a1, p1, _, m1, q1⟩ := o1.cells (cs := [c1]) (x := y1.1) (ps := y1.2) (by simpa [e1] using g1) (fun b o hm => hf b o (List.mem_flatMap.2 ⟨y1, by simp, hm⟩))
    refine ⟨⟨a0, a1⟩, ⟨c0, c1, rfl, p0, p1⟩, rfl, ?_, fun hq => ⟨q0 fun n hn => hq n (by simp only [DataW.weights, Tryd.underlying25]; exact weights_each 0 rfl rfl hn), q1 fun n hn => hq n (by simp only [DataW.weights, Tryd.underlying25]; exact weights_each 1 rfl rfl hn)⟩⟩
    simp only [tAl, List.map_cons, List.map_nil, Rows.uptoBulk, Rows.uptoBulkAll]
    omega
theorem al_cells {w : World} {lo hi : Nat} {cs : List Value} {x : Al} (h : vAl w lo hi cs x) :
    ∃ A1 c1 A2 c2, cs = [.slice A1 x.feats.length c1, .slice A2 x.lets.length c2] ∧ AlIn w lo hi A1 A2 x := by
  obtain ⟨s0, s1, rfl, ⟨A1, c1, e1, h1, h2, h3⟩, ⟨A2, c2, e2, h4, h5, h6⟩⟩ := h
  simp only [List.cons.injEq, and_true] at e1 e2
  unfold maxLen at h2 h5
  exact ⟨A1, c1, A2, c2, by rw [e1, e2], h3, h6, by omega, by omega⟩
end Go.Proofs.YtimhlnndobfehaaDoor
