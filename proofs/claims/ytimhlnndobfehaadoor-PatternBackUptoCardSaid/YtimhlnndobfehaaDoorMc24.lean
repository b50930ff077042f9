/- feature.Of, feature.Has. -/
import Derived.Test.YtimhlnndobfehaaDoorMc17
import Derived.Test.YtimhlnndobfehaaDoorMc06
namespace Go.Proofs.YtimhlnndobfehaaDoor
open Go.RowKit
set_option linter.unusedVariables false

set_option maxHeartbeats 2000000 in
theorem of1_any (x : Lt) (b : Nat) (r : Int) (w : World) (hc : w.cell? ⟨b, 0, none⟩ = some (.int .i32 r)) (hb : b < w.heap.size) :
    Calls Tryd.prog 74 #[.agg #[.int .i32 x.rune, .int .u32 (x.plus : Int), .int .u32 (x.minus : Int)], .pointer (some ⟨b, 0, none⟩)] w fun e w' => e = .returned (.bool (x.rune == r)) ∧ Below w.heap.size w w' := by
  obtain ⟨xr, xp, xm⟩ := x
  go_enter Tryd.func74, Tryd.ntmps74
  go_wp2_with fail
  go_ret
  exact ⟨rfl, (Below.refl _ _).alloc (Nat.le_refl _) _⟩

def IdxSt (a : Al) (r : Int) (W : World) (i : Value) (wr : World) : Prop := ∃ k : Nat, k ≤ a.lets.length ∧ i = .int .i64 (k : Int) ∧ (∀ j (hj : j < k) (hl : j < a.lets.length), a.lets[j].rune ≠ r) ∧ Below W.heap.size W wr
set_option maxHeartbeats 4000000 in
set_option maxRecDepth 100000 in
theorem indexFunc_any (A2 : Option Addr) (c2 b lo : Nat) (a : Al) (r : Int) (w : World) (hl : Sl 3 vLt w lo w.heap.size A2 a.lets) (hn : a.lets.length ≤ 9223372036854775807) (hc : w.cell? ⟨b, 0, none⟩ = some (.int .i32 r)) (hb : b < w.heap.size) :
    Calls Tryd.prog 73 #[.slice A2 a.lets.length c2, .func (.func 74) #[] #[.pointer (some ⟨b, 0, none⟩)]] w fun e w' => e = .returned (.int .i64 (numI a r)) ∧ Below w.heap.size w w' := by
  have HC := Lib.hid hc
  clear hc
  go_enter Tryd.func73, Tryd.ntmps73
  go_wp2_with fail
  go_loopw [8] (fun i wr => IdxSt a r w i wr) (fun i _ => a.lets.length - (intOf i).toNat)
  case atStart => exact ⟨0, by omega, rfl, (fun j hj => by omega), Below.refl _ _⟩
  case round =>
    obtain ⟨k, hk, rfl, hne, hbw⟩ := hrel
    have hbs := hbw.size
    have HNE := Lib.hid hne
    clear hne
    by_cases hlt : k < a.lets.length
    · obtain ⟨b1, off, rfl, _, hbb, ⟨x0, y0⟩, ⟨x1, y1⟩, ⟨x2, y2⟩, hrr, hpp, hmm⟩ := lt_at (hl.below vLt_good hbw (Nat.le_refl _)) hlt
      have hs := fun he => numI_some (a := a) (r := r) hlt he HNE.out
      have hnx : a.lets[k].rune ≠ r → ∀ j (hj : j < k + 1) (hl : j < a.lets.length), a.lets[j].rune ≠ r := fun h j hj hl => by
        by_cases hjk : j < k
        · exact HNE.out j hjk hl
        · have : j = k := by omega
          subst this
          exact h
      have hcw : wr.cell? ⟨b, 0, none⟩ = some (.int .i32 r) := ((bcell hbw).1 b 0 hb).trans HC.out
      have hcall := of1_any a.lets[k] b r wr hcw (by omega)
      generalize a.lets[k] = l at *
      have HS := Lib.hid hs
      have HNX := Lib.hid hnx
      have HCALL := Lib.hid hcall
      have HB := Lib.hid hbw
      clear hs hnx hcall hcw hbw
      by_cases he : l.rune = r
      · have hd : (l.rune == r) = true := by rw [beq_iff_eq]; exact he
        rw [hd] at HCALL
        have HF := Lib.hid (HS.out he)
        clear he HS HNX hd
        go_wp2_with fail
        refine HCALL.out.mono ?_
        rintro e w1 ⟨rfl, hb1⟩
        have HB1 := Lib.hid (HB.out.trans (hb1.mono hbs))
        clear hb1 HB
        go_wp2_with fail
        go_ret
        exact ⟨by rw [HF.out]; rfl, HB1.out⟩
      · have hd : (l.rune == r) = false := by rw [beq_eq_false_iff_ne]; exact he
        rw [hd] at HCALL
        have HF := Lib.hid (HNX.out he)
        clear HS HNX hd
        go_wp2_with fail
        refine HCALL.out.mono ?_
        rintro e w1 ⟨rfl, hb1⟩
        have HB1 := Lib.hid (HB.out.trans (hb1.mono hbs))
        clear hb1 HB
        go_wp2_with fail
        exact ⟨⟨k + 1, by omega, by go_num, HF.out, HB1.out⟩, by simp [intOf]; omega⟩
    · have HF := Lib.hid (numI_none (a := a) (r := r) (fun j hl => HNE.out j (by omega) hl))
      have HB := Lib.hid hbw
      clear hbw
      go_wp2_with fail
      go_ret
      exact ⟨by rw [HF.out]; rfl, HB.out⟩

def ltZ : Lt := ⟨0, 0, 0⟩
/-- A rune's letter, and the error. -/
def ofS (a : Al) (r : Int) : Lt × Int := if alOk a = false then (ltZ, 7) else match num a r with | none => (ltZ, 5) | some k => (a.lets.getD k ltZ, 0)
theorem num_lt {a : Al} {r : Int} {k : Nat} (h : num a r = some k) : k < a.lets.length := by
  have key : ∀ (l : List Lt) (i k : Nat), numF l i r = some k → k < i + l.length := by
    intro l
    induction l with
    | nil => intro i k h; simp [numF] at h
    | cons x l ih =>
      intro i k h
      unfold numF at h
      split at h
      · injection h with h; simp only [List.length_cons]; omega
      · have := ih (i + 1) k h; simp only [List.length_cons]; omega
  have := key a.lets 0 k h
  omega
def OfOut (r : Lt × Int) (W : World) (e : Ending) (w' : World) : Prop := e = .returned (.tuple #[.agg #[.int .i32 r.1.rune, .int .u32 (r.1.plus : Int), .int .u32 (r.1.minus : Int)], .int .i64 r.2]) ∧ Below W.heap.size W w'
theorem OfOut.mk' {r : Lt × Int} {W w' : World} {x : Int} {p m : Nat} {E : Int} (h : r = (⟨x, p, m⟩, E)) (hb : Below W.heap.size W w') : OfOut r W (.returned (.tuple #[.agg #[.int .i32 x, .int .u32 (p : Int), .int .u32 (m : Int)], .int .i64 E])) w' := by
  subst h
  exact ⟨rfl, hb⟩
theorem res_letter {fn : Func} {p q : Tmp} (h : fn.results = #[.cell p 89, .tmp q]) (tmps : Array Value) (w : World) (g : Nat) (c0 c1 c2 : Value) (hp : tmps.getD p undef = .pointer (some ⟨g, 0, none⟩)) (hg : Row w g 89 [c0, c1, c2]) :
    (results fn tmps).run Tryd.prog w = .ok (.tuple #[.agg #[c0, c1, c2], tmps.getD q undef]) w := by
  have hl := run_loadVar_row (P := Tryd.prog) w g 89 89 #[c0, c1, c2] (0, 0) _ hg Tryd.underlying89 rfl (by kernel_rfl)
  rw [results_cell_tmp h, hp]
  simp [asAddr, hl, Result.andThen]
set_option maxHeartbeats 4000000 in
set_option maxRecDepth 100000 in
theorem of_any (A1 A2 : Option Addr) (c1 c2 lo : Nat) (a : Al) (r : Int) (w : World) (hin : AlIn w lo w.heap.size A1 A2 a) (hr : -2147483648 ≤ r ∧ r ≤ 2147483647) :
    Calls Tryd.prog 49 #[.agg #[.slice A1 a.feats.length c1, .slice A2 a.lets.length c2], .int .i32 r] w (OfOut (ofS a r) w) := by
  obtain ⟨W3, hW3⟩ : ∃ W3, W3 = (((w.alloc (.cells #[.slice A1 a.feats.length c1, .slice A2 a.lets.length c2] 25)).alloc (.cells #[.int .i32 r] 21)).alloc (.cells #[.int .i32 0, .int .u32 0, .int .u32 0] 89)) := ⟨_, rfl⟩
  have hal : Below w.heap.size w W3 := by rw [hW3]; exact (((Below.refl _ _).alloc (Nat.le_refl _) _).alloc (by simp) _).alloc (by simp; omega) _
  have hr0 : Row W3 w.heap.size 25 [.slice A1 a.feats.length c1, .slice A2 a.lets.length c2] := by rw [hW3]; exact ((Row.new w _ _).alloc _).alloc _
  have hr1 : Row W3 (w.heap.size + 1) 21 [.int .i32 r] := by
    have h := (Row.new (w.alloc (.cells #[.slice A1 a.feats.length c1, .slice A2 a.lets.length c2] 25)) 21 [.int .i32 r]).alloc (.cells #[.int .i32 0, .int .u32 0, .int .u32 0] 89)
    rw [hW3]
    simpa using h
  have hr2 : Row W3 (w.heap.size + 1 + 1) 89 [.int .i32 0, .int .u32 0, .int .u32 0] := by
    have h := Row.new ((w.alloc (.cells #[.slice A1 a.feats.length c1, .slice A2 a.lets.length c2] 25)).alloc (.cells #[.int .i32 r] 21)) 89 [.int .i32 0, .int .u32 0, .int .u32 0]
    rw [hW3]
    simpa using h
  have hcall := Lib.hid (check_any A1 A2 c1 c2 lo a _ (hin.on hal))
  have hof7 : alOk a = false → ofS a r = (⟨0, 0, 0⟩, 7) := fun h => by unfold ofS; rw [if_pos h]; rfl
  have hof5 : alOk a = true → num a r = none → ofS a r = (⟨0, 0, 0⟩, 5) := fun h h1 => by unfold ofS; rw [if_neg (by rw [h]; simp), h1]; rfl
  have hof0 : ∀ k, alOk a = true → num a r = some k → ∀ (hk : k < a.lets.length), ofS a r = (⟨a.lets[k].rune, a.lets[k].plus, a.lets[k].minus⟩, 0) := fun k h h1 hk => by unfold ofS; rw [if_neg (by rw [h]; simp), h1]; simp only [List.getD, List.getElem?_eq_getElem hk]; rfl
  have HOF7 := Lib.hid hof7
  have HOF5 := Lib.hid hof5
  have HOF0 := Lib.hid hof0
  clear hof7 hof5 hof0
  have hn2 := hin.n2
  rw [hW3] at hcall
  go_enter Tryd.func49, Tryd.ntmps49
  go_wp2_with fail
  refine hcall.out.mono ?_
  rw [← hW3]
  rintro e w1 ⟨rfl, hb1⟩
  have hbw := hal.trans (hb1.mono hal.size)
  have hs0 := hr0.below hb1 hr0.lt
  have hs1 := hr1.below hb1 hr1.lt
  have hs2 := hr2.below hb1 hr2.lt
  clear hcall hr0 hr1 hr2 hb1 hW3 hal
  obtain ⟨x0, y0⟩ := hs2.cel (i := 0) rfl
  obtain ⟨x1, y1⟩ := hs2.cel (i := 1) rfl
  obtain ⟨x2, y2⟩ := hs2.cel (i := 2) rfl
  have hl2 := hs2.lt
  cases hok : alOk a with
  | false =>
    have he : alE a = 7 := by unfold alE; rw [hok]; rfl
    rw [he]
    have HF := Lib.hid (OfOut.mk' (r := ofS a r) (W := w) (x := 0) (p := 0) (m := 0) (E := 7) (HOF7.out hok) (((hbw.setCell (p := ⟨w.heap.size + 1 + 1, 0, none⟩) (by simp; omega) (.int .i32 0)).setCell (p := ⟨w.heap.size + 1 + 1, 1, none⟩) (by simp; omega) (.int .u32 0)).setCell (p := ⟨w.heap.size + 1 + 1, 2, none⟩) (by simp; omega) (.int .u32 0)))
    have hrow := Lib.hid (((hs2.set_ 0 (.int .i32 0)).set_ 1 (.int .u32 0)).set_ 2 (.int .u32 0))
    clear hok HOF7 HOF5 HOF0 he hs0 hs1 hs2 hbw
    go_wp2_with fail
    (try simp only [Exit.inBlock, Exit.then])
    refine bodyPost_ret (res_letter rfl _ _ (w.heap.size + 1 + 1) _ _ _ rfl hrow.out) rfl ?_
    exact HF.out
  | true =>
    have he : alE a = 0 := alE_zero.2 hok
    rw [he]
    obtain ⟨q1, _⟩ := hs0.cel (i := 1) rfl
    obtain ⟨q2, _⟩ := hs1.cel (i := 0) rfl
    have hl0 := hs0.lt
    have hl1 := hs1.lt
    have hix := Lib.hid (indexFunc_any A2 c2 (w.heap.size + 1) lo a r w1 ((hin.l.below vLt_good hbw (Nat.le_refl _)).wide vLt_good (Nat.le_refl _) hbw.size) hn2 q2 hl1)
    clear he q2 HOF7
    cases hnum : num a r with
    | none =>
      have hni : numI a r = -1 := by unfold numI; rw [hnum]
      rw [hni] at hix
      have HF := Lib.hid (HOF5.out hok hnum)
      clear hok hnum hni HOF5 HOF0 x0 x1 x2 y0 y1 y2 hs0 hs1
      go_wp2_with fail
      refine hix.out.mono ?_
      rintro e w2 ⟨rfl, hb2⟩
      have hs3 := hs2.below hb2 hl2
      have hbw2 := hbw.trans (hb2.mono hbw.size)
      obtain ⟨x0, y0⟩ := hs3.cel (i := 0) rfl
      obtain ⟨x1, y1⟩ := hs3.cel (i := 1) rfl
      obtain ⟨x2, y2⟩ := hs3.cel (i := 2) rfl
      have HF2 := Lib.hid (OfOut.mk' (r := ofS a r) (W := w) (x := 0) (p := 0) (m := 0) (E := 5) HF.out (((hbw2.setCell (p := ⟨w.heap.size + 1 + 1, 0, none⟩) (by simp; omega) (.int .i32 0)).setCell (p := ⟨w.heap.size + 1 + 1, 1, none⟩) (by simp; omega) (.int .u32 0)).setCell (p := ⟨w.heap.size + 1 + 1, 2, none⟩) (by simp; omega) (.int .u32 0)))
      have hrow := Lib.hid (((hs3.set_ 0 (.int .i32 0)).set_ 1 (.int .u32 0)).set_ 2 (.int .u32 0))
      clear hs2 hs3 hb2 hbw hbw2 hix
      go_wp2_with fail
      (try simp only [Exit.inBlock, Exit.then])
      refine bodyPost_ret (res_letter rfl _ _ (w.heap.size + 1 + 1) _ _ _ rfl hrow.out) rfl ?_
      exact HF2.out
    | some k =>
      have hk := num_lt hnum
      have hni : numI a r = (k : Int) := by unfold numI; rw [hnum]
      rw [hni] at hix
      have HF := Lib.hid (HOF0.out k hok hnum hk)
      have hk0 : 0 ≤ (k : Int) := by omega
      have hk1 : (k : Int) < (a.lets.length : Int) := by omega
      clear hok hnum hni HOF5 HOF0 x0 x1 x2 y0 y1 y2 hs1
      go_wp2_with fail
      refine hix.out.mono ?_
      rintro e w2 ⟨rfl, hb2⟩
      have hs3 := hs2.below hb2 hl2
      have hbw2 := hbw.trans (hb2.mono hbw.size)
      have hs4 := hs0.below hb2 hl0
      obtain ⟨q1, _⟩ := hs4.cel (i := 1) rfl
      obtain ⟨x0, y0⟩ := hs3.cel (i := 0) rfl
      obtain ⟨x1, y1⟩ := hs3.cel (i := 1) rfl
      obtain ⟨x2, y2⟩ := hs3.cel (i := 2) rfl
      obtain ⟨b, off, rfl, _, hbb, ⟨u0, v0⟩, ⟨u1, v1⟩, ⟨u2, v2⟩, _⟩ := lt_at (hin.l.below vLt_good hbw2 (Nat.le_refl _)) hk
      generalize a.lets[k] = x at *
      have HF2 := Lib.hid (OfOut.mk' (r := ofS a r) (W := w) (x := x.rune) (p := x.plus) (m := x.minus) (E := 0) HF.out (((hbw2.setCell (p := ⟨w.heap.size + 1 + 1, 0, none⟩) (by simp; omega) (.int .i32 x.rune)).setCell (p := ⟨w.heap.size + 1 + 1, 1, none⟩) (by simp; omega) (.int .u32 (x.plus : Int))).setCell (p := ⟨w.heap.size + 1 + 1, 2, none⟩) (by simp; omega) (.int .u32 (x.minus : Int))))
      have hrow := Lib.hid (((hs3.set_ 0 (.int .i32 x.rune)).set_ 1 (.int .u32 (x.plus : Int))).set_ 2 (.int .u32 (x.minus : Int)))
      clear hs2 hs3 hb2 hbw hbw2 hix hs0 hs4
      go_wp2_with fail
      (try simp only [Exit.inBlock, Exit.then])
      refine bodyPost_ret (res_letter rfl _ _ (w.heap.size + 1 + 1) _ _ _ rfl hrow.out) rfl ?_
      exact HF2.out
end Go.Proofs.YtimhlnndobfehaaDoor
