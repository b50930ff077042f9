/- slices.CompactFunc at rows of letters. -/
import Derived.Test.YtfjccjjdgbkbiaaDoorWr31
import Derived.BigRegion
import Derived.Deep.DeepCutAuto
import Derived.Deep.CutBlock
import Derived.Lib.SliceRun
import Derived.Test.YtfjccjjdgbkbiaaDoorWr14
namespace Go.Proofs.YtfjccjjdgbkbiaaDoor
open Go.RowKit
set_option linter.unusedVariables false

theorem onceL_snoc : ∀ (l : List (List Int)) (y x : List Int), onceL (l ++ [y] ++ [x]) = if y = x then onceL (l ++ [y]) else onceL (l ++ [y]) ++ [x]
  | [], y, x => by
    simp only [List.nil_append, List.cons_append]
    simp only [onceL]
    split <;> simp_all
  | [z], y, x => by
    have ih := onceL_snoc [] y x
    simp only [List.nil_append, List.cons_append] at ih ⊢
    by_cases h1 : z = y
    · simp only [onceL, h1, if_true]
      split <;> simp_all
    · simp only [onceL, h1, if_false]
      split <;> simp_all
  | z :: z' :: l, y, x => by
    have ih := onceL_snoc (z' :: l) y x
    simp only [List.cons_append] at ih ⊢
    by_cases h1 : z = z'
    · subst h1
      simp only [onceL, if_true]
      exact ih
    · simp only [onceL, h1, if_false]
      rw [ih]
      split <;> simp
theorem onceL_step {l : List (List Int)} {i : Nat} (hi : i + 1 < l.length) : onceL (l.take (i + 1 + 1)) = if l[i] = l[i + 1] then onceL (l.take (i + 1)) else onceL (l.take (i + 1)) ++ [l[i + 1]] := by
  have e1 : l.take (i + 1 + 1) = l.take (i + 1) ++ [l[i + 1]] := List.take_succ_eq_append_getElem hi
  have e2 : l.take (i + 1) = l.take i ++ [l[i]] := List.take_succ_eq_append_getElem (by omega)
  rw [e1, e2, onceL_snoc]
theorem onceL_small {l : List (List Int)} (h : l.length < 2) : onceL l = l := by
  match l, h with
  | [], _ => rfl
  | [x], _ => rfl
theorem RowsAt.fr {w w' : World} {base b2 g n cap : Nat} {vs cs : List Value} {ls : List (List Int)} (h : RowsAt w base vs ls) (hg : w.ownsRow b2 26 1 (.slice (some ⟨g, 0, none⟩) n cap) n cs) (hf : Fr (fun k => k = g) w w') : RowsAt w' base vs ls := by
  refine ⟨h.1, fun i hi => ?_⟩
  obtain ⟨A, c, e, ho⟩ := h.2 i hi
  exact ⟨A, c, e, own_fr ho hf fun k hk hkg => own_ne_own ho hg (by decide) k hk (by subst hkg; rfl)⟩
theorem RowsAt.take {w : World} {base : Nat} {vs : List Value} {ls : List (List Int)} (h : RowsAt w base vs ls) (k : Nat) : RowsAt w base (vs.take k) (ls.take k) := by
  refine ⟨by simp [h.1], fun i hi => ?_⟩
  have hi' : i < ls.length := by simp at hi; omega
  have hik : i < k := by simp at hi; omega
  obtain ⟨A, c, e, ho⟩ := h.2 i hi'
  refine ⟨A, c, ?_, ?_⟩
  · rw [List.getElem?_take, if_pos hik, e, List.getElem_take]
  · rw [List.getElem_take]; exact ho
theorem RowsAt.rat {w : World} {base : Nat} {vs : List Value} {ls : List (List Int)} (h : RowsAt w base vs ls) {i : Nat} (hi : i < ls.length) : ∃ A c, vs[i]? = some (.slice A ls[i].length c) ∧ RAt w A ls[i] ∧ w.ownsRow base 21 1 (.slice A ls[i].length c) ls[i].length (runeVs ls[i]) := by
  obtain ⟨A, c, e, ho⟩ := h.2 i hi
  exact ⟨A, c, e, own_rat ho, ho⟩
theorem zero_runes (w : World) : (zeroValue 26).run Tryd.prog w = .ok (.slice none 0 0) w := by kernel_rfl
theorem own_shrink {w : World} {base g n p cap : Nat} {cs : List Value} (h : w.ownsRow base 26 1 (.slice (some ⟨g, 0, none⟩) n cap) n cs) (hp : p ≤ n) : w.ownsRow base 26 1 (.slice (some ⟨g, 0, none⟩) p cap) p (cs.take p) := by
  have hl := h.1
  refine ⟨by rw [List.length_take]; omega, ?_⟩
  rcases h.2 with ⟨hv, _⟩ | ⟨g', cap', cur, hv, hbg, hgg, h1, h2, h3, h4⟩
  · cases hv
  · injection hv with hv1 _ hv3
    injection hv1 with hv1
    injection hv1 with hv1
    subst hv1 hv3
    refine .inr ⟨g, cap, cur, rfl, hbg, hgg, by omega, h2, h3, ?_⟩
    rw [← h4, List.take_take]
    congr 1
    omega
theorem clear_own {base g n cap : Nat} (z : Value) : ∀ (m p : Nat) (w : World) (cs : List Value), w.ownsRow base 26 1 (.slice (some ⟨g, 0, none⟩) n cap) n cs → p + m ≤ n →
    ∃ cs', (w.setCells g p (List.replicate m z)).ownsRow base 26 1 (.slice (some ⟨g, 0, none⟩) n cap) n cs' ∧ cs'.take p = cs.take p ∧ Fr (fun k => k = g) w (w.setCells g p (List.replicate m z))
  | 0, p, w, cs, h, _ => ⟨cs, h, rfl, Fr.refl _ _⟩
  | m + 1, p, w, cs, h, hp => by
    have hl := h.1
    have hpl : p < cs.length := by omega
    have hset := own_set h (g := g) rfl (j := p) hpl z
    obtain ⟨cs', h1, h2, h3⟩ := clear_own z m (p + 1) _ _ hset (by omega)
    refine ⟨cs', h1, ?_, (Fr.set_ (S := fun k => k = g) w ⟨g, p, none⟩ z rfl).trans h3 (fun _ _ h => h)⟩
    have h4 := congrArg (List.take p) h2
    rw [List.take_take, List.take_take, Nat.min_eq_left (by omega), List.take_set_of_le (Nat.le_refl _)] at h4
    exact h4
section
variable {P : Program} {w : World}
theorem wpList_clear {ops : Array Oper} {rest : List Oper} {o : Oper} {a : Act} {Q : Exit → Act → World → Prop} (hgd : o.guard = none) (s : Operand) (t : TypeId)
    (ho : o.op = .call { callee := .builtin .clear, args := #[s], argTypes := #[t] }) (V : Value) (hs : a.eval s = V) (W' : World) (hr : ∀ ty, (Builtin.clear_ #[t] ty #[V]).run P w = .ok (.tuple #[]) W')
    (hk : wpList P ops Q rest (a.put o.dst (.tuple #[])) W') : wpList P ops Q (o :: rest) a w := by
  refine wpList_plain hgd fun K hK => ?_
  have hr := hr o.type
  unfold Oper.wp execOp
  simp only [ho, resolve, invoke, builtin, Sem.run_bind, Sem.run_pure, Result.andThen_ok, List.map_toArray, List.map_cons, List.map_nil, hs, hr]
  exact hK _ _ hk
end
def CpSt (base g n cap : Nat) (W : World) (vs : List Value) (ls : List (List Int)) (k0 : Nat) (pv qv : Value) (wr : World) : Prop :=
  ∃ (p q : Nat) (cs : List Value) (l2 : List (List Int)), pv = .int .i64 (p : Int) ∧ qv = .int .i64 ((q + 1 : Nat) : Int) ∧ k0 + q < n ∧ p ≤ k0 + q ∧ 1 ≤ p ∧ l2.length = p ∧ Hid (l2 = onceL (ls.take (k0 + q + 1))) ∧ wr.ownsRow base 26 1 (.slice (some ⟨g, 0, none⟩) n cap) n cs ∧
    Hid (∀ j, k0 + q ≤ j → cs[j]? = vs[j]?) ∧ RowsAt wr base (cs.take p) l2 ∧ Fr (fun k => k = g) W wr
def CpOut (base g cap : Nat) (W : World) (ls : List (List Int)) (e : Ending) (w' : World) : Prop :=
  ∃ vs', e = .returned (.slice (some ⟨g, 0, none⟩) (onceL ls).length cap) ∧ w'.ownsRow base 26 1 (.slice (some ⟨g, 0, none⟩) (onceL ls).length cap) (onceL ls).length vs' ∧ RowsAt w' base vs' (onceL ls) ∧ Fr (fun k => k = g) W w'

set_option maxHeartbeats 8000000 in
set_option maxRecDepth 100000 in
theorem compact_any (base g cap : Nat) (vs : List Value) (ls : List (List Int)) (w : World) (hown : w.ownsRow base 26 1 (.slice (some ⟨g, 0, none⟩) ls.length cap) ls.length vs) (hrows : RowsAt w base vs ls)
    (hlen : ∀ l ∈ ls, l.length ≤ 64) (hn : ls.length ≤ 4096) :
    Calls Tryd.prog 60 #[.slice (some ⟨g, 0, none⟩) ls.length cap, .func (.func 61) #[] #[]] w (CpOut base g cap w ls) := by
  by_cases h2 : ls.length < 2
  · have hfin : CpOut base g cap w ls (.returned (.slice (some ⟨g, 0, none⟩) ls.length cap)) w := by
      have e := onceL_small h2
      exact ⟨vs, by rw [e], by rw [e]; exact hown, by rw [e]; exact hrows, Fr.refl _ _⟩
    have HF := Lib.hid hfin
    have h2' : (ls.length : Int) < 2 := by omega
    clear hfin hown hrows hlen
    go_enter Tryd.func60, Tryd.ntmps60
    go_wp2_with fail
    go_ret
    exact HF.out
  · have h2' : ¬ (ls.length : Int) < 2 := by omega
    have hcap : ls.length ≤ cap := by
      obtain ⟨_, _, e, h, _⟩ := own_form hown
      injection e with _ _ e3
      omega
    have hvl : vs.length = ls.length := hrows.1
    have HOWN := Lib.hid hown
    have HROWS := Lib.hid hrows
    have HLEN := Lib.hid hlen
    have HST : Hid (onceL (ls.take (0 + 1)) = ls.take (0 + 1)) := onceL_small (by rw [List.length_take]; omega)
    clear hown hrows hlen
    go_enter Tryd.func60, Tryd.ntmps60
    go_wp2_with fail
    go_loopw [5] (fun i wr => ∃ k : Nat, k < ls.length ∧ i = .int .i64 ((k + 1 : Nat) : Int) ∧ Hid (onceL (ls.take (k + 1)) = ls.take (k + 1)) ∧ Hid (Below w.heap.size w wr)) (fun i _ => ls.length - (intOf i).toNat)
    case atStart => exact ⟨0, by omega, rfl, HST, Below.refl _ _⟩
    case round =>
      clear HST
      obtain ⟨k, hk, rfl, hno, hB⟩ := hrel
      have hgl : g < wr.heap.size := by
        have := (HOWN.out.lt g rfl).2
        have := hB.out.size
        omega
      by_cases hlt : k + 1 < ls.length
      · obtain ⟨A1, d1, e1, ra1, ro1⟩ := HROWS.out.rat hlt
        obtain ⟨A0, d0, e0, ra0, ro0⟩ := HROWS.out.rat (show k < ls.length by omega)
        have hl1 := HLEN.out _ (List.getElem_mem hlt)
        have hl0 := HLEN.out _ (List.getElem_mem (show k < ls.length by omega))
        have hst := onceL_step hlt
        have HC := Lib.hid (fun (wx : World) (hx : Below wr.heap.size wr wx) => And.intro (own_cel (own_below (own_below HOWN.out hB.out) hx) e1).1 (own_cel (own_below (own_below HOWN.out hB.out) hx) e0).1)
        have HRA := Lib.hid (fun (wx : World) (hx : Below wr.heap.size wr wx) => And.intro ((ra1.below hB.out).below hx) ((ra0.below hB.out).below hx))
        have hd : Below wr.heap.size wr wr.drew := below_drewN (Below.refl _ _) 1
        have hw : IntKind.i64.wrap (((k + 1 : Nat) : Int) - 1) = (k : Int) := by rw [show (((k + 1 : Nat) : Int) - 1) = (k : Int) by omega]; exact IntWalk.i64_in _ (by omega)
        have j1 : ((k + 1 : Nat) : Int) < (ls.length : Int) := by omega
        have j2 : 0 ≤ ((k + 1 : Nat) : Int) := by omega
        have j3 : (k : Int) < (ls.length : Int) := by omega
        have j4 : 0 ≤ (k : Int) := by omega
        have htk : ls.take (k + 1) ++ [ls[k + 1]] = ls.take (k + 1 + 1) := (List.take_succ_eq_append_getElem hlt).symm
        have K1 : Hid (∀ wx, Below wr.heap.size wr wx → Calls Tryd.prog 61 #[.slice A1 ls[k + 1].length d1, .slice A0 ls[k].length d0] wx fun e w' => e = .returned (.bool (decide (ls[k + 1] = ls[k]))) ∧ Below wr.heap.size wr w') := by
          intro wx hx
          have hr := HRA.out wx hx
          refine (sort2_any A1 A0 d1 d0 _ _ wx hr.1 hr.2 (by omega) (by omega)).mono ?_
          rintro e w' ⟨rfl, hy⟩
          exact ⟨rfl, hx.trans (hy.mono hx.size)⟩
        generalize ls[k + 1] = x1 at *
        generalize ls[k] = x0 at *
        obtain ⟨D, hD⟩ : ∃ D, D = decide (x1 = x0) := ⟨_, rfl⟩
        rw [← hD] at K1
        have HD := Lib.hid hD
        have HST := Lib.hid hst
        have HTK := Lib.hid htk
        clear hst htk hD ra1 ra0 ro1 ro0 e1 e0
        go_upto_region 6 with (fail)
        refine wp_region_class (fun wx => Below wr.heap.size wr wx) (by kernel_rfl) (by kernel_rfl) hd ?_
        repeat (first
          | go_big_quiet_skip
          | (go_big_quiet_want; go_big_quiet_op; first
              | go_big_quiet_on
              | (apply Exists.intro
                 refine ⟨fun wx hx => ?_, ?_⟩
                 · (first
                    | exact rfl
                    | (have e3 := (HC.out wx hx).1; simp only [e3, Result.andThen]; exact ⟨trivial, rfl⟩)
                    | (have e3 := (HC.out wx hx).2; simp only [e3, Result.andThen]; exact ⟨trivial, rfl⟩)
                    | (go_at_call 61; with_reducible exact K1.out wx hx))
                 go_big_quiet_on)))
        refine wpQuiet_nil ?_
        intro w5 hq
        have HB5 := Lib.hid (hB.out.trans (hq.mono hB.out.size))
        clear HC HRA K1 hd hq hB hw j1 j2 j3 j4 hl1 hl0
        cases D with
        | true =>
          have hx : x0 = x1 := (of_decide_eq_true HD.out.symm).symm
          have hst : CpSt base g ls.length cap w vs ls (k + 1) (.int .i64 ((k : Int) + 1)) (.int .i64 1) w5 := by
            have hown5 := own_below HOWN.out HB5.out
            refine ⟨k + 1, 0, vs, ls.take (k + 1), by simp, rfl, by omega, by omega, by omega, by rw [List.length_take]; omega, ?_, hown5, (fun j _ => rfl), (HROWS.out.below HB5.out).take _, Fr.of_below HB5.out⟩
            show _ = _
            rw [Nat.add_zero, HST.out, if_pos hx, hno.out]
          have HST2 := Lib.hid hst
          have hcp : ¬ cap = k + 1 := by omega
          have hk1 : ((k : Int) + 1) ≤ (ls.length : Int) := by omega
          have hk2 : ((k : Int) + 1) ≤ (cap : Int) := by omega
          have hk3 : (ls.length : Int) ≤ (cap : Int) := by omega
          have hk0 : 0 ≤ (k : Int) + 1 := by omega
          clear hst hno HST HTK hx HB5 HD
          go_wp2_with fail
          go_loopw [5, 7] (fun pv qv wr => CpSt base g ls.length cap w vs ls (k + 1) pv qv wr) (fun _ q _ => ls.length - (intOf q).toNat)
          case atStart => exact HST2.out
          case round =>
            clear HST2 hk1 hk2 hk0
            obtain ⟨p, q, cs, l2, rfl, rfl, hkq, hpq, hp1, hl2, hL2, hownr, hcs, hrw, hfr⟩ := hrel
            have hw : IntKind.i64.wrap (((q + 1 : Nat) : Int) - 1) = (q : Int) := by rw [show (((q + 1 : Nat) : Int) - 1) = (q : Int) by omega]; exact IntWalk.i64_in _ (by omega)
            by_cases hlq : k + 1 + q + 1 < ls.length
            · have hrows2 := HROWS.out.fr HOWN.out hfr
              obtain ⟨A1, d1, e1, ra1, ro1⟩ := hrows2.rat hlq
              obtain ⟨A0, d0, e0, ra0, ro0⟩ := hrows2.rat (show k + 1 + q < ls.length by omega)
              have hl1 := HLEN.out _ (List.getElem_mem hlq)
              have hl0 := HLEN.out _ (List.getElem_mem (show k + 1 + q < ls.length by omega))
              have hst := onceL_step hlq
              rw [← hcs.out _ (by omega)] at e1 e0
              have hgl : g < wr.heap.size := (hownr.lt g rfl).2
              have HC := Lib.hid (fun (wx : World) (hx : Below wr.heap.size wr wx) => And.intro (own_cel (own_below hownr hx) e1).1 (own_cel (own_below hownr hx) e0).1)
              have HRA := Lib.hid (fun (wx : World) (hx : Below wr.heap.size wr wx) => And.intro (ra1.below hx) (ra0.below hx))
              have hd : Below wr.heap.size wr wr.drew := below_drewN (Below.refl _ _) 1
              have j1 : ((q + 1 : Nat) : Int) < ((ls.length - (k + 1) : Nat) : Int) := by omega
              have j2 : 0 ≤ ((q + 1 : Nat) : Int) := by omega
              have j3 : (q : Int) < ((ls.length - (k + 1) : Nat) : Int) := by omega
              have j4 : 0 ≤ (q : Int) := by omega
              have K1 : Hid (∀ wx, Below wr.heap.size wr wx → Calls Tryd.prog 61 #[.slice A1 ls[k + 1 + q + 1].length d1, .slice A0 ls[k + 1 + q].length d0] wx fun e w' => e = .returned (.bool (decide (ls[k + 1 + q + 1] = ls[k + 1 + q]))) ∧ Below wr.heap.size wr w') := by
                intro wx hx
                have hr := HRA.out wx hx
                refine (sort2_any A1 A0 d1 d0 _ _ wx hr.1 hr.2 (by omega) (by omega)).mono ?_
                rintro e w' ⟨rfl, hy⟩
                exact ⟨rfl, hx.trans (hy.mono hx.size)⟩
              generalize ls[k + 1 + q + 1] = x1 at *
              generalize ls[k + 1 + q] = x0 at *
              obtain ⟨D, hD⟩ : ∃ D, D = decide (x1 = x0) := ⟨_, rfl⟩
              rw [← hD] at K1
              have HD := Lib.hid hD
              have HST := Lib.hid hst
              have HOR := Lib.hid hownr
              have HRO1 := Lib.hid ro1
              have HE1 := Lib.hid e1
              clear hst hD ra1 ra0 ro1 ro0 e1 e0 hrows2 hownr
              go_upto_region 11 with (fail)
              refine wp_region_class (fun wx => Below wr.heap.size wr wx) (by kernel_rfl) (by kernel_rfl) hd ?_
              repeat (first
                | go_big_quiet_skip
                | (go_big_quiet_want; go_big_quiet_op; first
                    | go_big_quiet_on
                    | (apply Exists.intro
                       refine ⟨fun wx hx => ?_, ?_⟩
                       · (first
                          | exact rfl
                          | (have e3 : wx.cell? ⟨g, k + 1 + (q + 1), none⟩ = _ := (HC.out wx hx).1; simp only [e3, Result.andThen]; exact ⟨trivial, rfl⟩)
                          | (have e3 := (HC.out wx hx).2; simp only [e3, Result.andThen]; exact ⟨trivial, rfl⟩)
                          | (go_at_call 61; with_reducible exact K1.out wx hx))
                       go_big_quiet_on)))
              refine wpQuiet_nil ?_
              intro w6 hq
              have hown6 := own_below HOR.out hq
              have hrw6 : RowsAt w6 base (cs.take p) l2 := hrw.below hq
              have hfr6 : Fr (fun k => k = g) w w6 := hfr.trans (T := fun _ => False) (Fr.of_below hq) (fun _ _ h => h.elim)
              have hro6 : w6.ownsRow base 21 1 (.slice A1 x1.length d1) x1.length (runeVs x1) := own_below HRO1.out hq
              have hcl : cs.length = ls.length := by have := hown6.1; omega
              cases D with
              | true =>
                have hx : x0 = x1 := (of_decide_eq_true HD.out.symm).symm
                have hst : CpSt base g ls.length cap w vs ls (k + 1) (.int .i64 (p : Int)) (.int .i64 ((q : Int) + 1 + 1)) w6 :=
                  ⟨p, q + 1, cs, l2, rfl, by go_num, by omega, by omega, hp1, hl2, (by show _ = _; rw [hL2.out, show k + 1 + (q + 1) + 1 = k + 1 + q + 1 + 1 by omega, HST.out, if_pos hx]), hown6, (fun j hj => hcs.out j (by omega)), hrw6, hfr6⟩
                have HN := Lib.hid hst
                clear hst hown6 hrw6 hfr6 hro6 HC HRA K1 hL2 hcs hrw hfr HST HD hq hx hd hw
                go_wp2_with fail
                exact ⟨HN.out, by simp [intOf]; omega⟩
              | false =>
                have hx : ¬ x0 = x1 := fun h => of_decide_eq_false HD.out.symm h.symm
                have hpl : p < cs.length := by omega
                have hset := own_set hown6 (g := g) rfl (j := p) hpl (.slice A1 x1.length d1)
                have hfrs : Fr (fun k => k = g) w6 (w6.setCell ⟨g, p, none⟩ (.slice A1 x1.length d1)) := Fr.set_ _ _ _ rfl
                have htk : (cs.set p (.slice A1 x1.length d1)).take (p + 1) = cs.take p ++ [.slice A1 x1.length d1] := by
                  rw [List.take_succ_eq_append_getElem (by rw [List.length_set]; exact hpl), List.getElem_set_self, List.take_set_of_le (Nat.le_refl _)]
                have hrw7 := (hrw6.snoc hro6).fr hown6 hfrs
                rw [← htk] at hrw7
                have hst : CpSt base g ls.length cap w vs ls (k + 1) (.int .i64 ((p : Int) + 1)) (.int .i64 ((q : Int) + 1 + 1)) (w6.setCell ⟨g, p, none⟩ (.slice A1 x1.length d1)) :=
                  ⟨p + 1, q + 1, _, l2 ++ [x1], by go_num, by go_num, by omega, by omega, by omega, by rw [List.length_append, hl2]; rfl, (by show _ = _; rw [show k + 1 + (q + 1) + 1 = k + 1 + q + 1 + 1 by omega, HST.out, if_neg hx, hL2.out]), hset, (fun j hj => by rw [List.getElem?_set_ne (by omega)]; exact hcs.out j (by omega)), hrw7, hfr6.trans hfrs (fun _ _ h => h)⟩
                have HN := Lib.hid hst
                obtain ⟨z0, _⟩ := own_cel hown6 HE1.out
                have z0 : w6.cell? ⟨g, k + 1 + (q + 1), none⟩ = some (.slice A1 x1.length d1) := z0
                obtain ⟨z1, z2⟩ := own_cel hown6 (j := p) (u := cs[p]) (List.getElem?_eq_getElem hpl)
                have j5 : (p : Int) < (ls.length : Int) := by omega
                have j6 : 0 ≤ (p : Int) := by omega
                generalize cs[p] = vp at *
                clear hst hset hfrs htk hrw7 hown6 hrw6 hfr6 hro6 HC HRA K1 hL2 hcs hrw hfr HST HD hq hx hd hw
                go_wp2_with fail
                exact ⟨HN.out, by simp [intOf]; omega⟩
            · have hpn : p < ls.length := by omega
              have hcp2 : ¬ cap = p := by omega
              have j7 : ¬ ((q + 1 : Nat) : Int) < ((ls.length - (k + 1) : Nat) : Int) := by omega
              have j5 : (p : Int) ≤ (ls.length : Int) := by omega
              have j8 : (p : Int) ≤ (cap : Int) := by omega
              have j6 : 0 ≤ (p : Int) := by omega
              have hcl : cs.length = ls.length := by have := hownr.1; omega
              have hclr := fun ty => Lib.run_clear_slice (P := Tryd.prog) wr 80 26 ty (.slice none 0 0) Tryd.underlying80 zero_runes rfl rfl g p (ls.length - p) (cap - p) (by omega)
                (fun j hj => by rw [(own_cel hownr (j := p + j) (List.getElem?_eq_getElem (by omega))).1]; rfl) (fun j hj => (own_cel hownr (j := p + j) (List.getElem?_eq_getElem (by omega))).2)
              obtain ⟨cs', ho', htk', hfr'⟩ := clear_own (.slice none 0 0) (ls.length - p) p wr cs hownr (by omega)
              have hrw' := hrw.fr hownr hfr'
              generalize wr.setCells g p (List.replicate (ls.length - p) (.slice none 0 0)) = W9 at *
              have hL : l2 = onceL ls := by rw [hL2.out, List.take_of_length_le (by omega)]
              have hfin : CpOut base g cap w ls (.returned (.slice (some ⟨g, 0, none⟩) p cap)) W9 := by
                have ho9 := own_shrink ho' (show p ≤ ls.length by omega)
                rw [htk'] at ho9
                refine ⟨cs.take p, by rw [← hL, hl2], ?_, ?_, hfr.trans hfr' (fun _ _ h => h)⟩
                · rw [← hL, hl2]; exact ho9
                · rw [← hL]; exact hrw'
              have HFIN := Lib.hid hfin
              have HCLR := Lib.hid hclr
              clear hfin hclr hL hrw' hfr' htk' ho' hw hownr hrw hfr hcs HLEN hL2
              go_wp2_with (refine wpList_clear rfl _ _ rfl _ rfl W9 HCLR.out ?_)
              go_ret
              exact HFIN.out
        | false =>
          have hx : ¬ x1 = x0 := of_decide_eq_false HD.out.symm
          have HN : Hid (onceL (ls.take (k + 1 + 1)) = ls.take (k + 1 + 1)) := by show _ = _; rw [HST.out, if_neg (fun h => hx h.symm), hno.out, HTK.out]
          clear hno HST HTK hx HD
          go_wp2_with fail
          exact ⟨⟨k + 1, by omega, by go_num, HN, HB5⟩, by simp [intOf]; omega⟩
      · have he : onceL ls = ls := by
          have := hno.out
          rwa [List.take_of_length_le (by omega)] at this
        have hfin : CpOut base g cap w ls (.returned (.slice (some ⟨g, 0, none⟩) ls.length cap)) wr :=
          ⟨vs, by rw [he], by rw [he]; exact own_below HOWN.out hB.out, by rw [he]; exact HROWS.out.below hB.out, Fr.of_below hB.out⟩
        have HFIN := Lib.hid hfin
        have j9 : ¬ ((k + 1 : Nat) : Int) < (ls.length : Int) := by omega
        clear hfin he hno hB HOWN HROWS HLEN
        go_wp2_with fail
        go_ret
        exact HFIN.out
end Go.Proofs.YtfjccjjdgbkbiaaDoor
