/- word.ranks; the document's Number. -/
import Derived.Test.YtfjccjjdgbkbiaaDoorFeatCheck
import Derived.Test.YtfjccjjdgbkbiaaDoorReadSpec
namespace Go.Proofs.YtfjccjjdgbkbiaaDoor
open Go.RowKit
set_option linter.unusedVariables false

theorem zero_int (w : World) : (zeroValue 3).run Tryd.prog w = .ok (.int .i64 0) w := by kernel_rfl
theorem run_makeMap_hint {P : Program} (t k e : TypeId) (ht : P.underlying t = some (.map k e)) (n : Nat) (w : World) : (Instr.makeMap t (some (.int .i64 (n : Int)))).run P w = .ok (.map (some w.heap.size)) (w.alloc (.map #[] 0)) := by
  simp [Instr.makeMap, run_underlying ht, asInt, asIntOf]

def RankSt (a : Al) (w : World) (v1 v2 : Value) (bm : Nat) (i : Value) (wr : World) : Prop :=
  ∃ k : Nat, k ≤ a.lets.length ∧ i = .int .i64 (k : Int) ∧ MapI Tryd.prog 21 3 .i64 wr bm k (rankF a.lets k) ∧ w.heap.size ≤ bm ∧ Below w.heap.size w wr
/-- The ranks of an alphabet's letters, in a map of the call's own; or the error. -/
def RanksOut (a : Al) (w : World) (e : Ending) (w' : World) : Prop :=
  (alOk a = false ∧ e = .returned (.tuple #[.map none, .int .i64 7]) ∧ Below w.heap.size w w') ∨
    (alOk a = true ∧ ∃ bm n, e = .returned (.tuple #[.map (some bm), .int .i64 0]) ∧ MapI Tryd.prog 21 3 .i64 w' bm n (rankF a.lets a.lets.length) ∧ w.heap.size ≤ bm ∧ Below w.heap.size w w')

set_option maxHeartbeats 4000000 in
set_option maxRecDepth 100000 in
theorem ranks_any (A1 A2 : Option Addr) (c1 c2 lo : Nat) (a : Al) (w : World) (hin : AlIn w lo w.heap.size A1 A2 a) :
    Calls Tryd.prog 41 #[.agg #[.slice A1 a.feats.length c1, .slice A2 a.lets.length c2]] w (RanksOut a w) := by
  have hn1 := hin.n1
  have hn2 := hin.n2
  have hal : Below w.heap.size w (w.alloc (.cells #[.slice A1 a.feats.length c1, .slice A2 a.lets.length c2] 25)) := (Below.refl _ _).alloc (Nat.le_refl _) _
  have hr0 := Row.new w 25 [.slice A1 a.feats.length c1, .slice A2 a.lets.length c2]
  have hcall := Lib.hid (check_any A1 A2 c1 c2 lo a _ (hin.on hal))
  cases hok : alOk a with
  | false =>
    have he : alE a = 7 := by unfold alE; rw [hok]; rfl
    rw [he] at hcall
    have HF := Lib.hid hok
    clear hok he
    go_enter Tryd.func41, Tryd.ntmps41
    go_wp2_with fail
    refine hcall.out.mono ?_
    rintro e w1 ⟨rfl, hb1⟩
    go_wp2_with fail
    go_ret2
    exact .inl ⟨HF.out, rfl, hal.trans (hb1.mono (by simp))⟩
  | true =>
    have he : alE a = 0 := alE_zero.2 hok
    rw [he] at hcall
    have hmm := fun (n : Nat) w => run_makeMap_hint (P := Tryd.prog) 65 21 3 Tryd.underlying65 n w
    have hsz := alOk_size hok
    have HF := Lib.hid hok
    clear hok he
    go_enter Tryd.func41, Tryd.ntmps41
    go_wp2_with fail
    refine hcall.out.mono ?_
    rintro e w1 ⟨rfl, hb1⟩
    have hr1 := hr0.below hb1 hr0.lt
    have hbw1 := hal.trans (hb1.mono (by simp))
    have hz1 := hbw1.size
    have hl1 := hr1.lt
    obtain ⟨q1, f1⟩ := hr1.cel (i := 1) rfl
    have hst : RankSt a w (.slice A1 a.feats.length c1) (.slice A2 a.lets.length c2) w1.heap.size (.int .i64 0) (w1.alloc (.map #[] 0)) := ⟨0, by omega, rfl, MapI.made _ _ _ _ _, hz1, hbw1.alloc hz1 _⟩
    have HST := Lib.hid hst
    clear hst hcall hb1
    go_wp2_with fail
    generalize w1.heap.size = bm at *
    go_loopw [20] (fun i wr => RankSt a w (.slice A1 a.feats.length c1) (.slice A2 a.lets.length c2) bm i wr) (fun i _ => a.lets.length - (intOf i).toNat)
    case atStart => exact HST.out
    case round =>
      clear HST q1 f1 hr1 hr0 hbw1 hal
      obtain ⟨k, hk, rfl, hmap, hbm, hb⟩ := hrel
      have hbs := hb.size
      by_cases hlt : k < a.lets.length
      · obtain ⟨b, off, rfl, _, hbb, ⟨x0, y0⟩, ⟨x1, y1⟩, ⟨x2, y2⟩, hrr, hpp, hmm'⟩ := lt_at (hin.l.below vLt_good hb (Nat.le_refl _)) hlt
        have hkey := key_rune hrr
        have hnext : rankF a.lets (k + 1) = setAt (rankF a.lets k) (.int .i32 a.lets[k].rune) (some (k : Int)) := by
          show setAt _ _ _ = _
          rw [List.getElem?_eq_getElem hlt]
          rfl
        generalize a.lets[k] = l at *
        have HK := Lib.hid hkey
        have HN := Lib.hid hnext
        clear hkey hnext
        have hal1 : Below wr.heap.size wr (wr.alloc (.cells #[.int .i32 l.rune, .int .u32 (l.plus : Int), .int .u32 (l.minus : Int)] 84)) := (Below.refl _ _).alloc (Nat.le_refl _) _
        have hmap1 := hmap.below hal1 hmap.lt
        have hb1 := hb.trans (hal1.mono hbs)
        go_wp2_with (at_mapUpdate; refine wpList_update_mapI (by rfl) _ _ _ 65 rfl 21 3 .i64 (Maps.int_keyed Tryd.underlying21) Tryd.underlying65 Tryd.underlying3 bm k (rankF a.lets k) rfl hmap1 (by unfold maxLen; omega) _ (k : Int) (by simp [Lit.wf, IntKind.min, IntKind.max, IntKind.signed, IntKind.bits]; omega) _ rfl rfl HK.out trivial ?_)
        intro w3 hmap3 hgr3
        rw [← HN.out] at hmap3
        have hb3 := hb1.grown hgr3 hb1.size (fun j hj => by simp only [Option.some.injEq] at hj; omega)
        clear hgr3 hmap1 hmap hb1 x0 y0 x1 y1 x2 y2 hal1
        go_wp2_with fail
        exact ⟨⟨k + 1, by omega, by go_num, hmap3, hbm, hb3⟩, by simp [intOf]; omega⟩
      · obtain rfl : k = a.lets.length := by omega
        have HM := Lib.hid hmap
        clear hmap
        go_wp2_with fail
        go_ret2
        exact .inr ⟨HF.out, bm, _, rfl, HM.out, hbm, hb⟩

def NumSt (a : Al) (r : Int) (w : World) (i : Value) (wr : World) : Prop := ∃ k : Nat, k ≤ a.lets.length ∧ i = .int .i64 (k : Int) ∧ (∀ j (hj : j < k) (hl : j < a.lets.length), a.lets[j].rune ≠ r)
theorem numI_none {a : Al} {r : Int} (h : ∀ j (hl : j < a.lets.length), a.lets[j].rune ≠ r) : numI a r = -1 := by
  unfold numI num
  rw [(numF_none a.lets 0 r).2 fun x hx => by
    obtain ⟨j, hj, rfl⟩ := List.getElem_of_mem hx
    exact h j hj]
theorem numI_some {a : Al} {r : Int} {k : Nat} (hk : k < a.lets.length) (he : a.lets[k].rune = r) (h : ∀ j (hj : j < k) (hl : j < a.lets.length), a.lets[j].rune ≠ r) : numI a r = k := by
  unfold numI num
  rw [numF_some a.lets 0 k r hk he (fun j hj => h j hj (by omega))]
  simp
set_option maxHeartbeats 4000000 in
set_option maxRecDepth 100000 in
theorem number_any (A1 A2 : Option Addr) (c1 c2 lo : Nat) (a : Al) (r : Int) (w : World) (hin : AlIn w lo w.heap.size A1 A2 a) (hr : -2147483648 ≤ r ∧ r ≤ 2147483647) :
    Calls Tryd.prog 45 #[.agg #[.slice A1 a.feats.length c1, .slice A2 a.lets.length c2], .int .i32 r] w fun e w' => e = .returned (.int .i64 (numI a r)) ∧ Below w.heap.size w w' := by
  have hn1 := hin.n1
  have hn2 := hin.n2
  have hal : Below w.heap.size w (w.alloc (.cells #[.slice A1 a.feats.length c1, .slice A2 a.lets.length c2] 25)) := (Below.refl _ _).alloc (Nat.le_refl _) _
  have hin1 := hin.on hal
  go_enter Tryd.func45, Tryd.ntmps45
  go_wp2_with fail
  go_loop [5] (fun i => NumSt a r w i w) (fun i => a.lets.length - (intOf i).toNat)
  case atStart => exact ⟨0, by omega, rfl, fun j hj => by omega⟩
  case round =>
    obtain ⟨k, hk, rfl, hne⟩ := hrel
    have HNE := Lib.hid hne
    clear hne
    by_cases hlt : k < a.lets.length
    · obtain ⟨b, off, rfl, _, hbb, ⟨x0, y0⟩, _, _, hrr, _, _⟩ := lt_at hin1.l hlt
      have hs := fun he => numI_some (a := a) (r := r) hlt he HNE.out
      have hnx : a.lets[k].rune ≠ r → ∀ j (hj : j < k + 1) (hl : j < a.lets.length), a.lets[j].rune ≠ r := fun h j hj hl => by
        by_cases hjk : j < k
        · exact HNE.out j hjk hl
        · have : j = k := by omega
          subst this
          exact h
      generalize a.lets[k].rune = x at *
      have HS := Lib.hid hs
      have HNX := Lib.hid hnx
      clear hs hnx
      by_cases he : x = r
      · have hd : (x == r) = true := by rw [beq_iff_eq]; exact he
        have HF := Lib.hid (HS.out he)
        clear he HS HNX
        go_wp2_with fail
        go_ret
        exact ⟨by rw [HF.out]; rfl, hal⟩
      · have hd : (x == r) = false := by rw [beq_eq_false_iff_ne]; exact he
        have HF := Lib.hid (HNX.out he)
        clear HS HNX
        go_wp2_with fail
        exact ⟨⟨k + 1, by omega, by go_num, HF.out⟩, by simp [intOf]; omega⟩
    · have HF := Lib.hid (numI_none (a := a) (r := r) (fun j hl => HNE.out j (by omega) hl))
      go_wp2_with fail
      go_ret
      exact ⟨by rw [HF.out]; rfl, hal⟩
end Go.Proofs.YtfjccjjdgbkbiaaDoor
