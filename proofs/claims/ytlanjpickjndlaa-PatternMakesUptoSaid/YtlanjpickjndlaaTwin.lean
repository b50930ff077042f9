/- The document's Twin, and the law's long, walked. -/
import Derived.Test.YtlanjpickjndlaaMade
import Derived.Test.YtlanjpickjndlaaSpoilAny
namespace Go.Proofs.Ytlanjpickjndlaa
open Go.RowKit
set_option linter.unusedVariables false

theorem fits_ints {w : World} {lo hi : Nat} {news : List Value} {xs : List Int} (h : Fits 1 (vInt .i64) w lo hi news xs) : news = xs.map (Value.int .i64) := by
  have hl := h.1
  rw [Nat.mul_one] at hl
  refine List.ext_getElem? fun i => ?_
  rw [List.getElem?_map]
  by_cases hi' : i < xs.length
  · have h2 := (h.2 i _ (List.getElem?_eq_getElem hi')).1
    rw [List.getElem?_eq_getElem hi', List.getElem?_eq_getElem (by omega)]
    have e : (slot 1 news i)[0]? = some (Value.int .i64 xs[i]) := by rw [h2]; rfl
    unfold slot at e
    rw [List.getElem?_take, if_pos (by omega), List.getElem?_drop] at e
    rw [List.getElem?_eq_getElem (by omega)] at e
    simp only [Nat.mul_one, Nat.add_zero] at e
    rw [e]
    rfl
  · rw [List.getElem?_eq_none (by omega), List.getElem?_eq_none (by omega)]
    rfl
theorem ints_kin {k : IntKind} {w : World} {lo hi : Nat} {A : Option Addr} {l : List Int} (h : Sl 1 (vInt k) w lo hi A l) : ∀ n ∈ l, kin k n := by
  intro n hn
  obtain ⟨i, hi', rfl⟩ := List.getElem_of_mem hn
  obtain ⟨_, _, _, _, _, _, h2⟩ := ints_at h hi'
  exact h2
theorem int_one {k : IntKind} : ∀ {w lo hi cs x}, vInt k w lo hi cs x → ∀ u ∈ cs, u.oneCell' = true := by
  intro w lo hi cs x h u hu
  rw [h.1, List.mem_singleton] at hu
  subst hu
  rfl

def TwinSt (w : World) (A : Option Addr) (c : Nat) (ns : List Nd) (k : Nat) (wr : World) : Prop :=
  ∃ v es, Row wr w.heap.size 25 [.slice A ns.length c] ∧ Row wr (w.heap.size + 1) 25 [.slice none 0 0] ∧ Row wr (w.heap.size + 2) 25 [v] ∧ Nodes wr w.heap.size v es ∧ es.map Prod.fst = ns.take k ∧ Below w.heap.size w wr

set_option maxHeartbeats 8000000 in
set_option maxRecDepth 100000 in
theorem twin_any (A : Option Addr) (c lo hi : Nat) (ns : List Nd) (w : World) (hm : ns.length ≤ 100000) (hkb : ∀ x ∈ ns, x.kids.length * 8 ≤ 140737488355328) (hhi : hi ≤ w.heap.size) (hsl : Sl 5 vNd w lo hi A ns) :
    Calls Try.prog 5 #[.agg #[.slice A ns.length c]] w fun e w' => ∃ v, e = .returned v ∧ PatRes w w' v ns := by
  have hst0 : TwinSt w A c ns 0 (((w.alloc (.cells #[.slice A ns.length c] 25)).alloc (.cells #[.slice none 0 0] 25)).alloc (.cells #[.slice none 0 0] 25)) := by
    refine ⟨.slice none 0 0, [], ((Row.new w _ _).alloc _).alloc _, ?_, ?_, Nodes.nil _ _, rfl, (((Below.refl _ _).alloc (Nat.le_refl _) _).alloc (by simp) _).alloc (by simp; omega) _⟩
    · have h := Row.new (w.alloc (.cells #[.slice A ns.length c] 25)) 25 [.slice none 0 0]
      simp only [World.size_alloc] at h
      exact h.alloc _
    · have h := Row.new ((w.alloc (.cells #[.slice A ns.length c] 25)).alloc (.cells #[.slice none 0 0] 25)) 25 [.slice none 0 0]
      simp only [World.size_alloc] at h
      exact h
  go_enter Try.func5, Try.ntmps5
  go_wp2_with fail
  go_loopw [4] (fun i wr => ∃ k : Nat, k ≤ ns.length ∧ i = .int .i64 k ∧ TwinSt w A c ns k wr) (fun i _ => ns.length - (intOf i).toNat)
  case atStart => exact ⟨0, by omega, rfl, hst0⟩
  case round =>
    obtain ⟨k, hk, rfl, v, es, hr0, hr1, hr2, hn, he, hb⟩ := hrel
    have hbs := hb.size
    have hl2 := hr2.lt
    obtain ⟨cr0, fr0⟩ := hr0.cel (i := 0) rfl
    obtain ⟨cr1, fr1⟩ := hr1.cel (i := 0) rfl
    obtain ⟨cr2, fr2⟩ := hr2.cel (i := 0) rfl
    clear hst0
    obtain ⟨Av, cv, rfl, _, _⟩ := own_form hn.row
    have hel : es.length = k := by rw [← List.length_map (f := Prod.fst), he, List.length_take, Nat.min_eq_left hk]
    by_cases hlt : k < ns.length
    · obtain ⟨i0, hi0, hz0, hz1, hz2⟩ := info_parts int_info
      obtain ⟨i1, hi1, hy0, hy1, hy2⟩ := info_parts (show (Try.prog.info? 42).map (fun i => (i.zero, i.size, i.bytes)) = some (some (.agg #[.int .u8 0, .int .i32 0, .int .u32 0, .int .u32 0, .slice none 0 0]), 5, 40) by kernel_rfl)
      obtain ⟨b, off, B, cc, rfl, _, hbb, ⟨c0, f0⟩, ⟨c1, f1⟩, ⟨c2, f2⟩, ⟨c3, f3⟩, ⟨c4, f4⟩, hkl, hkc, hks, k0, k1, k2, k3⟩ := nd_at (hsl.below vNd_good hb hhi) hlt
      have hnext : Hid (ns.take (k + 1) = ns.take k ++ [ns[k]]) := List.take_succ_eq_append_getElem hlt
      have hx8 : ns[k].kids.length * 8 ≤ 140737488355328 := hkb _ (List.getElem_mem hlt)
      generalize ns[k] = x at *
      have hx63 : x.kids.length ≤ maxLen := by unfold maxLen; omega
      have hba : Below wr.heap.size wr (wr.alloc (.cells #[.int .u8 x.kind, .int .i32 x.rune, .int .u32 x.plus, .int .u32 x.minus, .slice B x.kids.length cc] 42)) := (Below.refl _ _).alloc (Nat.le_refl _) _
      have hnA : Row (wr.alloc (.cells #[.int .u8 x.kind, .int .i32 x.rune, .int .u32 x.plus, .int .u32 x.minus, .slice B x.kids.length cc] 42)) wr.heap.size 42 [.int .u8 x.kind, .int .i32 x.rune, .int .u32 x.plus, .int .u32 x.minus, .slice B x.kids.length cc] := Row.new wr _ _
      have hksA := hks.below (vInt_good _) hba (by omega)
      have hkin := ints_kin hks
      have hA1 : 0 ≤ (wr.alloc (.cells #[.int .u8 x.kind, .int .i32 x.rune, .int .u32 x.plus, .int .u32 x.minus, .slice B x.kids.length cc] 42)).heap.size := Nat.zero_le _
      have hA2 : hi ≤ (wr.alloc (.cells #[.int .u8 x.kind, .int .i32 x.rune, .int .u32 x.plus, .int .u32 x.minus, .slice B x.kids.length cc] 42)).heap.size := by have := hba.size; omega
      have hksA0 := hksA.wide (vInt_good _) (Nat.zero_le lo) (Nat.le_refl _)
      have HEL := Lib.hid hel
      have HE := Lib.hid he
      clear hel he
      go_wp2_with (at_builtin; refine wpList_append_copy _ rfl (.tmp 19) (.tmp 21) 40 rfl 3 i0 _ 8 Try.underlying40 hi0 hz0 hz1 hz2 rfl (by decide) rfl rfl hksA0 hA1 hA2 (vInt_good .i64) (fun _ _ => int_one) hx63 hx8 ?_)
      intro A2 cc2 w2 hb2 hc21 hc22 hs2 news hown2 hfit2
      obtain rfl := fits_ints hfit2
      clear hs2 hfit2 hksA hksA0 c0 c1 c2 c3 c4 f0 f1 f2 f3 f4
      have hu2 := hown2
      have hn2 := hnA.below hb2 (Nat.lt_succ_self _)
      have hw2 := hba.trans (hb2.mono (Nat.le_succ _))
      have hs2 := hw2.size
      have hl2' := hn2.lt
      have hN2 := hn.below hw2
      have hr02 := hr0.below hw2 hr0.lt
      have hr12 := hr1.below hw2 hr1.lt
      have hr22 := hr2.below hw2 hr2.lt
      obtain ⟨cn0, fn0⟩ := hn2.cel (i := 0) rfl
      obtain ⟨cn1, fn1⟩ := hn2.cel (i := 1) rfl
      obtain ⟨cn2, fn2⟩ := hn2.cel (i := 2) rfl
      obtain ⟨cn3, fn3⟩ := hn2.cel (i := 3) rfl
      obtain ⟨cn4, fn4⟩ := hn2.cel (i := 4) rfl
      obtain ⟨co2, fo2⟩ := hr22.cel (i := 0) rfl
      have hrA : Row ((w2.setCell ⟨wr.heap.size, 4, none⟩ (.slice A2 x.kids.length cc2)).alloc (.cells #[.int .u8 x.kind, .int .i32 x.rune, .int .u32 x.plus, .int .u32 x.minus, .slice A2 x.kids.length cc2] 42)) w2.heap.size 42 (ndCells x (.slice A2 x.kids.length cc2)) := by
        have h := Row.new (w2.setCell ⟨wr.heap.size, 4, none⟩ (.slice A2 x.kids.length cc2)) 42 (ndCells x (.slice A2 x.kids.length cc2))
        simp only [ndCells] at h ⊢
        simpa using h
      have hfA : Fr (fun k => k = wr.heap.size) w2 ((w2.setCell ⟨wr.heap.size, 4, none⟩ (.slice A2 x.kids.length cc2)).alloc (.cells #[.int .u8 x.kind, .int .i32 x.rune, .int .u32 x.plus, .int .u32 x.minus, .slice A2 x.kids.length cc2] 42)) :=
        ((Fr.refl (fun k => k = wr.heap.size) w2).setc ⟨wr.heap.size, 4, none⟩ _ (fun _ => rfl)).alloc _
      obtain ⟨wA, hwA⟩ : ∃ wA, wA = ((w2.setCell ⟨wr.heap.size, 4, none⟩ (.slice A2 x.kids.length cc2)).alloc (.cells #[.int .u8 x.kind, .int .i32 x.rune, .int .u32 x.plus, .int .u32 x.minus, .slice A2 x.kids.length cc2] 42)) := ⟨_, rfl⟩
      rw [← hwA] at hrA hfA
      have hold : ∀ k, k < w2.heap.size → k ≠ wr.heap.size → wA.heap[k]? = w2.heap[k]? := fun k h1 h2 => hfA.block k h1 h2
      have hNA : Nodes wA w.heap.size (.slice Av es.length cv) es := hN2.same fun g hg => hold g (hN2.lt hg).2 (fun e => by
        subst e
        have := (hn.lt hg).2
        omega)
      have huA : wA.ownsRow (wr.heap.size + 1) 3 1 (.slice A2 x.kids.length cc2) x.kids.length (x.kids.map (Value.int .i64)) := own_same hu2 fun g hg => hold g (hu2.lt g hg).2 (by have := (hu2.lt g hg).1; omega)
      have hr0A : Row wA w.heap.size 25 [.slice (some ⟨b, off, none⟩) ns.length c] := (hold _ (by omega) (by omega)).trans hr02
      have hr1A : Row wA (w.heap.size + 1) 25 [.slice none 0 0] := (hold _ (by omega) (by omega)).trans hr12
      have hr2A : Row wA (w.heap.size + 2) 25 [.slice Av es.length cv] := (hold _ (by omega) (by omega)).trans hr22
      have h63 : es.length + 1 ≤ maxLen := by have := HEL.out; unfold maxLen; omega
      have hbyA : (es.length + 1) * 40 ≤ 140737488355328 := by have := HEL.out; omega
      have hloA : w.heap.size ≤ wA.heap.size := by have := hfA.size; omega
      have honeA : ∀ u ∈ ndCells x (.slice A2 x.kids.length cc2), u.oneCell' = true := by
        intro u hu
        simp only [ndCells, List.mem_cons, List.not_mem_nil, or_false] at hu
        rcases hu with rfl | rfl | rfl | rfl | rfl <;> rfl
      have hownA := hNA.row
      have hnewsA := hrA.news
      have hAw : Below w.heap.size w wA := hb.trans ((hw2.mono hbs).trans (hfA.below (fun k e => by rw [e]; exact hbs) (by omega)))
      rw [hwA] at hownA hnewsA hloA
      have HWA := Lib.hid hwA
      clear hwA
      go_wp2_with (at_builtin; refine wpList_append_lies _ rfl _ _ 23 rfl w.heap.size 42 i1 (.agg #[.int .u8 0, .int .i32 0, .int .u32 0, .int .u32 0, .slice none 0 0]) 5 40 Try.underlying23 hi1 hy0 hy1 hy2 rfl (by decide) (.slice Av es.length cv) es.length (flat es) rfl hownA ⟨w2.heap.size, 0, none⟩ 1 1 (ndCells x (.slice A2 x.kids.length cc2)) rfl rfl hnewsA honeA (by decide) h63 hbyA hloA _ rfl ?_)
      rw [← HWA.out]
      intro g1 cap1 w3 hown3 hgr3 hat3 hlt3
      have hr03 := hr0A.grown hgr3 (fun e => row_ne_own hr0A hNA.row (by decide) e.symm)
      have hr13 := hr1A.grown hgr3 (fun e => row_ne_own hr1A hNA.row (by decide) e.symm)
      have hr23 := hr2A.grown hgr3 (fun e => row_ne_own hr2A hNA.row (by decide) e.symm)
      have hnd3 : Nodes w3 w.heap.size (.slice (some ⟨g1, 0, none⟩) (es.length + 1) cap1) (es ++ [(x, .slice A2 x.kids.length cc2)]) := by
        refine hNA.push (own_low huA (by omega)) ⟨k0, k1, k2, k3, hkin⟩ (fun g hg => ?_) hown3 hgr3 ?_
        · have := (hu2.lt g hg).1
          exact ⟨fun e => by have := (hn.lt (.inl e)).2; omega, fun i y t hi e => by have := (hn.lt (.inr ⟨i, y, t, hi, e⟩)).2; omega⟩
        · rcases hat3 with h | h
          · exact .inl h.symm
          · have hs : wA.heap.size = w2.heap.size + 1 := by rw [HWA.out]; simp
            exact .inr (by show some g1 = _; first | rw [h, hs] | rw [h])
      have hst : TwinSt w (some ⟨b, off, none⟩) c ns (k + 1) (w3.setCell ⟨w.heap.size + 2, 0, none⟩ (.slice (some ⟨g1, 0, none⟩) (es.length + 1) cap1)) := by
        refine ⟨_, _, hr03.far (by show w.heap.size ≠ w.heap.size + 2; omega) _, hr13.far (by show w.heap.size + 1 ≠ w.heap.size + 2; omega) _, hr23.set_ 0 _, hnd3.same fun g hg => Below.heap_setCell _ _ _ g (fun e => ?_), ?_, ?_⟩
        · simp only at e
          subst e
          rcases hg with hg | ⟨i, y, t, hi, hg⟩
          · exact row_ne_own hr23 hnd3.row (by decide) hg
          · exact row_ne_own hr23 (hnd3.kid i y t hi).1 (by decide) hg
        · rw [hnext.out, List.map_append, HE.out]
          rfl
        · exact (hAw.grown hgr3 (by have := hAw.size; omega) (fun j hj => (hNA.lt (.inl hj)).1)).setCell (by show w.heap.size ≤ w.heap.size + 2; omega) _
      obtain ⟨co3, fo3⟩ := hr23.cel (i := 0) rfl
      clear hrA hfA hold hNA huA hr0A hr1A hr2A hownA hnewsA hloA hgr3 hat3 hnd3 hN2 hu2 hn2 hr02 hr12 hr22 hown2 hb2 cn0 cn1 cn2 cn3 cn4 fn0 fn1 fn2 fn3 fn4 co2 fo2
      go_wp2_with fail
      exact ⟨⟨k + 1, by omega, by go_num, hst⟩, by simp [intOf]; omega⟩
    · obtain rfl : k = ns.length := by omega
      rw [List.take_length] at he
      have hfin : PatRes w (wr.setCell ⟨w.heap.size + 1, 0, none⟩ (.slice Av es.length cv)) (.agg #[.slice Av es.length cv]) ns := by
        refine ⟨_, es, rfl, hn.same fun g hg => Below.heap_setCell _ _ _ g (fun e => ?_), he, hb.setCell (by show w.heap.size ≤ w.heap.size + 1; omega) _⟩
        simp only at e
        subst e
        rcases hg with hg | ⟨i, y, t, hi, hg⟩
        · exact row_ne_own hr1 hn.row (by decide) hg
        · exact row_ne_own hr1 (hn.kid i y t hi).1 (by decide) hg
      have HEL := Lib.hid hel
      clear hel he
      go_wp2_with fail
      refine bodyPost_ret (res_cell rfl _ _ (w.heap.size + 1) _ rfl (hr1.set_ 0 _)) rfl ?_
      exact ⟨_, rfl, hfin⟩

set_option maxHeartbeats 4000000 in
theorem long_any (A : Option Addr) (c lo hi : Nat) (ls : List (List Nd)) (w : World) (hm : ls.length ≤ 9223372036854775807) (hhi : hi ≤ w.heap.size) (hsl : Sl 1 vPat w lo hi A ls) :
    Calls Try.prog 4 #[.slice A ls.length c] w fun e w' => ∃ b, e = .returned (.bool b) ∧ w = w' ∧ (b = false → ls.length ≤ 300 ∧ ∀ l ∈ ls, l.length ≤ 2000) := by
  by_cases hbig : 300 < ls.length
  · go_enter Try.func4, Try.ntmps4
    go_wp2_with fail
    go_ret
    exact ⟨true, rfl, rfl, fun h => nomatch h⟩
  · go_enter Try.func4, Try.ntmps4
    go_wp2_with fail
    go_loopw [3, 4] (fun m i wr => ∃ k N : Nat, k ≤ ls.length ∧ i = .int .i64 k ∧ m = .int .i64 N ∧ N ≤ 2000 * k ∧ Hid (∀ l ∈ ls.take k, l.length ≤ 2000) ∧ wr = w) (fun _ i _ => ls.length - (intOf i).toNat)
    case atStart => exact ⟨0, 0, by omega, rfl, rfl, by omega, by show ∀ _ ∈ _, _; simp, rfl⟩
    case round =>
      obtain ⟨k, N, hk, rfl, rfl, hN, hall, rfl⟩ := hrel
      by_cases hlt : k < ls.length
      · obtain ⟨b, off, B, cc, rfl, _, hb, ⟨c0, f0⟩, hkl, hkc, hks⟩ := pat_at hsl hlt
        have hstep : Hid (ls[k].length ≤ 2000 → ∀ l ∈ ls.take (k + 1), l.length ≤ 2000) := by
          intro h l hl
          rw [List.take_succ_eq_append_getElem hlt, List.mem_append] at hl
          rcases hl with hl | hl
          · exact hall.out l hl
          · rw [List.mem_singleton.1 hl]; exact h
        generalize ls[k] = x at *
        have hxm : x.length ≤ 9223372036854775807 := by unfold maxLen at hkc; omega
        by_cases hx : 2000 < x.length
        · go_wp2_with fail
          go_ret
          exact ⟨true, rfl, rfl, fun h => nomatch h⟩
        · have hall2 := Lib.hid (hstep.out (by omega))
          clear hall hstep
          go_wp2_with fail
          exact ⟨⟨k + 1, N + x.length, by omega, by go_num, by go_num, by omega, hall2, trivial⟩, by simp [intOf]; omega⟩
      · obtain rfl : k = ls.length := by omega
        have hfin : Hid (∀ l ∈ ls, l.length ≤ 2000) := by
          have := hall.out
          rwa [List.take_length] at this
        clear hall
        go_wp2_with fail
        go_ret
        exact ⟨decide _, rfl, rfl, fun _ => ⟨by omega, hfin.out⟩⟩
end Go.Proofs.Ytlanjpickjndlaa
