/- The law's row: so many letters a. The law's deep, walked. -/
import Derived.Test.YtimhlnndobfehaaDoorMn01
import Derived.Laws.IdiomStrings
import Derived.Test.YtimhlnndobfehaaDoorMc12
import Derived.Test.YtimhlnndobfehaaDoorMc35
namespace Go.Proofs.YtimhlnndobfehaaDoor
open Go.RowKit
set_option linter.unusedVariables false

theorem rbyte_info : (Tryd.prog.info? 5).map (fun i => (i.zero, i.size, i.bytes)) = some (some (.int .u8 0), 1, 1) := by kernel_rfl
def rowL (n k : Nat) : List Value := List.replicate k (.int .u8 97) ++ List.replicate (n - k) (.int .u8 0)
theorem rowL_set {n k : Nat} (h : k < n) : (rowL n k).set k (.int .u8 97) = rowL n (k + 1) := by
  unfold rowL
  rw [List.set_append_right _ _ (by simp), List.length_replicate, Nat.sub_self]
  obtain ⟨m, hm⟩ : ∃ m, n - k = m + 1 := ⟨n - k - 1, by omega⟩
  rw [hm, show n - (k + 1) = m by omega, List.replicate_succ, List.set_cons_zero, List.replicate_succ' (n := k), List.append_assoc]
  rfl
set_option maxHeartbeats 4000000 in
theorem rowN_any (n : Nat) (hn : 1 ≤ n ∧ n ≤ 1000) (w : World) :
    Calls Tryd.prog 28 #[.int .i64 (n : Int)] w fun e w' => e = .returned (.string (rowA n)) ∧ Below w.heap.size w w' := by
  obtain ⟨i0, hi0, hz0, hz1, hz2⟩ := info_parts rbyte_info
  have hb2 : i0.bytes * n ≤ 281474976710656 := by rw [hz2]; omega
  have hb3 : n ≤ maxLen := by unfold maxLen; omega
  go_enter Tryd.func28, Tryd.ntmps28
  go_wp2_with (refine wpList_make_full _ rfl (.tmp 5) (.tmp 5) 70 rfl w.heap.size 5 i0 (.int .u8 0) 1 Tryd.underlying70 hi0 hz0 hz1 .i64 .i64 (n : Int) (n : Int) n rfl rfl rfl rfl hb2 hb3 (by simp) ?_)
  intro w1 hown hgrow
  have hrow := Row.of_own (c := n) (by simpa using hown)
  have hrow' : Row w1 w.heap.size 5 (rowL n 0) := by
    have e : (madeCells #[Value.int .u8 0] n).toList = rowL n 0 := by rw [toList_madeCells_one]; rfl
    rw [← e]
    simpa [Value.cells] using hrow
  have hb1 : Below w.heap.size w w1 := (Below.refl _ _).grown hgrow (by simp) (by simp)
  clear hown hgrow hrow
  go_wp2_with fail
  go_loopw [4] (fun x wr => ∃ k : Nat, k ≤ n ∧ x = .int .i64 (k : Int) ∧ Row wr w.heap.size 5 (rowL n k) ∧ Below w.heap.size w wr) (fun x _ => n - (intOf x).toNat)
  case atStart => exact ⟨0, by omega, rfl, hrow', hb1⟩
  case round =>
    obtain ⟨k, hk, rfl, hr, hb⟩ := hrel
    have hlt := hr.lt
    by_cases hkn : k < n
    · have j1 : (k : Int) < (n : Int) := by omega
      have j2 : 0 ≤ (k : Int) := by omega
      obtain ⟨c0, f0⟩ := hr.cel (i := k) (v := (rowL n k)[k]'(by unfold rowL; simp; omega)) (List.getElem?_eq_getElem _)
      have hr2 := hr.set_ k (.int .u8 97)
      rw [rowL_set hkn] at hr2
      have HFIN : Hid (∃ q : Nat, q ≤ n ∧ Value.int .i64 ((k : Int) + 1) = .int .i64 (q : Int) ∧ Row (wr.setCell ⟨w.heap.size, k, none⟩ (.int .u8 97)) w.heap.size 5 (rowL n q) ∧ Below w.heap.size w (wr.setCell ⟨w.heap.size, k, none⟩ (.int .u8 97))) := ⟨k + 1, by omega, by simp, hr2, hb.setCell (p := ⟨w.heap.size, k, none⟩) (Nat.le_refl _) _⟩
      clear hr2 hr hb
      generalize (rowL n k)[k]'_ = u0 at *
      go_wp2_with fail
      exact ⟨HFIN.out, by simp [intOf]; omega⟩
    · obtain rfl : k = n := by omega
      have j1 : ¬ (k : Int) < (k : Int) := by omega
      have hc := run_convert_bytes_back (P := Tryd.prog) wr 70 9 5 ⟨w.heap.size, 0, none⟩ k (List.replicate k 97) Tryd.underlying70 Tryd.underlying5 Tryd.underlying9 (fun j hj => by
        have hj' : j < k := by simpa using hj
        have h1 := (hr.cel (i := j) (v := .int .u8 97) (by unfold rowL; rw [List.getElem?_append_left (by simpa using hj'), List.getElem?_replicate, if_pos hj'])).1
        rw [Addr.add_lit, Nat.zero_add, h1]
        simp)
      rw [List.length_replicate] at hc
      have HB := Lib.hid hb
      clear hb hr
      go_wp2_with fail
      go_ret
      exact ⟨rfl, HB.out⟩
end Go.Proofs.YtimhlnndobfehaaDoor
namespace Go.Proofs.YtimhlnndobfehaaDoor
open Go.RowKit
set_option linter.unusedVariables false

def DeepSt (w : World) (k : Nat) (wr : World) : Prop :=
  ∃ v es, Row wr w.heap.size 28 [.slice none 0 0] ∧ Row wr (w.heap.size + 1) 28 [v] ∧ Nodes wr w.heap.size v es ∧ es.map Prod.fst = starsN k ∧ Below w.heap.size w wr
def DeepRes (m : Nat) (w : World) (e : Ending) (w' : World) : Prop := ∃ A c, e = .returned (.agg #[.slice A (deepN m).length c]) ∧ Sl 5 vNd w' 0 w'.heap.size A (deepN m) ∧ Below w.heap.size w w'
theorem stars_succ (k : Nat) : starsN (k + 1) = starsN k ++ [starNd k] := by unfold starsN; rw [List.range_succ, List.map_append]; rfl
theorem star_kin {k : Nat} (h : k ≤ 1000) : kinNd (starNd k) := ⟨(by simp [kin, Lit.wf, IntKind.min, IntKind.max, IntKind.signed, IntKind.bits, starNd]), (by simp [kin, Lit.wf, IntKind.min, IntKind.max, IntKind.signed, IntKind.bits, starNd]), (by simp [kin, Lit.wf, IntKind.min, IntKind.max, IntKind.signed, IntKind.bits, starNd]), (by simp [kin, Lit.wf, IntKind.min, IntKind.max, IntKind.signed, IntKind.bits, starNd]), fun n hn => by
  have : n = (k : Int) + 1 := by simpa [starNd] using hn
  subst this
  exact kin_mk64 (by omega)⟩
theorem any_kin : kinNd anyNd := ⟨(by simp [kin, Lit.wf, IntKind.min, IntKind.max, IntKind.signed, IntKind.bits, anyNd]), (by simp [kin, Lit.wf, IntKind.min, IntKind.max, IntKind.signed, IntKind.bits, anyNd]), (by simp [kin, Lit.wf, IntKind.min, IntKind.max, IntKind.signed, IntKind.bits, anyNd]), (by simp [kin, Lit.wf, IntKind.min, IntKind.max, IntKind.signed, IntKind.bits, anyNd]), fun n hn => by simp [anyNd] at hn⟩
set_option maxHeartbeats 8000000 in
set_option maxRecDepth 100000 in
theorem deepP_any (m : Nat) (hm : m ≤ 1000) (w : World) :
    Calls Tryd.prog 26 #[.int .i64 ((m : Int) + 1)] w fun e w' => DeepRes m w e w' := by
  have hst0 : DeepSt w 0 ((w.alloc (.cells #[.slice none 0 0] 28)).alloc (.cells #[.slice none 0 0] 28)) := by
    refine ⟨.slice none 0 0, [], (Row.new w _ _).alloc _, ?_, Nodes.nil _ _, rfl, ((Below.refl _ _).alloc (Nat.le_refl _) _).alloc (by simp) _⟩
    have h := Row.new (w.alloc (.cells #[.slice none 0 0] 28)) 28 [.slice none 0 0]
    simp only [World.size_alloc] at h
    exact h
  have HST := Lib.hid hst0
  clear hst0
  go_enter Tryd.func26, Tryd.ntmps26
  go_wp2_with fail
  go_loopw [4] (fun i wr => ∃ k : Nat, k ≤ m ∧ i = .int .i64 (k : Int) ∧ DeepSt w k wr) (fun i _ => m - (intOf i).toNat)
  case atStart => exact ⟨0, by omega, rfl, HST.out⟩
  case round =>
    clear HST
    obtain ⟨k, hk, rfl, v, es, hr0, hr1, hn, he, hb⟩ := hrel
    have hbs := hb.size
    have hl1 := hr1.lt
    obtain ⟨cr1, fr1⟩ := hr1.cel (i := 0) rfl
    obtain ⟨Av, cv, rfl, _, _⟩ := own_form hn.row
    have hel : es.length = k := by rw [← List.length_map (f := Prod.fst), he, stars_len]
    obtain ⟨i1, hi1, hy0, hy1, hy2⟩ := info_parts (show (Tryd.prog.info? 44).map (fun i => (i.zero, i.size, i.bytes)) = some (some (.agg #[.int .u8 0, .int .i32 0, .int .u32 0, .int .u32 0, .slice none 0 0]), 5, 40) by kernel_rfl)
    by_cases hlt : k < m
    · have j1 : (k : Int) + 1 < (m : Int) + 1 := by omega
      have huA := own_fresh (w := wr) (base := wr.heap.size) (t := 3) [Value.int .i64 ((k : Int) + 1)] (Nat.le_refl _) (by simp [maxLen])
      have hbU : Below wr.heap.size wr (wr.alloc (.cells #[.int .i64 ((k : Int) + 1)] 3)) := (Below.refl _ _).alloc (Nat.le_refl _) _
      obtain ⟨wA, hwA⟩ : ∃ wA, wA = ((wr.alloc (.cells #[.int .i64 ((k : Int) + 1)] 3)).alloc (.cells #[.int .u8 8, .int .i32 0, .int .u32 0, .int .u32 0, .slice (some ⟨wr.heap.size, 0, none⟩) 1 1] 44)) := ⟨_, rfl⟩
      have hbA : Below wr.heap.size wr wA := by rw [hwA]; exact hbU.alloc (by simp) _
      have huB : wA.ownsRow wr.heap.size 3 1 (.slice (some ⟨wr.heap.size, 0, none⟩) 1 1) 1 [.int .i64 ((k : Int) + 1)] := by rw [hwA]; exact own_below huA ((Below.refl _ _).alloc (Nat.le_refl _) _)
      have hrN : Row wA (wr.heap.size + 1) 44 (ndCells (starNd k) (.slice (some ⟨wr.heap.size, 0, none⟩) 1 1)) := by
        have h := Row.new (wr.alloc (.cells #[.int .i64 ((k : Int) + 1)] 3)) 44 (ndCells (starNd k) (.slice (some ⟨wr.heap.size, 0, none⟩) 1 1))
        simp only [World.size_alloc] at h
        rw [hwA]
        exact h
      have hNA := hn.below hbA
      have hr0A := hr0.below hbA hr0.lt
      have hr1A := hr1.below hbA hr1.lt
      have hownA := hNA.row
      have hnewsA := hrN.news
      have hsA : wA.heap.size = wr.heap.size + 2 := by rw [hwA]; simp
      have hloA : w.heap.size ≤ wA.heap.size := by omega
      have hAw : Below w.heap.size w wA := hb.trans (hbA.mono hbs)
      have honeA : ∀ u ∈ ndCells (starNd k) (.slice (some ⟨wr.heap.size, 0, none⟩) 1 1), u.oneCell' = true := by
        intro u hu
        simp only [ndCells, List.mem_cons, List.not_mem_nil, or_false] at hu
        rcases hu with rfl | rfl | rfl | rfl | rfl <;> rfl
      have h63 : es.length + 1 ≤ maxLen := by unfold maxLen; omega
      have hbyA : (es.length + 1) * 40 ≤ 140737488355328 := by omega
      rw [hwA] at hownA hnewsA hloA
      have HWA := Lib.hid hwA
      have HEL := Lib.hid hel
      have HE := Lib.hid he
      have HSA := Lib.hid hsA
      clear hwA hel he hsA huA hbU
      go_wp2_with (at_builtin; refine wpList_append_lies _ rfl _ _ 26 rfl w.heap.size 44 i1 (.agg #[.int .u8 0, .int .i32 0, .int .u32 0, .int .u32 0, .slice none 0 0]) 5 40 Tryd.underlying26 hi1 hy0 hy1 hy2 rfl (by decide) (.slice Av es.length cv) es.length (flat es) rfl hownA ⟨wr.heap.size + 1, 0, none⟩ 1 1 (ndCells (starNd k) (.slice (some ⟨wr.heap.size, 0, none⟩) 1 1)) rfl rfl hnewsA honeA (by decide) h63 hbyA hloA _ rfl ?_)
      rw [← HWA.out]
      intro g1 cap1 w3 hown3 hgr3 hat3 hlt3
      have hr03 := hr0A.grown hgr3 (fun e => row_ne_own hr0A hNA.row (by decide) e.symm)
      have hr13 := hr1A.grown hgr3 (fun e => row_ne_own hr1A hNA.row (by decide) e.symm)
      have hnd3 : Nodes w3 w.heap.size (.slice (some ⟨g1, 0, none⟩) (es.length + 1) cap1) (es ++ [(starNd k, .slice (some ⟨wr.heap.size, 0, none⟩) 1 1)]) := by
        refine hNA.push (own_low huB (by omega)) (star_kin (by omega)) (fun g hg => ?_) hown3 hgr3 ?_
        · have e : wr.heap.size = g := by simpa [Value.ownBlock] using hg
          exact ⟨fun e2 => by have := (hn.lt (.inl e2)).2; omega, fun i y t hi e2 => by have := (hn.lt (.inr ⟨i, y, t, hi, e2⟩)).2; omega⟩
        · rcases hat3 with h | h
          · exact .inl h.symm
          · have hs : wA.heap.size = wr.heap.size + 2 := HSA.out
            exact .inr (by show some g1 = _; first | rw [h, hs] | rw [h])
      have hst : DeepSt w (k + 1) (w3.setCell ⟨w.heap.size + 1, 0, none⟩ (.slice (some ⟨g1, 0, none⟩) (es.length + 1) cap1)) := by
        refine ⟨_, _, hr03.far (by show w.heap.size ≠ w.heap.size + 1; omega) _, hr13.set_ 0 _, hnd3.same fun g hg => Below.heap_setCell _ _ _ g (fun e => ?_), ?_, ?_⟩
        · simp only at e
          subst e
          rcases hg with hg | ⟨i, y, t, hi, hg⟩
          · exact row_ne_own hr13 hnd3.row (by decide) hg
          · exact row_ne_own hr13 (hnd3.kid i y t hi).1 (by decide) hg
        · rw [stars_succ, List.map_append, HE.out]
          rfl
        · exact (hAw.grown hgr3 hAw.size (fun j hj => (hNA.lt (.inl hj)).1)).setCell (by show w.heap.size ≤ w.heap.size + 1; omega) _
      obtain ⟨co3, fo3⟩ := hr13.cel (i := 0) rfl
      have HST := Lib.hid hst
      clear hst hr0A hr1A hownA hnewsA hloA hgr3 hat3 hnd3 hrN hNA huB hr03 hr13 hn hr0 hr1
      go_wp2_with fail
      exact ⟨⟨k + 1, by omega, by go_num, HST.out⟩, by simp [intOf]; omega⟩
    · obtain rfl : k = m := by omega
      have j1 : ¬ (k : Int) + 1 < (k : Int) + 1 := by omega
      obtain ⟨wA, hwA⟩ : ∃ wA, wA = (wr.alloc (.cells #[.int .u8 4, .int .i32 0, .int .u32 0, .int .u32 0, .slice none 0 0] 44)) := ⟨_, rfl⟩
      have hbA : Below wr.heap.size wr wA := by rw [hwA]; exact (Below.refl _ _).alloc (Nat.le_refl _) _
      have hrN : Row wA wr.heap.size 44 (ndCells anyNd (.slice none 0 0)) := by
        have h := Row.new wr 44 (ndCells anyNd (.slice none 0 0))
        rw [hwA]
        exact h
      have hNA := hn.below hbA
      have hr0A := hr0.below hbA hr0.lt
      have hr1A := hr1.below hbA hr1.lt
      have hownA := hNA.row
      have hnewsA := hrN.news
      have hsA : wA.heap.size = wr.heap.size + 1 := by rw [hwA]; simp
      have hloA : w.heap.size ≤ wA.heap.size := by omega
      have hAw : Below w.heap.size w wA := hb.trans (hbA.mono hbs)
      have honeA : ∀ u ∈ ndCells anyNd (.slice none 0 0), u.oneCell' = true := by
        intro u hu
        simp only [ndCells, List.mem_cons, List.not_mem_nil, or_false] at hu
        rcases hu with rfl | rfl | rfl | rfl | rfl <;> rfl
      have h63 : es.length + 1 ≤ maxLen := by unfold maxLen; omega
      have hbyA : (es.length + 1) * 40 ≤ 140737488355328 := by omega
      rw [hwA] at hownA hnewsA hloA
      have HWA := Lib.hid hwA
      have HEL := Lib.hid hel
      have HE := Lib.hid he
      have HSA := Lib.hid hsA
      clear hwA hel he hsA
      go_wp2_with (at_builtin; refine wpList_append_lies _ rfl _ _ 26 rfl w.heap.size 44 i1 (.agg #[.int .u8 0, .int .i32 0, .int .u32 0, .int .u32 0, .slice none 0 0]) 5 40 Tryd.underlying26 hi1 hy0 hy1 hy2 rfl (by decide) (.slice Av es.length cv) es.length (flat es) rfl hownA ⟨wr.heap.size, 0, none⟩ 1 1 (ndCells anyNd (.slice none 0 0)) rfl rfl hnewsA honeA (by decide) h63 hbyA hloA _ rfl ?_)
      rw [← HWA.out]
      intro g1 cap1 w3 hown3 hgr3 hat3 hlt3
      have hr03 := hr0A.grown hgr3 (fun e => row_ne_own hr0A hNA.row (by decide) e.symm)
      have hr13 := hr1A.grown hgr3 (fun e => row_ne_own hr1A hNA.row (by decide) e.symm)
      have hnd3 : Nodes w3 w.heap.size (.slice (some ⟨g1, 0, none⟩) (es.length + 1) cap1) (es ++ [(anyNd, .slice none 0 0)]) := by
        refine hNA.push (World.ownsRow_nil _ _ _ _) any_kin (fun g hg => by cases hg) hown3 hgr3 ?_
        rcases hat3 with h | h
        · exact .inl h.symm
        · have hs : wA.heap.size = wr.heap.size + 1 := HSA.out
          exact .inr (by show some g1 = _; first | rw [h, hs] | rw [h])
      have hr04 := (hr03.far (p := ⟨w.heap.size + 1, 0, none⟩) (by show w.heap.size ≠ w.heap.size + 1; omega) (.slice (some ⟨g1, 0, none⟩) (es.length + 1) cap1)).set_ 0 (.slice (some ⟨g1, 0, none⟩) (es.length + 1) cap1)
      have hnd4 := (hnd3.same (w' := (w3.setCell ⟨w.heap.size + 1, 0, none⟩ (.slice (some ⟨g1, 0, none⟩) (es.length + 1) cap1)).setCell ⟨w.heap.size, 0, none⟩ (.slice (some ⟨g1, 0, none⟩) (es.length + 1) cap1)) fun g hg => (Below.heap_setCell _ _ _ g (fun e => by
        simp only at e
        subst e
        rcases hg with hg | ⟨i, y, t, hi, hg⟩
        · exact row_ne_own hr03 hnd3.row (by decide) hg
        · exact row_ne_own hr03 (hnd3.kid i y t hi).1 (by decide) hg)).trans (Below.heap_setCell _ _ _ g (fun e => by
        simp only at e
        subst e
        rcases hg with hg | ⟨i, y, t, hi, hg⟩
        · exact row_ne_own hr13 hnd3.row (by decide) hg
        · exact row_ne_own hr13 (hnd3.kid i y t hi).1 (by decide) hg)))
      have hbF := ((hAw.grown hgr3 hAw.size (fun j hj => (hNA.lt (.inl hj)).1)).setCell (p := ⟨w.heap.size + 1, 0, none⟩) (by show w.heap.size ≤ w.heap.size + 1; omega) (.slice (some ⟨g1, 0, none⟩) (es.length + 1) cap1)).setCell (p := ⟨w.heap.size, 0, none⟩) (Nat.le_refl _) (.slice (some ⟨g1, 0, none⟩) (es.length + 1) cap1)
      have hfst : (es ++ [(anyNd, Value.slice none 0 0)]).map Prod.fst = deepN k := by rw [List.map_append, HE.out]; rfl
      have hlen : (es ++ [(anyNd, Value.slice none 0 0)]).length = es.length + 1 := by simp
      have HFIN : Hid (DeepRes k w (.returned (.agg #[.slice (some ⟨g1, 0, none⟩) (es.length + 1) cap1])) ((w3.setCell ⟨w.heap.size + 1, 0, none⟩ (.slice (some ⟨g1, 0, none⟩) (es.length + 1) cap1)).setCell ⟨w.heap.size, 0, none⟩ (.slice (some ⟨g1, 0, none⟩) (es.length + 1) cap1))) := by
        obtain ⟨A, c, e, _, _, hsl⟩ := hnd4.sl
        injection e with e1 e2 e3
        subst e1
        rw [hfst] at hsl
        exact ⟨_, cap1, by rw [← hfst, List.length_map, hlen], hsl.wide vNd_good (Nat.zero_le _) (Nat.le_refl _), hbF⟩
      have HR := Lib.hid hr04
      obtain ⟨co3, fo3⟩ := hr13.cel (i := 0) rfl
      obtain ⟨co4, fo4⟩ := hr03.cel (i := 0) rfl
      clear hr0A hr1A hownA hnewsA hloA hgr3 hat3 hnd3 hrN hr03 hr13 hn hr0 hr1 hnd4 hbF hr04
      go_wp2_with fail
      refine bodyPost_ret (res_pattern' rfl _ _ w.heap.size _ rfl HR.out) rfl ?_
      exact HFIN.out
end Go.Proofs.YtimhlnndobfehaaDoor
