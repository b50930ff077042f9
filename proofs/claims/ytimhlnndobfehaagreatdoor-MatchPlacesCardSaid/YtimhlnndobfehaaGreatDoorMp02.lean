/- The law's twin of a pattern, walked. -/
import Derived.Test.YtimhlnndobfehaaGreatDoorMp01
import Derived.Test.YtimhlnndobfehaaGreatDoorMd06
import Derived.Deep.AppendLies
namespace Go.Proofs.YtimhlnndobfehaaGreatDoor
open Go.RowKit
set_option linter.unusedVariables false

def Twin5St (w : World) (A : Option Addr) (c : Nat) (ns : List Nd) (k : Nat) (v : Value) (wr : World) : Prop :=
  ∃ es, Row wr w.heap.size 28 [.slice A ns.length c] ∧ Row wr (w.heap.size + 1) 28 [.slice none 0 0] ∧ Nodes wr w.heap.size v es ∧ es.map Prod.fst = ns.take k ∧ Below w.heap.size w wr

set_option maxHeartbeats 8000000 in
set_option maxRecDepth 100000 in
theorem twin5_any (A : Option Addr) (c lo hi : Nat) (ns : List Nd) (w : World) (hm : ns.length ≤ 100000) (hkb : ∀ x ∈ ns, x.kids.length * 8 ≤ 140737488355328) (hhi : hi ≤ w.heap.size) (hsl : Sl 5 vNd w lo hi A ns) :
    Calls Tryz.prog 20 #[.agg #[.slice A ns.length c]] w fun e w' => ∃ v, e = .returned v ∧ PatRes w w' v ns := by
  have hst0 : Twin5St w A c ns 0 (.slice none 0 0) ((w.alloc (.cells #[.slice A ns.length c] 28)).alloc (.cells #[.slice none 0 0] 28)) := by
    refine ⟨[], (Row.new w _ _).alloc _, ?_, Nodes.nil _ _, rfl, ((Below.refl _ _).alloc (Nat.le_refl _) _).alloc (by simp) _⟩
    have h := Row.new (w.alloc (.cells #[.slice A ns.length c] 28)) 28 [.slice none 0 0]
    simp only [World.size_alloc] at h
    exact h
  go_enter Tryz.func20, Tryz.ntmps20
  go_wp2_with fail
  go_loopw [3, 4] (fun v i wr => ∃ k : Nat, k ≤ ns.length ∧ i = .int .i64 k ∧ Twin5St w A c ns k v wr) (fun _ i _ => ns.length - (intOf i).toNat)
  case atStart => exact ⟨0, by omega, rfl, hst0⟩
  case round =>
    obtain ⟨k, hk, rfl, es, hr0, hr1, hn, he, hb⟩ := hrel
    have hbs := hb.size
    have hl2 := hr1.lt
    obtain ⟨cr0, fr0⟩ := hr0.cel (i := 0) rfl
    obtain ⟨cr1, fr1⟩ := hr1.cel (i := 0) rfl
    clear hst0
    obtain ⟨Av, cv, rfl, _, _⟩ := own_form hn.row
    have hel : es.length = k := by rw [← List.length_map (f := Prod.fst), he, List.length_take, Nat.min_eq_left hk]
    by_cases hlt : k < ns.length
    · obtain ⟨i0, hi0, hz0, hz1, hz2⟩ := info_parts int_info
      obtain ⟨i1, hi1, hy0, hy1, hy2⟩ := info_parts (show (Tryz.prog.info? 66).map (fun i => (i.zero, i.size, i.bytes)) = some (some (.agg #[.int .u8 0, .int .i32 0, .int .u32 0, .int .u32 0, .slice none 0 0]), 5, 40) by kernel_rfl)
      obtain ⟨b, off, B, cc, rfl, _, hbb, ⟨c0, f0⟩, ⟨c1, f1⟩, ⟨c2, f2⟩, ⟨c3, f3⟩, ⟨c4, f4⟩, hkl, hkc, hks, k0, k1, k2, k3⟩ := nd_at (hsl.below vNd_good hb hhi) hlt
      have hnext : Hid (ns.take (k + 1) = ns.take k ++ [ns[k]]) := List.take_succ_eq_append_getElem hlt
      have hx8 : ns[k].kids.length * 8 ≤ 140737488355328 := hkb _ (List.getElem_mem hlt)
      generalize ns[k] = x at *
      have hx63 : x.kids.length ≤ maxLen := by unfold maxLen; omega
      have hba : Below wr.heap.size wr (wr.alloc (.cells #[.int .u8 x.kind, .int .i32 x.rune, .int .u32 x.plus, .int .u32 x.minus, .slice B x.kids.length cc] 66)) := (Below.refl _ _).alloc (Nat.le_refl _) _
      have hnA : Row (wr.alloc (.cells #[.int .u8 x.kind, .int .i32 x.rune, .int .u32 x.plus, .int .u32 x.minus, .slice B x.kids.length cc] 66)) wr.heap.size 66 [.int .u8 x.kind, .int .i32 x.rune, .int .u32 x.plus, .int .u32 x.minus, .slice B x.kids.length cc] := Row.new wr _ _
      have hksA := hks.below (vInt_good _) hba (by omega)
      have hkin := ints_kin hks
      have hA1 : 0 ≤ (wr.alloc (.cells #[.int .u8 x.kind, .int .i32 x.rune, .int .u32 x.plus, .int .u32 x.minus, .slice B x.kids.length cc] 66)).heap.size := Nat.zero_le _
      have hA2 : hi ≤ (wr.alloc (.cells #[.int .u8 x.kind, .int .i32 x.rune, .int .u32 x.plus, .int .u32 x.minus, .slice B x.kids.length cc] 66)).heap.size := by have := hba.size; omega
      have hksA0 := hksA.wide (vInt_good _) (Nat.zero_le lo) (Nat.le_refl _)
      have HEL := Lib.hid hel
      have HE := Lib.hid he
      clear hel he
      go_wp2_with (at_builtin; refine wpList_append_copy _ rfl (.tmp 19) (.tmp 21) 45 rfl 3 i0 _ 8 Tryz.underlying45 hi0 hz0 hz1 hz2 rfl (by decide) rfl rfl hksA0 hA1 hA2 (vInt_good .i64) (fun _ _ => int_one) hx63 hx8 ?_)
      intro A2 cc2 w2 hb2 hc21 hc22 hs2 news hown2 hfit2
      obtain rfl := fits_ints hfit2
      clear hs2 hfit2 hksA hksA0 c0 c1 c2 c3 c4 f0 f1 f2 f3 f4
      have hu2 := hown2
      have hn2 := hnA.below hb2 (Nat.lt_succ_self _)
      have hw2 := hba.trans (hb2.mono (Nat.le_succ _))
      have hs2 := hw2.size
      have hl2' := hn2.lt
      have hN2 := hn.below hw2
      have hr02 := hr0.below hw2 hr0.lt
      have hr12 := hr1.below hw2 hr1.lt
      obtain ⟨cn0, fn0⟩ := hn2.cel (i := 0) rfl
      obtain ⟨cn1, fn1⟩ := hn2.cel (i := 1) rfl
      obtain ⟨cn2, fn2⟩ := hn2.cel (i := 2) rfl
      obtain ⟨cn3, fn3⟩ := hn2.cel (i := 3) rfl
      obtain ⟨cn4, fn4⟩ := hn2.cel (i := 4) rfl
      have hrA : Row ((w2.setCell ⟨wr.heap.size, 4, none⟩ (.slice A2 x.kids.length cc2)).alloc (.cells #[.int .u8 x.kind, .int .i32 x.rune, .int .u32 x.plus, .int .u32 x.minus, .slice A2 x.kids.length cc2] 66)) w2.heap.size 66 (ndCells x (.slice A2 x.kids.length cc2)) := by
        have h := Row.new (w2.setCell ⟨wr.heap.size, 4, none⟩ (.slice A2 x.kids.length cc2)) 66 (ndCells x (.slice A2 x.kids.length cc2))
        simp only [ndCells] at h ⊢
        simpa using h
      have hfA : Fr (fun k => k = wr.heap.size) w2 ((w2.setCell ⟨wr.heap.size, 4, none⟩ (.slice A2 x.kids.length cc2)).alloc (.cells #[.int .u8 x.kind, .int .i32 x.rune, .int .u32 x.plus, .int .u32 x.minus, .slice A2 x.kids.length cc2] 66)) :=
        ((Fr.refl (fun k => k = wr.heap.size) w2).setc ⟨wr.heap.size, 4, none⟩ _ (fun _ => rfl)).alloc _
      obtain ⟨wA, hwA⟩ : ∃ wA, wA = ((w2.setCell ⟨wr.heap.size, 4, none⟩ (.slice A2 x.kids.length cc2)).alloc (.cells #[.int .u8 x.kind, .int .i32 x.rune, .int .u32 x.plus, .int .u32 x.minus, .slice A2 x.kids.length cc2] 66)) := ⟨_, rfl⟩
      rw [← hwA] at hrA hfA
      have hold : ∀ k, k < w2.heap.size → k ≠ wr.heap.size → wA.heap[k]? = w2.heap[k]? := fun k h1 h2 => hfA.block k h1 h2
      have hNA : Nodes wA w.heap.size (.slice Av es.length cv) es := hN2.same fun g hg => hold g (hN2.lt hg).2 (fun e => by
        subst e
        have := (hn.lt hg).2
        omega)
      have huA : wA.ownsRow (wr.heap.size + 1) 3 1 (.slice A2 x.kids.length cc2) x.kids.length (x.kids.map (Value.int .i64)) := own_same hu2 fun g hg => hold g (hu2.lt g hg).2 (by have := (hu2.lt g hg).1; omega)
      have hr0A : Row wA w.heap.size 28 [.slice (some ⟨b, off, none⟩) ns.length c] := (hold _ (by omega) (by omega)).trans hr02
      have hr1A : Row wA (w.heap.size + 1) 28 [.slice none 0 0] := (hold _ (by omega) (by omega)).trans hr12
      have h63 : es.length + 1 ≤ maxLen := by have := HEL.out; unfold maxLen; omega
      have hbyA : (es.length + 1) * 40 ≤ 140737488355328 := by have := HEL.out; omega
      have hloA : w.heap.size ≤ wA.heap.size := by have := hfA.size; omega
      have honeA : ∀ u ∈ ndCells x (.slice A2 x.kids.length cc2), u.oneCell' = true := by
        intro u hu
        simp only [ndCells, List.mem_cons, List.not_mem_nil, or_false] at hu
        rcases hu with rfl | rfl | rfl | rfl | rfl <;> rfl
      have hownA := hNA.row
      have hnewsA := hrA.news
      have hAw : Below w.heap.size w wA := hb.trans ((hw2.mono hbs).trans (hfA.below (fun k e => by rw [e]; exact hbs) (by omega)))
      rw [hwA] at hownA hnewsA hloA
      have HWA := Lib.hid hwA
      clear hwA
      go_wp2_with (at_builtin; refine wpList_append_lies _ rfl _ _ 26 rfl w.heap.size 66 i1 (.agg #[.int .u8 0, .int .i32 0, .int .u32 0, .int .u32 0, .slice none 0 0]) 5 40 Tryz.underlying26 hi1 hy0 hy1 hy2 rfl (by decide) (.slice Av es.length cv) es.length (flat es) rfl hownA ⟨w2.heap.size, 0, none⟩ 1 1 (ndCells x (.slice A2 x.kids.length cc2)) rfl rfl hnewsA honeA (by decide) h63 hbyA hloA _ rfl ?_)
      rw [← HWA.out]
      intro g1 cap1 w3 hown3 hgr3 hat3 hlt3
      have hr03 := hr0A.grown hgr3 (fun e => row_ne_own hr0A hNA.row (by decide) e.symm)
      have hr13 := hr1A.grown hgr3 (fun e => row_ne_own hr1A hNA.row (by decide) e.symm)
      have hnd3 : Nodes w3 w.heap.size (.slice (some ⟨g1, 0, none⟩) (es.length + 1) cap1) (es ++ [(x, .slice A2 x.kids.length cc2)]) := by
        refine hNA.push (own_low huA (by omega)) ⟨k0, k1, k2, k3, hkin⟩ (fun g hg => ?_) hown3 hgr3 ?_
        · have := (hu2.lt g hg).1
          exact ⟨fun e => by have := (hn.lt (.inl e)).2; omega, fun i y t hi e => by have := (hn.lt (.inr ⟨i, y, t, hi, e⟩)).2; omega⟩
        · rcases hat3 with h | h
          · exact .inl h.symm
          · have hs : wA.heap.size = w2.heap.size + 1 := by rw [HWA.out]; simp
            exact .inr (by show some g1 = _; first | rw [h, hs] | rw [h])
      have hst : Twin5St w (some ⟨b, off, none⟩) c ns (k + 1) (.slice (some ⟨g1, 0, none⟩) (es.length + 1) cap1) w3 := by
        refine ⟨_, hr03, hr13, hnd3, ?_, hAw.grown hgr3 (by have := hAw.size; omega) (fun j hj => (hNA.lt (.inl hj)).1)⟩
        rw [hnext.out, List.map_append, HE.out]
        rfl
      clear hrA hfA hold hNA huA hr0A hr1A hownA hnewsA hloA hgr3 hat3 hnd3 hN2 hu2 hn2 hr02 hr12 hown2 hb2 cn0 cn1 cn2 cn3 cn4 fn0 fn1 fn2 fn3 fn4
      go_wp2_with fail
      exact ⟨⟨k + 1, by omega, by go_num, hst⟩, by simp [intOf]; omega⟩
    · obtain rfl : k = ns.length := by omega
      rw [List.take_length] at he
      have hfin : PatRes w (wr.setCell ⟨w.heap.size + 1, 0, none⟩ (.slice Av es.length cv)) (.agg #[.slice Av es.length cv]) ns := by
        refine ⟨_, es, rfl, hn.same fun g hg => Below.heap_setCell _ _ _ g (fun e => ?_), he, hb.setCell (by show w.heap.size ≤ w.heap.size + 1; omega) _⟩
        simp only at e
        subst e
        rcases hg with hg | ⟨i, y, t, hi, hg⟩
        · exact row_ne_own hr1 hn.row (by decide) hg
        · exact row_ne_own hr1 (hn.kid i y t hi).1 (by decide) hg
      have HEL := Lib.hid hel
      clear hel he
      go_wp2_with fail
      refine bodyPost_ret (res_cell rfl _ _ (w.heap.size + 1) _ rfl (hr1.set_ 0 _)) rfl ?_
      exact ⟨_, rfl, hfin⟩

end Go.Proofs.YtimhlnndobfehaaGreatDoor
