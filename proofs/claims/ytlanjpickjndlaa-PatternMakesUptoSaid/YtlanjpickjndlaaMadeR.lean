/- The document's made, walked. -/
import Derived.Test.YtlanjpickjndlaaMade
namespace Go.Proofs.Ytlanjpickjndlaa
open Go.RowKit
set_option linter.unusedVariables false

def MadeStR (w : World) (kind : Int) (ls : List (List Nd)) (k : Nat) (v vk : Value) (wr : World) : Prop :=
  ∃ es2, Row wr w.heap.size 25 [.slice none 0 0] ∧ Nodes wr w.heap.size v ((⟨kind, 0, 0, 0, []⟩, .slice none 0 0) :: es2) ∧ es2.map Prod.fst = (catSt (ls.take k)).2 ∧ Below w.heap.size w wr ∧
    wr.ownsRow w.heap.size 3 1 vk (catSt (ls.take k)).1.length ((catSt (ls.take k)).1.map (Value.int .i64)) ∧ (∀ n ∈ (catSt (ls.take k)).1, kin .i64 n) ∧
    ∀ (i : Nat) (y : Nd) (t : Value) (g : Nat), es2[i]? = some (y, t) → t.ownBlock = some g → vk.ownBlock ≠ some g

set_option maxHeartbeats 8000000 in
set_option maxRecDepth 100000 in
theorem madeR_any (kind : Int) (hkk : kin .u8 kind) (AL : Option Addr) (cL lo hi : Nat) (ls : List (List Nd)) (w : World) (hm : ls.length ≤ 9223372036854775807) (hhi : hi ≤ w.heap.size) (hsl : Sl 1 vPat w lo hi AL ls) :
    Calls Try.prog 28 #[.int .u8 kind, .slice AL ls.length cL] w fun e w' => ∃ v, e = .returned (.tuple #[v, .int .i64 (madeE ls)]) ∧ PatRes w w' v (madeN kind ls) := by
  have hb0 : Below w.heap.size w (w.alloc (.cells #[.slice none 0 0] 25)) := (Below.refl _ _).alloc (Nat.le_refl _) _
  have hr0 : Row (w.alloc (.cells #[.slice none 0 0] 25)) w.heap.size 25 [.slice none 0 0] := Row.new w _ _
  have hfail : ∀ (e : Int) (wr : World), madeE ls = e → e ≠ 0 → Below w.heap.size w wr → PatRes w (wr.setCell ⟨w.heap.size, 0, none⟩ (.slice none 0 0)) (.agg #[.slice none 0 0]) (madeN kind ls) := by
    intro e wr h1 h2 h3
    rw [madeN_bad (by rw [h1]; exact h2)]
    exact PatRes.nothing (h3.setCell (Nat.le_refl _) _)
  by_cases hbig : 256 < ls.length
  · have hE := Lib.hid (madeE_many hbig)
    go_enter Try.func28, Try.ntmps28
    go_wp2_with fail
    refine bodyPost_ret (res_cell_tmp rfl _ _ w.heap.size _ rfl hr0) rfl ?_
    refine ⟨_, by rw [hE.out]; rfl, ?_⟩
    rw [madeN_bad (by rw [hE.out]; decide)]
    exact PatRes.nothing hb0
  · have hle : ls.length ≤ 256 := by omega
    go_enter Try.func28, Try.ntmps28
    go_wp2_with fail
    go_loopw [6, 7] (fun m i wr => ∃ k : Nat, k ≤ ls.length ∧ i = .int .i64 k ∧ m = .int .i64 (1 + (sumLen (ls.take k) : Int)) ∧ TestSt w ls k wr) (fun _ i _ => ls.length - (intOf i).toNat)
    case atStart =>
      exact ⟨0, by omega, rfl, rfl, by simp, by simp [sumLen], hr0, hb0⟩
    case round =>
      obtain ⟨k, hk, rfl, rfl, hst⟩ := hrel
      by_cases hlt : k < ls.length
      · have hst' := hst
        obtain ⟨_, hs2, hr, hbw⟩ := hst'
        have hbs := hbw.size
        obtain ⟨b, off, B, cc, rfl, _, hb, ⟨c0, f0⟩, hkl, hkc, hks⟩ := pat_at (hsl.below vPat_good hbw hhi) hlt
        have hstep := Lib.hid (fun (ht : treeB ls[k] = true) wr' => hst.step (wr' := wr') hlt ht)
        have hbad := Lib.hid (fun (ht : treeB ls[k] = false) => madeE_tree hle hlt ht)
        have hsum := sumLen_take hlt
        generalize hN : sumLen (ls.take k) = N at *
        generalize hN2 : sumLen (ls.take (k + 1)) = N2 at *
        have hgood : treeB ls[k] = true → ls[k].length ≤ 256 := fun ht => ((treeB_iff _).1 ht).max
        generalize ls[k] = x at *
        have hxm : x.length ≤ 9223372036854775807 := by unfold maxLen at hkc; omega
        go_wp2_with fail
        refine (treeR_any B cc lo hi x _ hxm (by omega) hks).mono ?_
        rintro e w1 ⟨rfl, hb01⟩
        have hr1 := hr.below hb01 hr.lt
        obtain ⟨c01, f01⟩ := Cel.keep (Kp.of_below hb01) (Nat.zero_le _) (show b < wr.heap.size by omega) ⟨c0, f0⟩
        obtain ⟨cr, fr⟩ := hr1.cel (i := 0) rfl
        clear c0 f0
        cases ht : treeB x with
        | false =>
          have hE := Lib.hid (hbad.out ht)
          have hfin := hfail 40 w1 hE.out (by decide) (hbw.trans (hb01.mono hbs))
          go_wp2_with fail
          refine bodyPost_ret (res_cell_tmp rfl _ _ w.heap.size _ rfl (hr1.set_ 0 _)) rfl ?_
          exact ⟨_, by rw [hE.out]; rfl, hfin⟩
        | true =>
          have hS := hstep.out ht w1 hb01
          have hx2 := hgood ht
          clear hgood hbad hstep
          go_wp2_with fail
          exact ⟨⟨k + 1, by omega, by go_num, by rw [hN2]; go_num, hS⟩, by simp [intOf]; omega⟩
      · obtain rfl : k = ls.length := by omega
        obtain ⟨hall, hs2, hr, hbw⟩ := hst
        rw [List.take_length] at hall hs2 ⊢
        obtain ⟨cr, fr⟩ := hr.cel (i := 0) rfl
        have hbs := hbw.size
        by_cases hsum : 256 < 1 + sumLen ls
        · have hE := Lib.hid (madeE_sum hle hall hsum)
          have hfin := hfail 4 wr hE.out (by decide) hbw
          generalize sumLen ls = N at *
          clear hall
          go_wp2_with fail
          refine bodyPost_ret (res_cell_tmp rfl _ _ w.heap.size _ rfl (hr.set_ 0 _)) rfl ?_
          exact ⟨_, by rw [hE.out]; rfl, hfin⟩
        · have hE := Lib.hid (madeE_ok hle hall (by omega))
          have hOK := Lib.hid (madeN_ok (kind := kind) hE.out)
          have hst0 : MadeStR w kind ls 0 (.slice (some ⟨wr.heap.size, 0, none⟩) 1 1) (.slice none 0 0) (wr.alloc (.cells #[.int .u8 kind, .int .i32 0, .int .u32 0, .int .u32 0, .slice none 0 0] 42)) := by
            refine ⟨[], hr.alloc _, (Nodes.one wr ⟨kind, 0, 0, 0, []⟩ rfl ⟨hkk, by rfl, by rfl, by rfl, by simp⟩).low hbs, by simp [catSt], hbw.alloc hbs _, World.ownsRow_nil _ _ _ _, by simp [catSt], by simp⟩
          have hlen := catSt_len hall
          have hS : sumLen ls ≤ 255 := by omega
          have hcl : Hid (∀ j, j ≤ ls.length → (catSt (ls.take j)).2.length = sumLen (ls.take j) ∧ (catSt (ls.take j)).1.length = j ∧ sumLen (ls.take j) ≤ 255) := fun j hj => ⟨(hlen j hj).1, (hlen j hj).2, by have := sumLen_le ls j; omega⟩
          have hAll := Lib.hid hall
          clear hlen hall
          generalize sumLen ls = N at *
          go_wp2_with fail
          go_loopw [8, 9, 10] (fun v vk i wr => ∃ k : Nat, k ≤ ls.length ∧ i = .int .i64 k ∧ MadeStR w kind ls k v vk wr) (fun _ _ i _ => ls.length - (intOf i).toNat)
          case atStart => exact ⟨0, by omega, rfl, hst0⟩
          case round =>
            obtain ⟨k, hk, rfl, hst⟩ := hrel
            obtain ⟨es2, hr2, hn2, he2, hb2, ho2, hkin2, hap2⟩ := hst
            have hbs2 := hb2.size
            clear cr fr
            obtain ⟨cr, fr⟩ := hr2.cel (i := 0) rfl
            by_cases hlt : k < ls.length
            · obtain ⟨i0, hi0, hz0, hz1, hz2⟩ := info_parts int_info
              obtain ⟨b, off, B, cc, rfl, _, hb, ⟨c0, f0⟩, hkl, hkc, hks⟩ := pat_at (hsl.below vPat_good hb2 hhi) hlt
              have htree : IsTree ls[k] := (treeB_iff _).1 (hAll.out _ (List.getElem_mem hlt))
              have hnext := Lib.hid (catSt_take hlt)
              have hck := hcl.out k (by omega)
              have hpos := htree.pos
              have hmax := htree.max
              generalize hkd : (catSt (ls.take k)).1 = kd at *
              generalize hl2 : (catSt (ls.take k)).2 = l2 at *
              generalize ls[k] = x at *
              have hkdl : kd.length = k := hck.2.1
              have hes2 : es2.length = l2.length := by rw [← he2, List.length_map]
              have hrow := hn2.row
              obtain ⟨L, hL⟩ : ∃ L, L = (((⟨kind, 0, 0, 0, []⟩ : Nd), Value.slice none 0 0) :: es2).length := ⟨_, rfl⟩
              rw [← hL] at hrow
              have hL2 : L = 1 + l2.length := by rw [hL, List.length_cons, hes2]; omega
              have hLm : L ≤ 256 := by omega
              obtain ⟨g, cv, rfl, hc1, hc2, hg1, hg2⟩ := own_pos hrow (by omega)
              obtain ⟨Au, cu, rfl, hcu1, hcu2⟩ := own_form ho2
              have hba : Below wr.heap.size wr (wr.alloc (.cells #[.int .i64 (L : Int)] 3)) := (Below.refl _ _).alloc (Nat.le_refl _) _
              have hnI : Row (wr.alloc (.cells #[.int .i64 (L : Int)] 3)) wr.heap.size 3 [.int .i64 (L : Int)] := Row.new wr _ _
              have hnW := hn2.below hba
              have hrW := hr2.below hba hr2.lt
              have hownW := own_below ho2 hba
              have hnews := hnI.news
              have hone : ∀ u ∈ [Value.int .i64 (L : Int)], u.oneCell' = true := by intro u hu; rw [List.mem_singleton.1 hu]; rfl
              have h63 : kd.length + 1 ≤ maxLen := by unfold maxLen; omega
              have hby : (kd.length + 1) * 8 ≤ 140737488355328 := by omega
              have hloW : w.heap.size ≤ (wr.alloc (.cells #[.int .i64 (L : Int)] 3)).heap.size := by have := hba.size; omega
              have hWs : (wr.alloc (.cells #[.int .i64 (L : Int)] 3)).heap.size = wr.heap.size + 1 := by simp
              have HL := Lib.hid hL
              have HL2 := Lib.hid hL2
              have HKD := Lib.hid hkdl
              have HES := Lib.hid hes2
              have HE2 := Lib.hid he2
              have HCK := Lib.hid hck
              have HWS := Lib.hid hWs
              have HK1 := Lib.hid hkd
              have HK2 := Lib.hid hl2
              have hLp : 1 ≤ L := by omega
              have hkdm : kd.length ≤ 256 := by omega
              clear hL hL2 hkdl hes2 he2 hck hWs hkd hl2
              go_wp2_with (at_builtin; refine wpList_append_lies _ rfl _ _ 40 rfl w.heap.size 3 i0 (.int .i64 0) 1 8 Try.underlying40 hi0 hz0 hz1 hz2 rfl (by decide) (.slice Au kd.length cu) kd.length (kd.map (Value.int .i64)) rfl hownW ⟨wr.heap.size, 0, none⟩ 1 1 [.int .i64 (L : Int)] rfl rfl hnews hone (by decide) h63 hby hloW _ rfl ?_)
              intro g5 cap5 w5 hown5 hgr5 hat5 hlt5
              generalize hWW : (wr.alloc (.cells #[.int .i64 (L : Int)] 3)) = W at *
              have hn5 : Nodes w5 w.heap.size (.slice (some ⟨g, 0, none⟩) L cv) (((⟨kind, 0, 0, 0, []⟩ : Nd), Value.slice none 0 0) :: es2) := hnW.same fun b hb => hgr5.block b (hnW.lt hb).2 (fun e => by
                rcases hb with hb | ⟨i, y, t, hi, hb⟩
                · exact own_ne_own hnW.row hownW (by decide) b hb e.symm
                · match i, hi with
                  | 0, hi =>
                    simp only [List.getElem?_cons_zero, Option.some.injEq, Prod.mk.injEq] at hi
                    obtain ⟨rfl, rfl⟩ := hi
                    simp [Value.ownBlock] at hb
                  | i + 1, hi => exact hap2 i y t b (by simpa using hi) hb e.symm)
              have hr5 := hrW.grown hgr5 (fun e => row_ne_own hrW hownW (by decide) e.symm)
              have hbw5 : Below w.heap.size wr w5 := (hba.mono hbs2).grown hgr5 hloW (fun j hj => (hownW.lt j hj).1)
              have hs5 := hbw5.size
              obtain ⟨c05, f05⟩ := Cel.keep (Kp.of_below hbw5) (Nat.zero_le _) (show b < w.heap.size by omega) ⟨c0, f0⟩
              have hcall := put_any x false B cc lo w.heap.size htree.inr (by omega) (fun y hy => by have := kids_le htree hy; omega) x.length 0 (((⟨kind, 0, 0, 0, []⟩ : Nd), Value.slice none 0 0) :: es2) (.slice (some ⟨g, 0, none⟩) L cv) w5 hpos (by omega) (by rw [tree_size htree, List.length_cons, HES.out]; have := HL2.out; omega) ((hks.below vNd_good hbw5 hhi).wide vNd_good (Nat.le_refl _) hhi) (by omega) hn5
              have hold5 : ∀ (i : Nat) (y : Nd) (t : Value) (j : Nat), es2[i]? = some (y, t) → t.ownBlock = some j → j ≠ g5 := by
                intro i y t j hi hj e
                subst e
                have hlt := (hn2.kid (i + 1) y t (by simpa using hi)).1.lt _ hj
                rcases hat5 with h | h
                · exact hap2 i y t _ hi hj h
                · omega
              have hg5 : g5 < w5.heap.size := (hown5.lt g5 rfl).2
              have hdone : ∀ v7 es7 w7, Nodes w7 w.heap.size v7 ((((⟨kind, 0, 0, 0, []⟩ : Nd), Value.slice none 0 0) :: es2) ++ es7) → es7.map Prod.fst = sub x false x.length (((⟨kind, 0, 0, 0, []⟩ : Nd), Value.slice none 0 0) :: es2).length 0 → Fr (fun k => (Value.slice (some ⟨g, 0, none⟩) L cv).ownBlock = some k) w5 w7 →
                  (∀ (i : Nat) (y : Nd) (t : Value) (g : Nat), es7[i]? = some (y, t) → t.ownBlock = some g → w5.heap.size ≤ g) → MadeStR w kind ls (k + 1) v7 (.slice (some ⟨g5, 0, none⟩) (kd.length + 1) cap5) w7 := by
                intro v7 es7 w7 hn7 he7 hF7 ha7
                have hLL : (((⟨kind, 0, 0, 0, []⟩ : Nd), Value.slice none 0 0) :: es2).length = 1 + l2.length := by rw [List.length_cons, HES.out]; omega
                rw [hLL] at he7
                refine ⟨es2 ++ es7, (hF7.block _ hr5.lt (fun e => row_ne_own hr5 hn5.row (by decide) e)).trans hr5, hn7, ?_, (hb2.trans hbw5).trans (hF7.below (fun j hj => ?_) (by omega)), ?_, ?_, ?_⟩
                · rw [hnext.out, List.map_append, HE2.out, he7]
                · simp only [Value.ownBlock, Option.some.injEq] at hj
                  omega
                · rw [hnext.out, ← HL2.out, List.length_append, List.map_append]
                  exact own_fr hown5 hF7 (fun j hj => fun e => own_ne_own hown5 hn5.row (by decide) j hj e)
                · rw [hnext.out, ← HL2.out]
                  intro n hn
                  rcases List.mem_append.1 hn with hn | hn
                  · exact hkin2 n hn
                  · rw [List.mem_singleton.1 hn]; exact kin_mk64 (by omega)
                · intro i y t j hi hj e
                  simp only [Value.ownBlock, Option.some.injEq] at e
                  subst e
                  by_cases hil : i < es2.length
                  · rw [List.getElem?_append_left hil] at hi
                    exact hold5 i y t _ hi hj rfl
                  · rw [List.getElem?_append_right (by omega)] at hi
                    have := ha7 _ y t _ hi hj
                    omega
              clear hgr5 hown5 hnW hrW hownW hnews hnI hba hnext hold5
              go_wp2_with fail
              refine hcall.mono ?_
              rintro e w7 ⟨v7, es7, rfl, hn7, he7, hF7, _, ha7⟩
              have hfin := hdone v7 es7 w7 hn7 he7 hF7 ha7
              clear hdone hcall hn7 he7 hF7 ha7
              go_wp2_with fail
              exact ⟨⟨k + 1, by omega, by go_num, hfin⟩, by simp [intOf]; omega⟩
            · obtain rfl : k = ls.length := by omega
              have hrow := hn2.row
              obtain ⟨L, hL⟩ : ∃ L, L = (((⟨kind, 0, 0, 0, []⟩ : Nd), Value.slice none 0 0) :: es2).length := ⟨_, rfl⟩
              rw [← hL] at hrow
              have hLp : 1 ≤ L := by rw [hL, List.length_cons]; omega
              obtain ⟨g, cv, rfl, hc1, hc2, hg1, hg2⟩ := own_pos hrow (by omega)
              rw [List.take_length] at ho2 he2 hkin2
              obtain ⟨Au, cu, rfl, hcu1, hcu2⟩ := own_form ho2
              generalize hkd : (catSt ls).1 = kd at *
              obtain ⟨cq, fq⟩ := hn2.cel hL (i := 0) rfl 4 (by decide)
              simp only [ndCells, Nat.zero_mul, Nat.zero_add, List.getD_cons_succ, List.getD_cons_zero] at cq fq
              have hsw := hn2.swap (w' := wr) (i := 0) (g := g) rfl rfl (fun _ _ => rfl) ho2 hkin2 (fun j hj => by
                refine ⟨fun e => ?_, fun i y t hne hi => ?_⟩
                · subst e
                  exact own_ne_own ho2 hn2.row (by decide) _ hj rfl
                · match i, hne, hi with
                  | i + 1, _, hi => exact fun e => hap2 i y t j (by simpa using hi) e hj)
              simp only [Nat.zero_mul, Nat.zero_add, List.set_cons_zero] at hsw
              have hr3 := hr2.far (p := ⟨g, 4, none⟩) (by have := row_ne_own hr2 hn2.row (by decide); intro e; exact this (by rw [e]; rfl)) (.slice Au kd.length cu)
              have hb3 := hb2.setCell (p := ⟨g, 4, none⟩) hg1 (.slice Au kd.length cu)
              obtain ⟨cr3, fr3⟩ := hr3.cel (i := 0) rfl
              have hfin : PatRes w ((wr.setCell ⟨g, 4, none⟩ (.slice Au kd.length cu)).setCell ⟨w.heap.size, 0, none⟩ (.slice (some ⟨g, 0, none⟩) L cv)) (.agg #[.slice (some ⟨g, 0, none⟩) L cv]) (madeN kind ls) := by
                refine ⟨_, _, rfl, hsw.same fun b hb => Below.heap_setCell _ _ _ b (fun e => ?_), ?_, hb3.setCell (Nat.le_refl _) _⟩
                · simp only at e
                  subst e
                  rcases hb with hb | ⟨i, y, t, hi, hb⟩
                  · exact row_ne_own hr3 hsw.row (by decide) hb
                  · exact row_ne_own hr3 (hsw.kid i y t hi).1 (by decide) hb
                · rw [hOK.out, List.map_cons, he2]
              have HL := Lib.hid hL
              clear hL hkd hsw he2
              go_wp2_with fail
              refine bodyPost_ret (res_cell_tmp rfl _ _ w.heap.size _ rfl (hr3.set_ 0 _)) rfl ?_
              exact ⟨_, by rw [hE.out]; rfl, hfin⟩
end Go.Proofs.Ytlanjpickjndlaa
