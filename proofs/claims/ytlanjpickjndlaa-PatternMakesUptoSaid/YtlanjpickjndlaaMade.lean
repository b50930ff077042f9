/- The program's made, walked. -/
import Derived.Test.YtlanjpickjndlaaTurn
import Derived.Test.YtlanjpickjndlaaSameSpec
import Derived.Deep.AppendLies
import Derived.Deep.DeepCutAuto
import Derived.Deep.CutBlock
namespace Go.Proofs.Ytlanjpickjndlaa
open Go.RowKit
set_option linter.unusedVariables false

theorem pat_at {w : World} {lo hi k : Nat} {A : Option Addr} {ls : List (List Nd)} (h : Sl 1 vPat w lo hi A ls) (hk : k < ls.length) :
    ∃ b off B c, A = some ⟨b, off, none⟩ ∧ lo ≤ b ∧ b < hi ∧ Cel w b (off + k) (.slice B ls[k].length c) ∧ ls[k].length ≤ c ∧ c ≤ maxLen ∧ Sl 5 vNd w lo hi B ls[k] := by
  obtain ⟨b, off, cs, e, h1, h2, _, h4, B, c, e4, hl, hm, hs⟩ := h.at_ hk
  subst e4
  have := h4 0 _ rfl
  simp only [Nat.mul_one, Nat.add_zero] at this
  exact ⟨b, off, B, c, e, h1, h2, this, hl, hm, hs⟩
theorem Nodes.one (w : World) (x : Nd) (hx : x.kids = []) (hk : kinNd x) : Nodes (w.alloc (.cells #[.int .u8 x.kind, .int .i32 x.rune, .int .u32 x.plus, .int .u32 x.minus, .slice none 0 0] 42)) w.heap.size (.slice (some ⟨w.heap.size, 0, none⟩) 1 1) [(x, .slice none 0 0)] := by
  refine ⟨⟨rfl, .inr ⟨w.heap.size, 1, #[.int .u8 x.kind, .int .i32 x.rune, .int .u32 x.plus, .int .u32 x.minus, .slice none 0 0], rfl, Nat.le_refl _, Row.new w 42 [.int .u8 x.kind, .int .i32 x.rune, .int .u32 x.plus, .int .u32 x.minus, .slice none 0 0], Nat.le_refl _, by unfold maxLen; omega, rfl, rfl⟩⟩, fun i y u hi => ?_, fun i y u g hi hg => ?_, fun i j y u z t g hi hj _ _ => ?_⟩
  · match i, hi with
    | 0, hi =>
      simp only [List.getElem?_cons_zero, Option.some.injEq, Prod.mk.injEq] at hi
      obtain ⟨rfl, rfl⟩ := hi
      rw [hx]
      exact ⟨World.ownsRow_nil _ _ _ _, hk⟩
  · match i, hi with
    | 0, hi =>
      simp only [List.getElem?_cons_zero, Option.some.injEq, Prod.mk.injEq] at hi
      obtain ⟨rfl, rfl⟩ := hi
      simp [Value.ownBlock] at hg
  · match i, j, hi, hj with
    | 0, 0, _, _ => rfl

def MadeSt (w : World) (kind : Int) (ls : List (List Nd)) (k : Nat) (v : Value) (wr : World) : Prop :=
  ∃ u es2, Row wr w.heap.size 25 [.slice none 0 0] ∧ Nodes wr w.heap.size v ((⟨kind, 0, 0, 0, (catSt (ls.take k)).1⟩, u) :: es2) ∧ es2.map Prod.fst = (catSt (ls.take k)).2 ∧ Below w.heap.size w wr
def TestSt (w : World) (ls : List (List Nd)) (k : Nat) (wr : World) : Prop :=
  (∀ l ∈ ls.take k, treeB l = true) ∧ sumLen (ls.take k) ≤ 256 * k ∧ Row wr w.heap.size 25 [.slice none 0 0] ∧ Below w.heap.size w wr
theorem TestSt.step {w wr wr' : World} {ls : List (List Nd)} {k : Nat} (h : TestSt w ls k wr) (hk : k < ls.length) (ht : treeB ls[k] = true) (hb : Below wr.heap.size wr wr') : TestSt w ls (k + 1) wr' := by
  obtain ⟨h1, h2, h3, h4⟩ := h
  refine ⟨fun l hl => ?_, ?_, h3.below hb h3.lt, h4.trans (hb.mono h4.size)⟩
  · rw [List.take_succ_eq_append_getElem hk, List.mem_append] at hl
    rcases hl with hl | hl
    · exact h1 l hl
    · rw [List.mem_singleton.1 hl]; exact ht
  · rw [sumLen_take hk]
    have := ((treeB_iff _).1 ht).max
    omega

set_option maxHeartbeats 8000000 in
set_option maxRecDepth 100000 in
theorem made_any (kind : Int) (hkk : kin .u8 kind) (AL : Option Addr) (cL lo hi : Nat) (ls : List (List Nd)) (w : World) (hm : ls.length ≤ 9223372036854775807) (hhi : hi ≤ w.heap.size) (hsl : Sl 1 vPat w lo hi AL ls) :
    Calls Try.prog 27 #[.int .u8 kind, .slice AL ls.length cL] w fun e w' => ∃ v, e = .returned (.tuple #[v, .int .i64 (madeE ls)]) ∧ PatRes w w' v (madeN kind ls) := by
  have hb0 : Below w.heap.size w (w.alloc (.cells #[.slice none 0 0] 25)) := (Below.refl _ _).alloc (Nat.le_refl _) _
  have hr0 : Row (w.alloc (.cells #[.slice none 0 0] 25)) w.heap.size 25 [.slice none 0 0] := Row.new w _ _
  have hfail : ∀ (e : Int) (wr : World), madeE ls = e → e ≠ 0 → Below w.heap.size w wr → PatRes w (wr.setCell ⟨w.heap.size, 0, none⟩ (.slice none 0 0)) (.agg #[.slice none 0 0]) (madeN kind ls) := by
    intro e wr h1 h2 h3
    rw [madeN_bad (by rw [h1]; exact h2)]
    exact PatRes.nothing (h3.setCell (Nat.le_refl _) _)
  by_cases hbig : 256 < ls.length
  · have hE := Lib.hid (madeE_many hbig)
    go_enter Try.func27, Try.ntmps27
    go_wp2_with fail
    refine bodyPost_ret (res_cell_tmp rfl _ _ w.heap.size _ rfl hr0) rfl ?_
    refine ⟨_, by rw [hE.out]; rfl, ?_⟩
    rw [madeN_bad (by rw [hE.out]; decide)]
    exact PatRes.nothing hb0
  · have hle : ls.length ≤ 256 := by omega
    go_enter Try.func27, Try.ntmps27
    go_wp2_with fail
    go_loopw [6, 18] (fun m i wr => ∃ k : Nat, k ≤ ls.length ∧ i = .int .i64 k ∧ m = .int .i64 (1 + (sumLen (ls.take k) : Int)) ∧ TestSt w ls k wr) (fun _ i _ => ls.length - (intOf i).toNat)
    case atStart =>
      exact ⟨0, by omega, rfl, rfl, by simp, by simp [sumLen], hr0, hb0⟩
    case round =>
      obtain ⟨k, hk, rfl, rfl, hst⟩ := hrel
      by_cases hlt : k < ls.length
      · have hst' := hst
        obtain ⟨_, hs2, hr, hbw⟩ := hst'
        have hbs := hbw.size
        obtain ⟨b, off, B, cc, rfl, _, hb, ⟨c0, f0⟩, hkl, hkc, hks⟩ := pat_at (hsl.below vPat_good hbw hhi) hlt
        have hstep := Lib.hid (fun (ht : treeB ls[k] = true) wr' => hst.step (wr' := wr') hlt ht)
        have hbad := Lib.hid (fun (ht : treeB ls[k] = false) => madeE_tree hle hlt ht)
        have hsum := sumLen_take hlt
        generalize hN : sumLen (ls.take k) = N at *
        generalize hN2 : sumLen (ls.take (k + 1)) = N2 at *
        have hgood : treeB ls[k] = true → ls[k].length ≤ 256 := fun ht => ((treeB_iff _).1 ht).max
        generalize ls[k] = x at *
        have hxm : x.length ≤ 9223372036854775807 := by unfold maxLen at hkc; omega
        have hba : Below wr.heap.size wr (wr.alloc (.cells #[.slice B x.length cc] 25)) := (Below.refl _ _).alloc (Nat.le_refl _) _
        have hbox := Row.new wr 25 [.slice B x.length cc]
        go_wp2_with fail
        refine (tree_any B cc lo hi x _ hxm (by have := hba.size; omega) (hks.below vNd_good hba (by omega))).mono ?_
        rintro e w1 ⟨rfl, hb1⟩
        have hbox1 := hbox.below hb1 hbox.lt
        have hb01 := hba.trans (hb1.mono hba.size)
        have hr1 := hr.below hb01 hr.lt
        obtain ⟨cb, fb⟩ := hbox1.cel (i := 0) rfl
        obtain ⟨cr, fr⟩ := hr1.cel (i := 0) rfl
        clear hbox hbox1 c0 f0
        cases ht : treeB x with
        | false =>
          have hE := Lib.hid (hbad.out ht)
          have hfin := hfail 40 w1 hE.out (by decide) (hbw.trans (hb01.mono hbs))
          go_wp2_with fail
          refine bodyPost_ret (res_cell_tmp rfl _ _ w.heap.size _ rfl (hr1.set_ 0 _)) rfl ?_
          exact ⟨_, by rw [hE.out]; rfl, hfin⟩
        | true =>
          have hS := hstep.out ht w1 hb01
          have hx2 := hgood ht
          clear hgood hbad hstep
          go_wp2_with fail
          exact ⟨⟨k + 1, by omega, by go_num, by rw [hN2]; go_num, hS⟩, by simp [intOf]; omega⟩
      · obtain rfl : k = ls.length := by omega
        obtain ⟨hall, hs2, hr, hbw⟩ := hst
        rw [List.take_length] at hall hs2 ⊢
        obtain ⟨cr, fr⟩ := hr.cel (i := 0) rfl
        have hbs := hbw.size
        by_cases hsum : 256 < 1 + sumLen ls
        · have hE := Lib.hid (madeE_sum hle hall hsum)
          have hfin := hfail 4 wr hE.out (by decide) hbw
          generalize sumLen ls = N at *
          clear hall
          go_wp2_with fail
          refine bodyPost_ret (res_cell_tmp rfl _ _ w.heap.size _ rfl (hr.set_ 0 _)) rfl ?_
          exact ⟨_, by rw [hE.out]; rfl, hfin⟩
        · have hE := Lib.hid (madeE_ok hle hall (by omega))
          have hOK := Lib.hid (madeN_ok (kind := kind) hE.out)
          have hst0 : MadeSt w kind ls 0 (.slice (some ⟨wr.heap.size, 0, none⟩) 1 1) (wr.alloc (.cells #[.int .u8 kind, .int .i32 0, .int .u32 0, .int .u32 0, .slice none 0 0] 42)) := by
            refine ⟨.slice none 0 0, [], hr.alloc _, (Nodes.one wr ⟨kind, 0, 0, 0, []⟩ rfl ⟨hkk, by rfl, by rfl, by rfl, by simp⟩).low hbs, by simp [catSt], hbw.alloc hbs _⟩
          have hlen := catSt_len hall
          have hS : sumLen ls ≤ 255 := by omega
          have hcl : Hid (∀ j, j ≤ ls.length → (catSt (ls.take j)).2.length = sumLen (ls.take j) ∧ (catSt (ls.take j)).1.length = j ∧ sumLen (ls.take j) ≤ 255) := fun j hj => ⟨(hlen j hj).1, (hlen j hj).2, by have := sumLen_le ls j; omega⟩
          have hAll := Lib.hid hall
          clear hlen hall
          generalize sumLen ls = N at *
          go_wp2_with fail
          go_loopw [9, 40] (fun v i wr => ∃ k : Nat, k ≤ ls.length ∧ i = .int .i64 k ∧ MadeSt w kind ls k v wr) (fun _ i _ => ls.length - (intOf i).toNat)
          case atStart => exact ⟨0, by omega, rfl, hst0⟩
          case round =>
            obtain ⟨k, hk, rfl, hst⟩ := hrel
            obtain ⟨u, es2, hr2, hn2, he2, hb2⟩ := hst
            have hbs2 := hb2.size
            clear cr fr
            obtain ⟨cr, fr⟩ := hr2.cel (i := 0) rfl
            by_cases hlt : k < ls.length
            · obtain ⟨i0, hi0, hz0, hz1, hz2⟩ := info_parts int_info
              obtain ⟨b, off, B, cc, rfl, _, hb, ⟨c0, f0⟩, hkl, hkc, hks⟩ := pat_at (hsl.below vPat_good hb2 hhi) hlt
              have htree : IsTree ls[k] := (treeB_iff _).1 (hAll.out _ (List.getElem_mem hlt))
              have hnext := Lib.hid (catSt_take hlt)
              have hck := hcl.out k (by omega)
              have hpos := htree.pos
              have hmax := htree.max
              generalize hkd : (catSt (ls.take k)).1 = kd at *
              generalize hl2 : (catSt (ls.take k)).2 = l2 at *
              generalize ls[k] = x at *
              have hkdl : kd.length = k := hck.2.1
              have hes2 : es2.length = l2.length := by rw [← he2, List.length_map]
              have hrow := hn2.row
              obtain ⟨L, hL⟩ : ∃ L, L = (((⟨kind, 0, 0, 0, kd⟩ : Nd), u) :: es2).length := ⟨_, rfl⟩
              rw [← hL] at hrow
              have hL2 : L = 1 + l2.length := by rw [hL, List.length_cons, hes2]; omega
              have hLm : L ≤ 256 := by omega
              obtain ⟨g, cv, rfl, hc1, hc2, hg1, hg2⟩ := own_pos hrow (by omega)
              have hget : (((⟨kind, 0, 0, 0, kd⟩ : Nd), u) :: es2)[0]? = some ((⟨kind, 0, 0, 0, kd⟩ : Nd), u) := rfl
              have hkid := hn2.kid _ _ _ hget
              obtain ⟨Au, cu, rfl, hcu1, hcu2⟩ := own_form hkid.1
              obtain ⟨cq, fq⟩ := hn2.cel hL hget 4 (by decide)
              simp only [ndCells, Nat.zero_mul, Nat.zero_add, List.getD_cons_succ, List.getD_cons_zero] at cq fq
              have hba : Below wr.heap.size wr ((wr.alloc (.cells #[.slice B x.length cc] 25)).alloc (.cells #[.int .i64 (L : Int)] 3)) := ((Below.refl _ _).alloc (Nat.le_refl _) _).alloc (by simp) _
              have hbox : Row ((wr.alloc (.cells #[.slice B x.length cc] 25)).alloc (.cells #[.int .i64 (L : Int)] 3)) wr.heap.size 25 [.slice B x.length cc] := (Row.new wr _ _).alloc _
              have hnI : Row ((wr.alloc (.cells #[.slice B x.length cc] 25)).alloc (.cells #[.int .i64 (L : Int)] 3)) (wr.heap.size + 1) 3 [.int .i64 (L : Int)] := by
                have h := Row.new (wr.alloc (.cells #[.slice B x.length cc] 25)) 3 [.int .i64 (L : Int)]
                simpa using h
              have hnW := hn2.below hba
              have hrW := hr2.below hba hr2.lt
              have hownW := (hnW.kid _ _ _ hget).1
              have hnews := hnI.news
              have hone : ∀ u ∈ [Value.int .i64 (L : Int)], u.oneCell' = true := by intro u hu; rw [List.mem_singleton.1 hu]; rfl
              have h63 : kd.length + 1 ≤ maxLen := by unfold maxLen; omega
              have hby : (kd.length + 1) * 8 ≤ 140737488355328 := by omega
              have hloW : w.heap.size ≤ ((wr.alloc (.cells #[.slice B x.length cc] 25)).alloc (.cells #[.int .i64 (L : Int)] 3)).heap.size := by have := hba.size; omega
              have hgW : g < ((wr.alloc (.cells #[.slice B x.length cc] 25)).alloc (.cells #[.int .i64 (L : Int)] 3)).heap.size := by have := hba.size; omega
              have hWs : ((wr.alloc (.cells #[.slice B x.length cc] 25)).alloc (.cells #[.int .i64 (L : Int)] 3)).heap.size = wr.heap.size + 2 := by simp
              have HL := Lib.hid hL
              have HL2 := Lib.hid hL2
              have HKD := Lib.hid hkdl
              have HES := Lib.hid hes2
              have HE2 := Lib.hid he2
              have HCK := Lib.hid hck
              have HWS := Lib.hid hWs
              have HK1 := Lib.hid hkd
              have HK2 := Lib.hid hl2
              have hLp : 1 ≤ L := by omega
              have hkdm : kd.length ≤ 256 := by omega
              clear hL hL2 hkdl hes2 he2 hck hWs hget hkd hl2
              go_wp2_with (at_builtin; refine wpList_append_lies _ rfl _ _ 40 rfl w.heap.size 3 i0 (.int .i64 0) 1 8 Try.underlying40 hi0 hz0 hz1 hz2 rfl (by decide) (.slice Au kd.length cu) kd.length (kd.map (Value.int .i64)) rfl hownW ⟨wr.heap.size + 1, 0, none⟩ 1 1 [.int .i64 (L : Int)] rfl rfl hnews hone (by decide) h63 hby hloW _ rfl ?_)
              intro g5 cap5 w5 hown5 hgr5 hat5 hlt5
              generalize hWW : ((wr.alloc (.cells #[.slice B x.length cc] 25)).alloc (.cells #[.int .i64 (L : Int)] 3)) = W at *
              have hb5 : w5.heap[g]? = W.heap[g]? := hgr5.block g hgW (fun e => hnW.far 0 _ _ g rfl e.symm rfl)
              obtain ⟨cqW, fqW⟩ := hnW.cel HL.out (i := 0) rfl 4 (by decide)
              simp only [ndCells, Nat.zero_mul, Nat.zero_add, List.getD_cons_succ, List.getD_cons_zero] at cqW fqW
              have cq5 : w5.cell? ⟨g, 4, none⟩ = some (.slice Au kd.length cu) := (World.cell?_of_block (a := ⟨g, 4, none⟩) hb5).trans cqW
              have fq5 : w5.frozen? ⟨g, 4, none⟩ = false := (World.frozen?_of_block (a := ⟨g, 4, none⟩) hb5).trans fqW
              have hkm := hnW.kid_more (i := 0) (k := (L : Int)) (g := g) rfl rfl hgr5 hown5 (kin_mk64 (by omega)) (by
                rcases hat5 with h | h
                · exact .inl h.symm
                · exact .inr (by show some g5 = _; rw [h, HWS.out]))
              simp only [Nat.zero_mul, Nat.zero_add, List.set_cons_zero] at hkm
              have hbox5 := hbox.grown hgr5 (fun e => row_ne_own hbox hownW (by decide) e.symm)
              have hr5 := hrW.grown hgr5 (fun e => row_ne_own hrW hownW (by decide) e.symm)
              have hbox6 := hbox5.far (p := ⟨g, 4, none⟩) (by show wr.heap.size ≠ g; omega) (.slice (some ⟨g5, 0, none⟩) (kd.length + 1) cap5)
              have hr6 := hr5.far (p := ⟨g, 4, none⟩) (by have := row_ne_own hrW hnW.row (by decide); intro e; exact this (by rw [e]; rfl)) (.slice (some ⟨g5, 0, none⟩) (kd.length + 1) cap5)
              have hbw6 : Below w.heap.size wr (w5.setCell ⟨g, 4, none⟩ (.slice (some ⟨g5, 0, none⟩) (kd.length + 1) cap5)) := ((hba.mono hbs2).grown hgr5 hloW (fun j hj => (hownW.lt j hj).1)).setCell hg1 _
              obtain ⟨cb6, fb6⟩ := hbox6.cel (i := 0) rfl
              have hs6 := hbw6.size
              have hcall := walked_any false (c := cc) (es := (({ kind := kind, rune := 0, plus := 0, minus := 0, kids := kd ++ [(L : Int)] } : Nd), .slice (some ⟨g5, 0, none⟩) (kd.length + 1) cap5) :: es2) (v := .slice (some ⟨g, 0, none⟩) L cv) htree (by rw [List.length_cons, HES.out]; have := HL2.out; omega) (show w.heap.size ≤ _ by omega) ((hks.below vNd_good hbw6 hhi).wide vNd_good (Nat.le_refl _) hhi) hkm
              clear hgr5 hown5 hnW hrW hownW hnews hbox hnI hba hbox5 hbox6 hr5 cqW fqW cq fq
              have hdone : ∀ v7 es7 w7, Nodes w7 w.heap.size v7 ((({ kind := kind, rune := 0, plus := 0, minus := 0, kids := kd ++ [(L : Int)] } : Nd), .slice (some ⟨g5, 0, none⟩) (kd.length + 1) cap5) :: es2 ++ es7) → es7.map Prod.fst = sub x false x.length ((({ kind := kind, rune := 0, plus := 0, minus := 0, kids := kd ++ [(L : Int)] } : Nd), Value.slice (some ⟨g5, 0, none⟩) (kd.length + 1) cap5) :: es2).length 0 → Fr (fun k => (Value.slice (some ⟨g, 0, none⟩) L cv).ownBlock = some k) (w5.setCell ⟨g, 4, none⟩ (.slice (some ⟨g5, 0, none⟩) (kd.length + 1) cap5)) w7 → MadeSt w kind ls (k + 1) v7 w7 := by
                intro v7 es7 w7 hn7 he7 hF7
                have hLL : ((({ kind := kind, rune := 0, plus := 0, minus := 0, kids := kd ++ [(L : Int)] } : Nd), Value.slice (some ⟨g5, 0, none⟩) (kd.length + 1) cap5) :: es2).length = 1 + l2.length := by rw [List.length_cons, HES.out]; omega
                rw [hLL] at he7
                refine ⟨.slice (some ⟨g5, 0, none⟩) (kd.length + 1) cap5, es2 ++ es7, (hF7.block _ hr6.lt (fun e => row_ne_own hr6 hkm.row (by decide) e)).trans hr6, ?_, ?_, (hb2.trans hbw6).trans (hF7.below (fun j hj => ?_) (by omega))⟩
                · rw [hnext.out, ← HL2.out]
                  exact hn7
                · rw [hnext.out, List.map_append, HE2.out, he7]
                · simp only [Value.ownBlock, Option.some.injEq] at hj
                  omega
              clear hkm hnext
              go_wp2_with fail
              refine hcall.mono ?_
              rintro e w7 ⟨v7, es7, rfl, hn7, he7, hF7⟩
              have hfin := hdone v7 es7 w7 hn7 he7 hF7
              clear hdone hcall hn7 he7 hF7
              go_wp2_with fail
              exact ⟨⟨k + 1, by omega, by go_num, hfin⟩, by simp [intOf]; omega⟩
            · obtain rfl : k = ls.length := by omega
              obtain ⟨A', c', rfl, _, _⟩ := own_form hn2.row
              have hfin : PatRes w (wr.setCell ⟨w.heap.size, 0, none⟩ (.slice A' (((⟨kind, 0, 0, 0, (catSt (ls.take ls.length)).1⟩ : Nd), u) :: es2).length c')) (.agg #[.slice A' (((⟨kind, 0, 0, 0, (catSt (ls.take ls.length)).1⟩ : Nd), u) :: es2).length c']) (madeN kind ls) := by
                refine ⟨_, _, rfl, hn2.same fun g hg => Below.heap_setCell _ _ _ g (fun e => ?_), ?_, hb2.setCell (Nat.le_refl _) _⟩
                · simp only at e
                  subst e
                  rcases hg with hg | ⟨i, y, t, hi, hg⟩
                  · exact row_ne_own hr2 hn2.row (by decide) hg
                  · exact row_ne_own hr2 (hn2.kid i y t hi).1 (by decide) hg
                · rw [hOK.out, List.map_cons, he2, List.take_length]
              generalize (((⟨kind, 0, 0, 0, (catSt (ls.take ls.length)).1⟩ : Nd), u) :: es2).length = L at *
              go_wp2_with fail
              refine bodyPost_ret (res_cell_tmp rfl _ _ w.heap.size _ rfl (hr2.set_ 0 _)) rfl ?_
              exact ⟨_, by rw [hE.out]; rfl, hfin⟩
end Go.Proofs.Ytlanjpickjndlaa
