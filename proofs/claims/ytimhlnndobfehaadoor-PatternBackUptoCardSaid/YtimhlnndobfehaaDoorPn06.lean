/- pattern.walked over nodes that are numbered in any way that has a depth. Patterns of one node, walked. -/
import Derived.Test.YtimhlnndobfehaaDoorPn05
import Derived.Test.YtimhlnndobfehaaDoorMc35
import Derived.Test.YtimhlnndobfehaaDoorMc26
import Derived.Test.YtimhlnndobfehaaDoorChecked
import Derived.Laws.ResultCell
namespace Go.Proofs.YtimhlnndobfehaaDoor
open Go.RowKit
set_option linter.unusedVariables false

set_option maxHeartbeats 8000000 in
set_option maxRecDepth 100000 in
theorem walkG_any (ns : List Nd) (tn : Bool) (A : Option Addr) (c flo lo bf bt bo bw : Nat) (dep : Nat → Nat) (hin : ∀ (i : Nat), i < ns.length → ∀ k ∈ (ns.getD i nd0).kids, 0 ≤ k ∧ k < ns.length ∧ dep k.toNat < dep i) (hm : ns.length ≤ 300) (hkb : ∀ x ∈ ns, x.kids.length * 8 ≤ 140737488355328) : ∀ (f at_ : Nat) (es : List (Nd × Value)) (v : Value) (w : World),
    at_ < ns.length → dep at_ < f → es.length + szN ns f at_ ≤ 100000 →
    Sl 5 vNd w flo lo A ns → lo ≤ bf → lo ≤ bt → lo ≤ bo → lo ≤ bw → bf ≠ bo →
    Row w bf 26 [.slice A ns.length c] → Row w bt 4 [.bool tn] → Row w bo 26 [v] →
    Row w bw 73 [.func (.func 70) #[] #[.pointer (some ⟨bf, 0, none⟩), .pointer (some ⟨bt, 0, none⟩), .pointer (some ⟨bo, 0, none⟩), .pointer (some ⟨bw, 0, none⟩)]] →
    Nodes w lo v es →
    Calls Tryd.prog 70 #[.int .i64 (at_ : Int), .pointer (some ⟨bf, 0, none⟩), .pointer (some ⟨bt, 0, none⟩), .pointer (some ⟨bo, 0, none⟩), .pointer (some ⟨bw, 0, none⟩)] w fun e w' =>
      e = .returned (.tuple #[]) ∧ ∃ v' es', Row w' bo 26 [v'] ∧ Nodes w' lo v' (es ++ es') ∧ es'.map Prod.fst = sub ns tn f es.length at_ ∧ Fr (fun k => k = bo ∨ v.ownBlock = some k) w w' ∧
        (v'.ownBlock = v.ownBlock ∨ ∀ g, v'.ownBlock = some g → w.heap.size ≤ g) := by
  intro f
  induction f with
  | zero => intro at_ es v w h1 h2; omega
  | succ f ih =>
    intro at_ es v w hat hf hsz hsl hlf hlt hlo hlw hne hrf hrt hro hrw hnd
    obtain ⟨i0, hi0, hz0, hz1, hz2⟩ := info_parts int_info
    obtain ⟨i1, hi1, hy0, hy1, hy2⟩ := info_parts (show (Tryd.prog.info? 44).map (fun i => (i.zero, i.size, i.bytes)) = some (some (.agg #[.int .u8 0, .int .i32 0, .int .u32 0, .int .u32 0, .slice none 0 0]), 5, 40) by kernel_rfl)
    have hesz : es.length ≤ 100000 := by omega
    obtain ⟨cf, ff⟩ := hrf.cel (i := 0) rfl
    obtain ⟨ct, ft⟩ := hrt.cel (i := 0) rfl
    obtain ⟨co, fo⟩ := hro.cel (i := 0) rfl
    have hbf := hrf.lt
    have hbt := hrt.lt
    have hbo := hro.lt
    have hbw := hrw.lt
    obtain ⟨b, off, B, cc, rfl, _, hb, ⟨c0, f0⟩, ⟨c1, f1⟩, ⟨c2, f2⟩, ⟨c3, f3⟩, ⟨c4, f4⟩, hkl, hkc, hks, k0, k1, k2, k3⟩ := nd_at hsl hat
    have hkb := hkb _ (List.getElem_mem hat)
    generalize hx : ns[at_] = x at *
    have HX := Lib.hid hx
    clear hx
    go_enter Tryd.func70, Tryd.ntmps70
    go_wp2_with fail
    have hal : Below w.heap.size w (w.alloc (.cells #[.int .u8 x.kind, .int .i32 x.rune, .int .u32 x.plus, .int .u32 x.minus, .slice B x.kids.length cc] 44)) := (Below.refl _ _).alloc (Nat.le_refl _) _
    have hkn : x.kids.length * 8 ≤ 140737488355328 := hkb
    refine (clone_int (hks.below (vInt_good _) hal (by omega)) hkn).mono ?_
    rintro e w1 ⟨v1, rfl, hown1, hb1⟩
    have hown1 := size_up hown1
    have hn1 : Row w1 w.heap.size 44 [.int .u8 x.kind, .int .i32 x.rune, .int .u32 x.plus, .int .u32 x.minus, .slice B x.kids.length cc] := (Row.new w _ _).below hb1 (by simp)
    have hw1 : Below w.heap.size w w1 := hal.trans (hb1.mono (by simp))
    obtain ⟨ct1, ft1⟩ := (hrt.below hw1 hbt).cel (i := 0) rfl
    obtain ⟨cn0, fn0⟩ := hn1.cel (i := 0) rfl
    go_upto_region 2 with (fail)
    go_cut [23] (fun vb wc => vb = .bool (tn && (x.kind == 6)) ∧ wc = w1)
    case first =>
      cases tn
      all_goals
        go_wp2_with fail
        go_meet
        case rel => exact ⟨rfl, rfl⟩
    case rest =>
    obtain ⟨rfl, rfl⟩ := hcut
    have hT : Hid (kidsT tn x = if (tn && (x.kind == 6)) = true then x.kids.reverse else x.kids) := by
      show _ = _
      unfold kidsT
      simp
    generalize htb : (tn && (x.kind == 6)) = tb at *
    clear htb
    go_upto_if 23 with (fail)
    go_cut [] (fun wc => KidsSt w [.int .u8 x.kind, .int .i32 x.rune, .int .u32 x.plus, .int .u32 x.minus, .slice B x.kids.length cc] v1 (kidsT tn x) wc)
    case first =>
      cases tb with
      | true =>
        have hK : Hid (kidsT tn x = x.kids.reverse) := hT.out
        clear hT
        go_wp2_with fail
        refine (reverse_int (xs := x.kids) (by simpa using hown1) (by omega)).mono ?_
        rintro e w2 ⟨rfl, hown2, hfr2⟩
        go_wp2_with fail
        go_meet
        case rel =>
          refine ⟨by rw [hK.out, List.length_reverse]; simpa using hown2, ?_, ?_⟩
          · exact (hfr2.block _ hn1.lt (fun e => by have := (hown1.lt _ e).1; omega)).trans hn1
          · exact hw1.trans (hfr2.below (fun k e => by have := (hown1.lt _ e).1; omega) (by have := hw1.size; omega))
      | false =>
        have hK : Hid (kidsT tn x = x.kids) := hT.out
        clear hT
        go_wp2_with fail
        go_meet
        case rel => exact ⟨by rw [hK.out]; simpa using hown1, hn1, hw1⟩
    case rest =>
    obtain ⟨hk, hnn, hw⟩ := hcut
    clear hT ct1 ft1 cn0 fn0 hown1 hn1 hw1 hal hb1
    have hkn2 : (kidsT tn x).length = x.kids.length := kidsT_length tn x
    have HKN := Lib.hid hkn2
    clear hkn2
    obtain ⟨ka, ks⟩ : ∃ kk, kk = kidsT tn x := ⟨_, rfl⟩
    rw [← ks] at hk HKN
    have HKS := Lib.hid ks
    clear ks
    have hkal : ka.length ≤ 17592186044416 := by rw [HKN.out]; omega
    obtain ⟨A1, cc1, rfl, hc1, hc2⟩ := own_form hk
    have hhw := hw.size
    have hro1 := hro.below hw hbo
    obtain ⟨co1, fo1⟩ := hro1.cel (i := 0) rfl
    have hnd1 := hnd.below hw
    obtain ⟨Av, cv, rfl, hcv1, hcv2⟩ := own_form hnd1.row
    have hm1 : i0.bytes * ka.length ≤ 281474976710656 := by rw [hz2]; omega
    have hm2 : ka.length ≤ maxLen := by unfold maxLen; omega
    have hm3 : lo ≤ wc.heap.size := by omega
    go_wp2_with (refine wpList_make_own _ rfl _ _ 42 rfl lo 3 i0 (.int .i64 0) 1 Tryd.underlying42 hi0 hz0 hz1 .i64 .i64 (ka.length : Int) ka.length rfl rfl rfl hm1 hm2 hm3 ?_)
    intro w2 hown2 hgr2
    have hnn2 := hnn.grown hgr2 (by simp)
    have hro2 := hro1.grown hgr2 (by simp)
    have hb2 : Below wc.heap.size wc w2 := (Below.refl _ _).grown hgr2 (Nat.le_refl _) (by simp)
    have hk2 := own_below hk hb2
    have hnd2 := hnd1.below hb2
    have hw2 := hw.trans (hb2.mono hhw)
    have hhw2 := hw2.size
    obtain ⟨cn0, fn0⟩ := hnn2.cel (i := 0) rfl
    obtain ⟨cn1, fn1⟩ := hnn2.cel (i := 1) rfl
    obtain ⟨cn2, fn2⟩ := hnn2.cel (i := 2) rfl
    obtain ⟨cn3, fn3⟩ := hnn2.cel (i := 3) rfl
    obtain ⟨cn4, fn4⟩ := hnn2.cel (i := 4) rfl
    obtain ⟨co2, fo2⟩ := hro2.cel (i := 0) rfl
    have hrA : Row ((w2.setCell ⟨w.heap.size, 4, none⟩ (.slice (some ⟨wc.heap.size, 0, none⟩) 0 ka.length)).alloc (.cells #[.int .u8 x.kind, .int .i32 x.rune, .int .u32 x.plus, .int .u32 x.minus, .slice (some ⟨wc.heap.size, 0, none⟩) 0 ka.length] 44)) w2.heap.size 44 (ndCells { x with kids := [] } (.slice (some ⟨wc.heap.size, 0, none⟩) 0 ka.length)) := by
      have h := Row.new (w2.setCell ⟨w.heap.size, 4, none⟩ (.slice (some ⟨wc.heap.size, 0, none⟩) 0 ka.length)) 44 (ndCells { x with kids := [] } (.slice (some ⟨wc.heap.size, 0, none⟩) 0 ka.length))
      simp only [ndCells] at h ⊢
      simpa using h
    have hfA : Fr (fun k => k = w.heap.size) w2 ((w2.setCell ⟨w.heap.size, 4, none⟩ (.slice (some ⟨wc.heap.size, 0, none⟩) 0 ka.length)).alloc (.cells #[.int .u8 x.kind, .int .i32 x.rune, .int .u32 x.plus, .int .u32 x.minus, .slice (some ⟨wc.heap.size, 0, none⟩) 0 ka.length] 44)) :=
      ((Fr.refl (fun k => k = w.heap.size) w2).setc ⟨w.heap.size, 4, none⟩ _ (fun _ => rfl)).alloc _
    obtain ⟨wA, hwA⟩ : ∃ wA, wA = ((w2.setCell ⟨w.heap.size, 4, none⟩ (.slice (some ⟨wc.heap.size, 0, none⟩) 0 ka.length)).alloc (.cells #[.int .u8 x.kind, .int .i32 x.rune, .int .u32 x.plus, .int .u32 x.minus, .slice (some ⟨wc.heap.size, 0, none⟩) 0 ka.length] 44)) := ⟨_, rfl⟩
    rw [← hwA] at hrA hfA
    have hold : ∀ k, k < w2.heap.size → k ≠ w.heap.size → wA.heap[k]? = w2.heap[k]? := fun k h1 h2 => hfA.block k h1 h2
    have hndA : Nodes wA lo (.slice Av es.length cv) es := hnd2.same fun g hg => hold g (hnd2.lt hg).2 (fun e => by
      subst e
      have := (hnd.lt hg).2
      omega)
    have hkA : wA.ownsRow (w.heap.size + 1) 3 1 (.slice A1 ka.length cc1) ka.length (ka.map (Value.int .i64)) := own_same hk2 fun g hg => hold g (hk2.lt g hg).2 (by have := (hk2.lt g hg).1; omega)
    have huA : wA.ownsRow lo 3 1 (.slice (some ⟨wc.heap.size, 0, none⟩) 0 ka.length) 0 [] := own_same hown2 fun g hg => by
      simp only [Value.ownBlock, Option.some.injEq] at hg
      subst hg
      exact hold _ (hown2.lt _ rfl).2 (by have := hnn.lt; omega)
    have hroA : Row wA bo 26 [.slice Av es.length cv] := (hold bo (by omega) (by omega)).trans hro2
    have h63 : es.length + 1 ≤ maxLen := by unfold maxLen; omega
    have hbyA : (es.length + 1) * 40 ≤ 140737488355328 := by omega
    have hloA : lo ≤ wA.heap.size := by have := hfA.size; omega
    have honeA : ∀ u ∈ ndCells { x with kids := [] } (.slice (some ⟨wc.heap.size, 0, none⟩) 0 ka.length), u.oneCell' = true := by
      intro u hu
      simp only [ndCells, List.mem_cons, List.not_mem_nil, or_false] at hu
      rcases hu with rfl | rfl | rfl | rfl | rfl <;> rfl
    have hownA := hndA.row
    have hnewsA := hrA.news
    have hAw : Below w.heap.size w wA := hw2.trans (hfA.below (fun k e => by rw [e]; exact Nat.le_refl _) (by omega))
    rw [hwA] at hownA hnewsA hloA
    have HWA := Lib.hid hwA
    clear hwA
    go_wp2_with (at_builtin; refine wpList_append_lies _ rfl _ _ 26 rfl lo 44 i1 (.agg #[.int .u8 0, .int .i32 0, .int .u32 0, .int .u32 0, .slice none 0 0]) 5 40 Tryd.underlying26 hi1 hy0 hy1 hy2 rfl (by decide) (.slice Av es.length cv) es.length (flat es) rfl hownA ⟨w2.heap.size, 0, none⟩ 1 1 (ndCells { x with kids := [] } (.slice (some ⟨wc.heap.size, 0, none⟩) 0 ka.length)) rfl rfl hnewsA honeA (by decide) h63 hbyA hloA _ rfl ?_)
    rw [← HWA.out]
    intro g1 cap1 w3 hown3 hgr3 hat3 hlt3
    have hro3 : Row w3 bo 26 [.slice Av es.length cv] := hroA.grown hgr3 (fun e => row_ne_own hroA hndA.row (by decide) e.symm)
    have hnd3 : Nodes w3 lo (.slice (some ⟨g1, 0, none⟩) (es.length + 1) cap1) (es ++ [({ x with kids := [] }, .slice (some ⟨wc.heap.size, 0, none⟩) 0 ka.length)]) := by
      refine hndA.push huA ⟨k0, k1, k2, k3, by simp⟩ (fun g hg => ?_) hown3 hgr3 ?_
      · simp only [Value.ownBlock, Option.some.injEq] at hg
        subst hg
        exact ⟨fun e => by have := (hnd1.lt (.inl e)).2; omega, fun i y t hi e => by have := (hnd1.lt (.inr ⟨i, y, t, hi, e⟩)).2; omega⟩
      · rcases hat3 with h | h
        · exact .inl h.symm
        · have hs : wA.heap.size = w2.heap.size + 1 := by rw [HWA.out]; simp
          exact .inr (by show some g1 = _; first | rw [h, hs] | rw [h])
    have hk3 : w3.ownsRow (w.heap.size + 1) 3 1 (.slice A1 ka.length cc1) ka.length (ka.map (Value.int .i64)) := own_same hkA fun g hg => hgr3.block g (hkA.lt g hg).2 (fun e => own_ne_own hkA hndA.row (by decide) g hg e.symm)
    have hF3 : Fr (fun k => k = bo ∨ (Value.slice Av es.length cv).ownBlock = some k) w w3 := (Fr.of_below hAw).trans (Fr.of_grown (S := fun k => (Value.slice Av es.length cv).ownBlock = some k) hgr3 (fun k h => h)) (fun k _ h => .inr h)
    have hst0 : WalkSt x ka w lo bo (.slice Av es.length cv) es A1 cc1 [] [] (w3.setCell ⟨bo, 0, none⟩ (.slice (some ⟨g1, 0, none⟩) (es.length + 1) cap1)) := by
      have hout : ∀ k, k ≠ bo → (w3.setCell ⟨bo, 0, none⟩ (.slice (some ⟨g1, 0, none⟩) (es.length + 1) cap1)).heap[k]? = w3.heap[k]? := fun k hk => Below.heap_setCell _ _ _ k hk
      refine ⟨_, [], _, hro3.set_ 0 _, hnd3.same fun g hg => hout g (fun e => ?_), rfl, own_same hk3 fun g hg => hout g (fun e => ?_), hF3.setc _ _ (fun _ => .inl rfl), ?_, fun g hg => ?_⟩
      · subst e
        rcases hg with hg | ⟨i, y, t, hi, hg⟩
        · exact row_ne_own hro3 hnd3.row (by decide) hg
        · exact row_ne_own hro3 (hnd3.kid i y t hi).1 (by decide) hg
      · subst e
        exact row_ne_own hro3 hk3 (by decide) hg
      · rcases hat3 with h | h
        · exact .inl h.symm
        · right
          intro g hg
          simp only [Value.ownBlock, Option.some.injEq] at hg
          have := hAw.size
          omega
      · simp only [Value.ownBlock, Option.some.injEq] at hg
        subst hg
        exact ⟨by omega, fun e => by have := (hk.lt _ e).2; omega⟩
    have hs3 : w.heap.size ≤ w3.heap.size := hF3.size
    obtain ⟨co3, fo3⟩ := hro3.cel (i := 0) rfl
    clear hrA hfA hold hndA hkA huA hroA hownA hnewsA hloA hgr3 hat3 hnd3 hk3 hF3 hk2 hnd2 hro2 hnn2 hown2 hgr2 hb2 cn0 cn1 cn2 cn3 cn4 fn0 fn1 fn2 fn3 fn4 co2 fo2 hk hnn hw hro1 co1 fo1 hnd1
    go_wp2_with fail
    go_loopw [38] (fun i wr => ∃ j : Nat, j ≤ ka.length ∧ i = .int .i64 j ∧ WalkSt x ka w lo bo (.slice Av es.length cv) es A1 cc1 (subs (sub ns tn f) (es.length + 1) (ka.take j)).2 (subs (sub ns tn f) (es.length + 1) (ka.take j)).1 wr) (fun i _ => ka.length - (intOf i).toNat)
    case atStart => exact ⟨0, by omega, rfl, hst0⟩
    case round =>
      obtain ⟨j, hj, rfl, hst⟩ := hrel
      by_cases hlt : j < ka.length
      · have hst' := hst
        obtain ⟨v, es2, u, hro4, hnd4, hes2, hk4, hF4, hat4, hub4⟩ := hst'
        obtain ⟨kd, hkd⟩ : ∃ kd, kd = (subs (sub ns tn f) (es.length + 1) (ka.take j)).2 := ⟨_, rfl⟩
        obtain ⟨l2, hl2⟩ : ∃ l2, l2 = (subs (sub ns tn f) (es.length + 1) (ka.take j)).1 := ⟨_, rfl⟩
        rw [← hkd] at hnd4 hst
        rw [← hl2] at hes2 hst
        have hkdl : kd.length = j := by rw [hkd, subs_num, List.length_take, Nat.min_eq_left hj]
        have HKD := Lib.hid hkd
        have HL2 := Lib.hid hl2
        have HKDL := Lib.hid hkdl
        clear hkd hl2 hkdl
        obtain ⟨L, hL⟩ : ∃ L, L = (es ++ (({ x with kids := kd } : Nd), u) :: es2).length := ⟨_, rfl⟩
        have hLe : es.length < L := by rw [hL]; simp
        have hrow4 := hnd4.row
        rw [← hL] at hrow4
        obtain ⟨g4, c4', rfl, hc41, hc42, hg41, hg42⟩ := own_pos hrow4 (by omega)
        have hget : (es ++ (({ x with kids := kd } : Nd), u) :: es2)[es.length]? = some (({ x with kids := kd } : Nd), u) := by simp
        have hkid := hnd4.kid _ _ _ hget
        obtain ⟨Au, cu, rfl, hcu1, hcu2⟩ := own_form hkid.1
        obtain ⟨cq, fq⟩ := hnd4.cel hL hget 4 (by decide)
        simp only [ndCells] at cq
        have hL2 : L = es.length + 1 + l2.length := by rw [hL, ← hes2]; simp; omega
        have HL := Lib.hid hL
        have HLL := Lib.hid hL2
        have HES := Lib.hid hes2
        clear hL hL2 hes2
        obtain ⟨gk, ck, hke, hck1, hck2, hgk1, hgk2⟩ := own_pos hk4 (by omega)
        injection hke with hke1 hke2 hke3
        subst hke1 hke3
        obtain ⟨ckk, fkk⟩ := own_cel hk4 (j := j) (u := .int .i64 ka[j]) (by rw [List.getElem?_map, List.getElem?_eq_getElem hlt]; rfl)
        have hkin : 0 ≤ ka[j] ∧ ka[j] < ns.length ∧ dep ka[j].toNat < dep at_ := by
          have hmem : ka[j] ∈ x.kids := by
            rw [← kidsT_mem tn x, ← HKS.out]
            exact List.getElem_mem hlt
          have hxx : ns.getD at_ nd0 = x := by rw [List.getD_eq_getElem?_getD, List.getElem?_eq_getElem hat, HX.out]; rfl
          exact hin at_ hat (ka[j]) (by rw [hxx]; exact hmem)
        obtain ⟨q, hq⟩ : ∃ q : Nat, ka[j] = (q : Int) := ⟨(ka[j]).toNat, by omega⟩
        rw [hq] at ckk hkin
        have HQ := Lib.hid hq
        clear hq
        have hqr : dep q < dep at_ ∧ q < ns.length := by
          obtain ⟨_, h2, h3⟩ := hkin
          rw [Int.toNat_natCast] at h3
          exact ⟨h3, by omega⟩
        clear hkin
        have hLb : L + szN ns f q ≤ 100000 := by
          have h1 : l2.length = ((ka.take j).map fun k => szN ns f k.toNat).sum := by rw [HL2.out]; exact subs_length (sub_length ns tn f) _ _
          have h2 := sum_take_le (fun k => szN ns f k.toNat) ka j hlt
          have h3 : (ka.map fun k => szN ns f k.toNat).sum = (x.kids.map fun k => szN ns f k.toNat).sum := by rw [HKS.out]; exact kidsT_sum tn x _
          have hxx : ns.getD at_ nd0 = x := by rw [List.getD_eq_getElem?_getD, List.getElem?_eq_getElem hat, HX.out]; rfl
          simp only [szN, hxx] at hsz
          rw [HQ.out] at h2
          simp only [Int.toNat_natCast] at h2
          have := HLL.out
          omega
        obtain ⟨co4, fo4⟩ := hro4.cel (i := 0) rfl
        have hgb : wr.heap.size ≥ w.heap.size := hF4.size
        have hku : (wr.drew.alloc (.cells #[.int .i64 (L : Int)] 3)).ownsRow lo 3 1 (.slice Au kd.length cu) kd.length (kd.map (Value.int .i64)) := own_below (w := wr.drew) hkid.1 ((Below.refl _ _).alloc (Nat.le_refl _) _)
        have hcu8 : (kd.length + 1) * 8 ≤ 140737488355328 := by rw [HKDL.out]; omega
        have hcu9 : kd.length + 1 ≤ maxLen := by rw [HKDL.out]; unfold maxLen; omega
        have hlo8 : lo ≤ (wr.drew.alloc (.cells #[.int .i64 (L : Int)] 3)).heap.size := by simp; omega
        have hnw : ∀ j u, [Value.int .i64 (L : Int)][j]? = some u → (wr.drew.alloc (.cells #[.int .i64 (L : Int)] 3)).cell? ((⟨wr.heap.size, 0, none⟩ : Addr).add j) = some u := (Row.new wr.drew 3 [Value.int .i64 (L : Int)]).news
        have hon : ∀ u ∈ [Value.int .i64 (L : Int)], u.oneCell' = true := by intro u hu; rw [List.mem_singleton.1 hu]; rfl
        have hbo4 := hro4.lt
        have hfk : ∀ (w5 : World), World.grownBy (wr.alloc (.cells #[.int .i64 (L : Int)] 3)).drew w5 (Value.slice Au kd.length cu).ownBlock → (w5.cell? ⟨g4, es.length * 5 + 4, none⟩ = some (.slice Au kd.length cu) ∧ w5.frozen? ⟨g4, es.length * 5 + 4, none⟩ = false) ∧ w5.cell? ⟨bo, 0, none⟩ = some (.slice (some ⟨g4, 0, none⟩) L c4') := by
          intro w5 h5
          have hb5 : w5.heap[g4]? = wr.heap[g4]? := (h5.block g4 (by show g4 < (wr.alloc _).heap.size; simp; omega) (fun e => hnd4.far _ _ _ g4 hget e.symm rfl)).trans (Below.heap_alloc wr _ _ hg42)
          have hb6 : w5.heap[bo]? = wr.heap[bo]? := (h5.block bo (by show bo < (wr.alloc _).heap.size; simp; omega) (fun e => row_ne_own hro4 hkid.1 (by decide) e.symm)).trans (Below.heap_alloc wr _ _ hbo4)
          exact ⟨⟨(World.cell?_of_block (a := ⟨g4, _, none⟩) hb5).trans cq, (World.frozen?_of_block (a := ⟨g4, _, none⟩) hb5).trans fq⟩, (World.cell?_of_block (a := ⟨bo, _, none⟩) hb6).trans co4⟩
        have hdone : ∀ (g5 cap5 : Nat) (w5 : World), w5.ownsRow lo 3 1 (.slice (some ⟨g5, 0, none⟩) (kd.length + 1) cap5) (kd.length + 1) (kd.map (Value.int .i64) ++ [.int .i64 (L : Int)]) → World.grownBy (wr.alloc (.cells #[.int .i64 (L : Int)] 3)).drew w5 (Value.slice Au kd.length cu).ownBlock → ((Value.slice Au kd.length cu).ownBlock = some g5 ∨ g5 = wr.heap.size + 1) →
            WalkSt x ka w lo bo (.slice Av es.length cv) es (some ⟨gk, 0, none⟩) cc1 (kd ++ [(L : Int)]) l2 (w5.setCell ⟨g4, es.length * 5 + 4, none⟩ (.slice (some ⟨g5, 0, none⟩) (kd.length + 1) cap5)) := by
          intro g5 cap5 w5 ho5 hg5 ha5
          have hout : ∀ k, k ≠ g4 → (w5.setCell ⟨g4, es.length * 5 + 4, none⟩ (.slice (some ⟨g5, 0, none⟩) (kd.length + 1) cap5)).heap[k]? = w5.heap[k]? := fun k hk => Below.heap_setCell _ _ _ k hk
          have hin5 : ∀ k, k < wr.heap.size → (Value.slice Au kd.length cu).ownBlock ≠ some k → w5.heap[k]? = wr.heap[k]? := fun k h1 h2 => (hg5.block k (by show k < (wr.alloc _).heap.size; simp; omega) (fun e => h2 e.symm)).trans (Below.heap_alloc wr _ _ h1)
          have hsz5 := hg5.size
          have hsz6 : wr.heap.size + 1 ≤ w5.heap.size := by
            have : (wr.alloc (.cells #[.int .i64 (L : Int)] 3)).drew.heap.size = wr.heap.size + 1 := by show (wr.alloc _).heap.size = _; simp
            omega
          have hndd : Nodes (wr.alloc (.cells #[.int .i64 (L : Int)] 3)).drew lo (.slice (some ⟨g4, 0, none⟩) L c4') (es ++ (({ x with kids := kd } : Nd), .slice Au kd.length cu) :: es2) := hnd4.same fun g hg => Below.heap_alloc wr _ g (hnd4.lt hg).2
          have hkm := hndd.kid_more (k := (L : Int)) (g := g4) hget rfl hg5 ho5 (kin_mk64 (by omega)) (by
            rcases ha5 with h | h
            · exact .inl h.symm
            · refine .inr ?_
              show some g5 = some (wr.alloc _).heap.size
              rw [h]; simp)
          rw [List.set_append_right _ _ (Nat.le_refl _), Nat.sub_self, List.set_cons_zero] at hkm
          refine ⟨_, es2, _, ?_, hkm, HES.out, ?_, ?_, hat4, ?_⟩
          · have hbg : bo ≠ g4 := fun e => by subst e; exact row_ne_own hro4 hrow4 (by decide) rfl
            exact (hout bo hbg).trans ((hin5 bo hbo4 (row_ne_own hro4 hkid.1 (by decide))).trans hro4)
          · refine own_same hk4 fun g hg => ?_
            have h1 : g ≠ g4 := fun e => by subst e; exact own_ne_own hk4 hrow4 (by decide) _ hg rfl
            refine (hout g h1).trans (hin5 g (hk4.lt g hg).2 fun e => ?_)
            exact (hub4 g e).2 hg
          · refine (hF4.trans (T := fun k => (Value.slice Au kd.length cu).ownBlock = some k) ⟨hg5.os, hg5.tape, hg5.output, by omega, fun k h1 h2 => hin5 k h1 h2⟩ (fun k h1 h2 => ?_)).setc _ _ (fun h => ?_)
            · have := (hub4 k h2).1
              omega
            · rcases hat4 with h1 | h1
              · exact .inr h1.symm
              · have := h1 g4 rfl
                simp only at h
                omega
          · intro g hg
            simp only [Value.ownBlock, Option.some.injEq] at hg
            subst hg
            rcases ha5 with h | h
            · exact hub4 _ h
            · exact ⟨by omega, fun e => by have := (hk4.lt _ e).2; omega⟩
        have hSD : Hid ((wr.alloc (.cells #[.int .i64 (L : Int)] 3)).drew.heap.size = wr.heap.size + 1) := by show (wr.alloc _).heap.size = _; simp
        go_upto_region 10 with (fail)
        go_cut [10, 38] (fun vk vj wc => vk = .int .i64 (q : Int) ∧ vj = .int .i64 (j : Int) ∧ WalkSt x ka w lo bo (.slice Av es.length cv) es (some ⟨gk, 0, none⟩) cc1 (kd ++ [(L : Int)]) l2 wc)
        case first =>
          go_region_law (refine step_append_lies _ rfl _ _ 42 rfl lo 3 i0 (.int .i64 0) 1 8 Tryd.underlying42 hi0 hz0 hz1 hz2 rfl (by decide) (.slice Au kd.length cu) kd.length (kd.map (Value.int .i64)) rfl hku ⟨wr.heap.size, 0, none⟩ 1 1 [.int .i64 (L : Int)] rfl rfl hnw hon (by decide) hcu9 hcu8 hlo8 _ rfl ?_; intro g5 cap5 w5 hown5 hgr5 hat5 hlt5; obtain ⟨⟨cq5, fq5⟩, co5⟩ := hfk w5 hgr5)
          all_goals (go_wp2_with fail; go_meet; case rel => exact ⟨rfl, rfl, hdone _ _ _ hown5 hgr5 (by first | exact hat5 | exact hat5.imp id (fun h => h.trans hSD.out))⟩)
        case rest =>
          obtain ⟨rfl, rfl, v7, es7, u7, hro7, hnd7, hes7, hk7, hF7, hat7, hub7⟩ := hcut
          obtain ⟨wq, hwq⟩ : ∃ wq : World, wq = wc := ⟨_, rfl⟩
          subst hwq
          have hkeep : ∀ k, k < w.heap.size → k ≠ bo → (Value.slice Av es.length cv).ownBlock ≠ some k → wq.heap[k]? = w.heap[k]? := fun k h1 h2 h3 => hF7.block k h1 (by rintro (h | h); exact h2 h; exact h3 h)
          have hrw7 : Row wq bw 73 _ := (hkeep bw hbw (fun e => by
            subst e
            unfold Row at hrw hro
            rw [hrw] at hro
            cases hro) (row_ne_own hrw hnd.row (by decide))).trans hrw
          have hrf7 : Row wq bf 26 _ := (hkeep bf hbf hne (row_ne_own hrf hnd.row (by decide))).trans hrf
          have hrt7 : Row wq bt 4 _ := (hkeep bt hbt (fun e => by
            subst e
            unfold Row at hrt hro
            rw [hrt] at hro
            cases hro) (row_ne_own hrt hnd.row (by decide))).trans hrt
          have hsl7 : Sl 5 vNd wq flo lo (some ⟨b, off, none⟩) ns := hsl.below vNd_good (hF7.below (fun k h => by
            rcases h with h | h
            · omega
            · exact (hnd.row.lt k h).1) (by omega)) (Nat.le_refl _)
          have hle7 : (es ++ (({ x with kids := kd ++ [(L : Int)] } : Nd), u7) :: es7).length = L := by
            have h1 := HLL.out
            rw [← hes7] at h1
            rw [h1]; simp; omega
          have HLE := Lib.hid hle7
          have HES7 := Lib.hid hes7
          clear hle7 hes7
          obtain ⟨cw7, fw7⟩ := hrw7.cel (i := 0) rfl
          have hih := ih q _ v7 wq hqr.2 (by omega) (by rw [HLE.out]; exact hLb) hsl7 hlf ‹lo ≤ bt› hlo hlw hne hrf7 hrt7 hro7 hrw7 hnd7
          clear ih
          go_wp2_with fail
          refine hih.mono ?_
          rintro e w6 ⟨rfl, v6, es6, hro6, hnd6, hes6, hF6, hat6⟩
          have hfin : WalkSt x ka w lo bo (.slice Av es.length cv) es (some ⟨gk, 0, none⟩) cc1 (subs (sub ns tn f) (es.length + 1) (ka.take (j + 1))).2 (subs (sub ns tn f) (es.length + 1) (ka.take (j + 1))).1 w6 := by
            have hsn : subs (sub ns tn f) (es.length + 1) (ka.take (j + 1)) = (l2 ++ sub ns tn f L q, kd ++ [(L : Int)]) := by
              rw [List.take_succ_eq_append_getElem hlt, subs_snoc, ← HL2.out, ← HKD.out, HQ.out, ← HLL.out]
              rfl
            have hn7 : ∀ k, k < wq.heap.size → v7.ownBlock ≠ some k → k ≠ bo → w6.heap[k]? = wq.heap[k]? := fun k h1 h2 h3 => hF6.block k h1 (by rintro (h | h); exact h3 h; exact h2 h)
            rw [hsn]
            refine ⟨v6, es7 ++ es6, u7, hro6, by simpa using hnd6, ?_, own_same hk7 fun g hg => hn7 g (hk7.lt g hg).2 (own_ne_own hk7 hnd7.row (by decide) g hg) (fun e => by subst e; exact row_ne_own hro7 hk7 (by decide) hg), ?_, ?_, hub7⟩
            · rw [List.map_append, HES7.out, hes6, HLE.out]
            · refine hF7.trans hF6 (fun k h1 h2 => ?_)
              rcases h2 with h2 | h2
              · exact .inl h2
              · rcases hat7 with h3 | h3
                · exact .inr (by rw [← h3]; exact h2)
                · have := h3 k h2
                  omega
            · have hs7 := hF7.size
              rcases hat6 with h2 | h2
              · rw [h2]; exact hat7
              · right
                intro g hg
                have := h2 g hg
                omega
          clear hih
          go_wp2_with fail
          exact ⟨⟨j + 1, by omega, by go_num, hfin⟩, by simp [intOf]; omega⟩
      · obtain rfl : j = ka.length := by omega
        obtain ⟨v, es2, u, hro4, hnd4, hes2, hk4, hF4, hat4, hub4⟩ := hst
        have HES := Lib.hid hes2
        clear hes2
        clear ih
        go_wp2_with fail
        go_end0
        refine ⟨rfl, v, _, hro4, hnd4, ?_, hF4, hat4⟩
        have hxx : ns.getD at_ nd0 = x := by rw [List.getD_eq_getElem?_getD, List.getElem?_eq_getElem hat, HX.out]; rfl
        rw [List.map_cons, HES.out, List.take_length]
        simp only [sub, hxx, HKS.out]
set_option maxHeartbeats 4000000 in
set_option maxRecDepth 100000 in
theorem walkedG_any {ns : List Nd} (tn : Bool) (top F : Nat) (dep : Nat → Nat) (hdep : ∀ (i : Nat), i < ns.length → ∀ k ∈ (ns.getD i nd0).kids, 0 ≤ k ∧ k < ns.length ∧ dep k.toNat < dep i) (htop : top < ns.length) (hF : dep top < F) (hmax : ns.length ≤ 300) (hkb : ∀ x ∈ ns, x.kids.length * 8 ≤ 140737488355328) {A : Option Addr} {c flo lo : Nat} {v : Value} {es : List (Nd × Value)} {w : World} (hes : es.length + szN ns F top ≤ 100000) (hlo : lo ≤ w.heap.size)
    (hsl : Sl 5 vNd w flo lo A ns) (hnd : Nodes w lo v es) :
    Calls Tryd.prog 46 #[v, .slice A ns.length c, .int .i64 (top : Int), .bool tn] w fun e w' =>
      ∃ v' es', e = .returned v' ∧ Nodes w' lo v' (es ++ es') ∧ es'.map Prod.fst = sub ns tn F es.length top ∧ Fr (fun k => v.ownBlock = some k) w w' := by
  obtain ⟨Av, cv, rfl, _, _⟩ := own_form hnd.row
  obtain ⟨wa, hwa⟩ : ∃ wa : World, wa = w.alloc (.cells #[.slice Av es.length cv] 26) := ⟨_, rfl⟩
  obtain ⟨wb, hwb⟩ : ∃ wb : World, wb = wa.alloc (.cells #[.slice A ns.length c] 26) := ⟨_, rfl⟩
  obtain ⟨wc, hwc⟩ : ∃ wc : World, wc = wb.alloc (.cells #[.bool tn] 4) := ⟨_, rfl⟩
  obtain ⟨wd, hwd⟩ : ∃ wd : World, wd = wc.alloc (.cells #[.func (.func 70) #[] #[.pointer (some ⟨w.heap.size + 1, 0, none⟩), .pointer (some ⟨w.heap.size + 2, 0, none⟩), .pointer (some ⟨w.heap.size, 0, none⟩), .pointer (some ⟨w.heap.size + 3, 0, none⟩)]] 73) := ⟨_, rfl⟩
  have sa : wa.heap.size = w.heap.size + 1 := by rw [hwa]; simp
  have sb : wb.heap.size = w.heap.size + 2 := by rw [hwb]; simp; omega
  have sc : wc.heap.size = w.heap.size + 3 := by rw [hwc]; simp; omega
  have sd : wd.heap.size = w.heap.size + 4 := by rw [hwd]; simp; omega
  have hbd : Below w.heap.size w wd := by
    have h1 : Below w.heap.size w wa := by rw [hwa]; exact (Below.refl _ _).alloc (Nat.le_refl _) _
    have h2 : Below w.heap.size w wb := by rw [hwb]; exact h1.alloc (by omega) _
    have h3 : Below w.heap.size w wc := by rw [hwc]; exact h2.alloc (by omega) _
    rw [hwd]; exact h3.alloc (by omega) _
  have ra : Row wd w.heap.size 26 [.slice Av es.length cv] := by
    have h : Row wa w.heap.size 26 [.slice Av es.length cv] := by rw [hwa]; exact Row.new w _ _
    rw [hwd, hwc, hwb]; exact ((h.alloc _).alloc _).alloc _
  have rb : Row wd (w.heap.size + 1) 26 [.slice A ns.length c] := by
    have h : Row wb wa.heap.size 26 [.slice A ns.length c] := by rw [hwb]; exact Row.new wa _ _
    rw [sa] at h
    rw [hwd, hwc]; exact (h.alloc _).alloc _
  have rc : Row wd (w.heap.size + 2) 4 [.bool tn] := by
    have h : Row wc wb.heap.size 4 [.bool tn] := by rw [hwc]; exact Row.new wb _ _
    rw [sb] at h
    rw [hwd]; exact h.alloc _
  have rd : Row wd (w.heap.size + 3) 73 [.func (.func 70) #[] #[.pointer (some ⟨w.heap.size + 1, 0, none⟩), .pointer (some ⟨w.heap.size + 2, 0, none⟩), .pointer (some ⟨w.heap.size, 0, none⟩), .pointer (some ⟨w.heap.size + 3, 0, none⟩)]] := by
    have h := Row.new wc 73 [.func (.func 70) #[] #[.pointer (some ⟨w.heap.size + 1, 0, none⟩), .pointer (some ⟨w.heap.size + 2, 0, none⟩), .pointer (some ⟨w.heap.size, 0, none⟩), .pointer (some ⟨w.heap.size + 3, 0, none⟩)]]
    rw [sc] at h
    rw [hwd]; exact h
  have hcall := walkG_any ns tn A c flo lo (w.heap.size + 1) (w.heap.size + 2) w.heap.size (w.heap.size + 3) dep hdep hmax hkb F top es (.slice Av es.length cv) wd htop hF hes (hsl.below vNd_good hbd hlo) (by omega) (by omega) hlo (by omega) (by omega) rb rc ra rd (hnd.below hbd)
  rw [hwd, hwc, hwb, hwa] at hcall
  have HWD : Hid (wd = ((((w.alloc (.cells #[.slice Av es.length cv] 26)).alloc (.cells #[.slice A ns.length c] 26)).alloc (.cells #[.bool tn] 4)).alloc (.cells #[.func (.func 70) #[] #[.pointer (some ⟨w.heap.size + 1, 0, none⟩), .pointer (some ⟨w.heap.size + 2, 0, none⟩), .pointer (some ⟨w.heap.size, 0, none⟩), .pointer (some ⟨w.heap.size + 3, 0, none⟩)]] 73))) := by
    show _ = _
    rw [hwd, hwc, hwb, hwa]
  have HSD := Lib.hid sd
  clear hwa hwb hwc hwd sa sb sc sd
  go_enter Tryd.func46, Tryd.ntmps46
  go_wp2_with fail
  refine hcall.mono ?_
  rw [← HWD.out]
  rintro e w5 ⟨rfl, v5, es5, hr5, hn5, hes5, hF5, hat5⟩
  have HE := Lib.hid hes5
  clear hes5 hcall
  obtain ⟨c5, f5⟩ := hr5.cel (i := 0) rfl
  go_wp2_with fail
  go_ret
  refine ⟨v5, es5, rfl, hn5, HE.out, (Fr.of_below hbd).trans hF5 (fun k h1 h2 => ?_)⟩
  rcases h2 with h2 | h2
  · omega
  · exact h2
end Go.Proofs.YtimhlnndobfehaaDoor
namespace Go.Proofs.YtimhlnndobfehaaDoor
open Go.RowKit
set_option linter.unusedVariables false

/-- A pattern of new memory. -/
def PatRes (w w' : World) (v : Value) (ns : List Nd) : Prop := ∃ u es, v = .agg #[u] ∧ Nodes w' w.heap.size u es ∧ es.map Prod.fst = ns ∧ Below w.heap.size w w'
theorem PatRes.nothing {w w' : World} (h : Below w.heap.size w w') : PatRes w w' (.agg #[.slice none 0 0]) [] := ⟨_, [], rfl, Nodes.nil _ _, rfl, h⟩

theorem Nodes.low {w : World} {lo lo' : Nat} {v : Value} {es : List (Nd × Value)} (h : Nodes w lo v es) (hl : lo' ≤ lo) : Nodes w lo' v es :=
  ⟨own_low h.row hl, fun i x u hi => ⟨own_low (h.kid i x u hi).1 hl, (h.kid i x u hi).2⟩, h.far, h.apart⟩
theorem PatRes.up {w wA w1 : World} {H : Nat} {v : Value} {ns : List Nd} (h : PatRes wA w1 v ns) (hb : Below w.heap.size w wA) (hH : w.heap.size ≤ H) (hA : H < wA.heap.size) (z : Value) : PatRes w (w1.setCell ⟨H, 0, none⟩ z) v ns := by
  obtain ⟨u, es, rfl, hn, he, hB⟩ := h
  refine ⟨u, es, rfl, (hn.same fun g hg => Below.heap_setCell _ _ _ g (fun e => ?_)).low hb.size, he, (hb.trans (hB.mono hb.size)).setCell hH _⟩
  have := (hn.lt hg).1
  simp only at e
  omega
theorem res_cell {fn : Func} {p : Tmp} (h : fn.results = #[.cell p 28]) (tmps : Array Value) (w : World) (g : Nat) (u : Value) (hp : tmps.getD p undef = .pointer (some ⟨g, 0, none⟩)) (hg : Row w g 28 [u]) :
    (results fn tmps).run Tryd.prog w = .ok (.agg #[u]) w :=
  results_cell_row h tmps w g 28 #[u] (0, 0) _ hp hg Tryd.underlying28 rfl (by kernel_rfl)
theorem res_cell_tmp {fn : Func} {p q : Tmp} (h : fn.results = #[.cell p 28, .tmp q]) (tmps : Array Value) (w : World) (g : Nat) (u : Value) (hp : tmps.getD p undef = .pointer (some ⟨g, 0, none⟩)) (hg : Row w g 28 [u]) :
    (results fn tmps).run Tryd.prog w = .ok (.tuple #[.agg #[u], tmps.getD q undef]) w := by
  have hl := run_loadVar_row (P := Tryd.prog) w g 28 28 #[u] (0, 0) _ hg Tryd.underlying28 rfl (by kernel_rfl)
  rw [results_cell_tmp h, hp]
  simp [asAddr, hl, Result.andThen]

def leafN (k r p m : Int) : Nd := ⟨k, r, p, m, []⟩
section
variable (k r p m : Int) (w : World)
set_option maxHeartbeats 4000000 in
theorem leaf_any (h : kinNd (leafN k r p m)) :
    Calls Tryd.prog 51 #[.agg #[.int .u8 k, .int .i32 r, .int .u32 p, .int .u32 m, .slice none 0 0]] w fun e w' => ∃ v, e = .returned v ∧ PatRes w w' v [leafN k r p m] := by
  go_enter Tryd.func51, Tryd.ntmps51
  go_wp2_with fail
  have hr : Row ((w.alloc (.cells #[.int .u8 k, .int .i32 r, .int .u32 p, .int .u32 m, .slice none 0 0] 44)).alloc (.cells #[.slice (some ⟨w.heap.size + 1 + 1, 0, none⟩) 1 1] 28)) (w.heap.size + 1) 28 [.slice (some ⟨w.heap.size + 1 + 1, 0, none⟩) 1 1] := by
    have h := Row.new (w.alloc (.cells #[.int .u8 k, .int .i32 r, .int .u32 p, .int .u32 m, .slice none 0 0] 44)) 28 [.slice (some ⟨w.heap.size + 1 + 1, 0, none⟩) 1 1]
    simpa using h
  refine bodyPost_ret (res_cell rfl _ _ (w.heap.size + 1) _ rfl (hr.alloc _)) rfl ?_
  refine ⟨_, rfl, _, [(leafN k r p m, .slice none 0 0)], rfl, ⟨⟨rfl, .inr ⟨w.heap.size + 1 + 1, 1, #[.int .u8 k, .int .i32 r, .int .u32 p, .int .u32 m, .slice none 0 0], rfl, by omega, ?_, Nat.le_refl _, by unfold maxLen; omega, rfl, rfl⟩⟩, fun i x u hi => ?_, fun i x u g hi hg => ?_, fun i j x u y t g hi hj _ _ => ?_⟩, rfl, by go_grown⟩
  · have h := Row.new ((w.alloc (.cells #[.int .u8 k, .int .i32 r, .int .u32 p, .int .u32 m, .slice none 0 0] 44)).alloc (.cells #[.slice (some ⟨w.heap.size + 1 + 1, 0, none⟩) 1 1] 28)) 44 [.int .u8 k, .int .i32 r, .int .u32 p, .int .u32 m, .slice none 0 0]
    simp only [World.size_alloc] at h
    exact h
  · match i, hi with
    | 0, hi =>
      simp only [List.getElem?_cons_zero, Option.some.injEq, Prod.mk.injEq] at hi
      obtain ⟨rfl, rfl⟩ := hi
      exact ⟨World.ownsRow_nil _ _ _ _, ‹kinNd _›⟩
  · match i, hi with
    | 0, hi =>
      simp only [List.getElem?_cons_zero, Option.some.injEq, Prod.mk.injEq] at hi
      obtain ⟨rfl, rfl⟩ := hi
      simp [Value.ownBlock] at hg
  · match i, j, hi, hj with
    | 0, 0, _, _ => rfl

set_option maxHeartbeats 4000000 in
theorem rune_any (hk : kin .i32 r) :
    Calls Tryd.prog 19 #[.int .i32 r] w fun e w' => ∃ v, e = .returned v ∧ PatRes w w' v [leafN 2 r 0 0] := by
  have hr := Row.new w 28 [.slice none 0 0]
  have hb : Below w.heap.size w (w.alloc (.cells #[.slice none 0 0] 28)) := (Below.refl _ _).alloc (Nat.le_refl _) _
  go_enter Tryd.func19, Tryd.ntmps19
  go_wp2_with fail
  refine (leaf_any 2 r 0 0 _ ⟨show (Lit.int .u8 2).wf = true from rfl, hk, show (Lit.int .u32 0).wf = true from rfl, show (Lit.int .u32 0).wf = true from rfl, by simp [leafN]⟩).mono ?_
  rintro e w1 ⟨v, rfl, hp⟩
  obtain ⟨u, es, rfl, hp2⟩ := id hp
  obtain ⟨Au, cu, rfl, _, _⟩ := own_form hp2.1.row
  have hr1 := hr.below hp2.2.2 (by simp)
  obtain ⟨c1, f1⟩ := hr1.cel (i := 0) rfl
  have hfin := hp.up hb (Nat.le_refl _) (by simp) (.slice Au es.length cu)
  clear hp hp2 hr
  go_wp2_with fail
  (try simp only [Exit.inBlock, Exit.then])
  refine bodyPost_ret (res_cell rfl _ _ w.heap.size _ rfl (hr1.set_ 0 _)) rfl ?_
  exact ⟨_, rfl, hfin⟩
end
end Go.Proofs.YtimhlnndobfehaaDoor
