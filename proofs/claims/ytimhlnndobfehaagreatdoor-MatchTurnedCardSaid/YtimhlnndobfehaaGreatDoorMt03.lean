/- The document put, walked. -/
import Derived.Test.YtimhlnndobfehaaGreatDoorMd34
namespace Go.Proofs.YtimhlnndobfehaaGreatDoor
open Go.RowKit
set_option linter.unusedVariables false

def PutSt (x : Nd) (w : World) (lo : Nat) (v0 : Value) (es : List (Nd × Value)) (kd : List Int) (l2 : List Nd) (v u : Value) (wr : World) : Prop :=
  ∃ es2, Nodes wr lo v (es ++ (({ x with kids := [] } : Nd), .slice none 0 0) :: es2) ∧ es2.map Prod.fst = l2 ∧ wr.ownsRow lo 3 1 u kd.length (kd.map (Value.int .i64)) ∧ Fr (fun k => v0.ownBlock = some k) w wr ∧
    (v.ownBlock = v0.ownBlock ∨ ∀ g, v.ownBlock = some g → w.heap.size ≤ g) ∧
    (∀ g, u.ownBlock = some g → w.heap.size ≤ g ∧ ∀ (i : Nat) (y : Nd) (t : Value), (es ++ (({ x with kids := [] } : Nd), .slice none 0 0) :: es2)[i]? = some (y, t) → t.ownBlock ≠ some g) ∧
    (∀ (i : Nat) (y : Nd) (t : Value) (g : Nat), es2[i]? = some (y, t) → t.ownBlock = some g → w.heap.size ≤ g) ∧
    v.ownBlock ≠ some w.heap.size ∧ Row wr w.heap.size 66 (ndCells { x with kids := [] } (.slice none 0 0)) ∧ ∀ k ∈ kd, kin .i64 k

theorem kidsT_at (tn : Bool) (x : Nd) (j : Nat) (hj : j < x.kids.length) : (kidsT tn x)[j]'(by rw [kidsT_length]; exact hj) = if (tn && (x.kind == 6)) = true then x.kids[x.kids.length - 1 - j] else x.kids[j] := by
  by_cases h : tn = true ∧ x.kind = 6
  · have e : kidsT tn x = x.kids.reverse := by unfold kidsT; rw [if_pos h]
    have e2 : (tn && (x.kind == 6)) = true := by rw [h.1, h.2]; rfl
    rw [if_pos e2]
    simp only [e, List.getElem_reverse]
  · have e : kidsT tn x = x.kids := by unfold kidsT; rw [if_neg h]
    have e2 : (tn && (x.kind == 6)) = false := by simpa using h
    simp only [e, e2, Bool.false_eq_true, if_false]

set_option maxHeartbeats 8000000 in
set_option maxRecDepth 100000 in
theorem put_any (ns : List Nd) (tn : Bool) (A : Option Addr) (c flo lo : Nat) (hin : InR ns.length 0 ns) (hm : ns.length ≤ 300) (hkb : ∀ x ∈ ns, x.kids.length * 8 ≤ 140737488355328) : ∀ (f at_ : Nat) (es : List (Nd × Value)) (v : Value) (w : World),
    at_ < ns.length → ns.length - at_ ≤ f → es.length + szN ns f at_ ≤ 100000 →
    Sl 5 vNd w flo lo A ns → lo ≤ w.heap.size → Nodes w lo v es →
    Calls Tryz.prog 86 #[v, .slice A ns.length c, .int .i64 (at_ : Int), .bool tn] w fun e w' =>
      ∃ v' es', e = .returned v' ∧ Nodes w' lo v' (es ++ es') ∧ es'.map Prod.fst = sub ns tn f es.length at_ ∧ Fr (fun k => v.ownBlock = some k) w w' ∧
        (v'.ownBlock = v.ownBlock ∨ ∀ g, v'.ownBlock = some g → w.heap.size ≤ g) ∧ (∀ (i : Nat) (y : Nd) (t : Value) (g : Nat), es'[i]? = some (y, t) → t.ownBlock = some g → w.heap.size ≤ g) := by
  intro f
  induction f with
  | zero => intro at_ es v w h1 h2; omega
  | succ f ih =>
    intro at_ es v w hat hf hsz hsl hlo hnd
    have hesz : es.length ≤ 100000 := by omega
    obtain ⟨i0, hi0, hz0, hz1, hz2⟩ := info_parts int_info
    obtain ⟨i1, hi1, hy0, hy1, hy2⟩ := info_parts (show (Tryz.prog.info? 66).map (fun i => (i.zero, i.size, i.bytes)) = some (some (.agg #[.int .u8 0, .int .i32 0, .int .u32 0, .int .u32 0, .slice none 0 0]), 5, 40) by kernel_rfl)
    obtain ⟨b, off, B, cc, rfl, _, hb, ⟨c0, f0⟩, ⟨c1, f1⟩, ⟨c2, f2⟩, ⟨c3, f3⟩, ⟨c4, f4⟩, hkl, hkc, hks, k0, k1, k2, k3⟩ := nd_at hsl hat
    have hkb := hkb _ (List.getElem_mem hat)
    generalize hx : ns[at_] = x at *
    have HX := Lib.hid hx
    clear hx
    obtain ⟨Av, cv, rfl, hcv1, hcv2⟩ := own_form hnd.row
    go_enter Tryz.func86, Tryz.ntmps86
    have hbA : Below w.heap.size w ((w.alloc (.cells (ndCells { x with kids := [] } (.slice none 0 0)).toArray 66)).alloc (.cells (ndCells { x with kids := [] } (.slice none 0 0)).toArray 66)) := ((Below.refl _ _).alloc (Nat.le_refl _) _).alloc (by simp) _
    have hrA : Row ((w.alloc (.cells (ndCells { x with kids := [] } (.slice none 0 0)).toArray 66)).alloc (.cells (ndCells { x with kids := [] } (.slice none 0 0)).toArray 66)) (w.heap.size + 1) 66 (ndCells { x with kids := [] } (.slice none 0 0)) := by
      have h := Row.new (w.alloc (.cells (ndCells { x with kids := [] } (.slice none 0 0)).toArray 66)) 66 (ndCells { x with kids := [] } (.slice none 0 0))
      simpa using h
    have hrN : Row ((w.alloc (.cells (ndCells { x with kids := [] } (.slice none 0 0)).toArray 66)).alloc (.cells (ndCells { x with kids := [] } (.slice none 0 0)).toArray 66)) w.heap.size 66 (ndCells { x with kids := [] } (.slice none 0 0)) := (Row.new w 66 _).alloc _
    have hsA : ((w.alloc (.cells (ndCells { x with kids := [] } (.slice none 0 0)).toArray 66)).alloc (.cells (ndCells { x with kids := [] } (.slice none 0 0)).toArray 66)).heap.size = w.heap.size + 2 := by simp
    have hndA := hnd.below hbA
    have hownA := hndA.row
    have hnewsA := hrA.news
    have h63 : es.length + 1 ≤ maxLen := by unfold maxLen; omega
    have hbyA : (es.length + 1) * 40 ≤ 140737488355328 := by omega
    have hloA : lo ≤ ((w.alloc (.cells (ndCells { x with kids := [] } (.slice none 0 0)).toArray 66)).alloc (.cells (ndCells { x with kids := [] } (.slice none 0 0)).toArray 66)).heap.size := by rw [hsA]; omega
    have honeA : ∀ u ∈ ndCells { x with kids := [] } (.slice none 0 0), u.oneCell' = true := by
      intro u hu
      simp only [ndCells, List.mem_cons, List.not_mem_nil, or_false] at hu
      rcases hu with rfl | rfl | rfl | rfl | rfl <;> rfl
    obtain ⟨wA, hwA⟩ : ∃ wA, wA = ((w.alloc (.cells (ndCells { x with kids := [] } (.slice none 0 0)).toArray 66)).alloc (.cells (ndCells { x with kids := [] } (.slice none 0 0)).toArray 66)) := ⟨_, rfl⟩
    rw [← hwA] at hbA hrN hsA hndA
    have HWA := Lib.hid hwA
    have HSA := Lib.hid hsA
    clear hwA hsA
    go_wp2_with (at_builtin; refine wpList_append_lies _ rfl _ _ 26 rfl lo 66 i1 (.agg #[.int .u8 0, .int .i32 0, .int .u32 0, .int .u32 0, .slice none 0 0]) 5 40 Tryz.underlying26 hi1 hy0 hy1 hy2 rfl (by decide) (.slice Av es.length cv) es.length (flat es) rfl hownA ⟨w.heap.size + 1, 0, none⟩ 1 1 (ndCells { x with kids := [] } (.slice none 0 0)) rfl rfl hnewsA honeA (by decide) h63 hbyA hloA _ rfl ?_)
    simp only [ndCells] at HWA
    rw [← HWA.out]
    intro g1 cap1 w3 hown3 hgr3 hat3 hlt3
    have hat3' : (Value.slice Av es.length cv).ownBlock = some g1 ∨ g1 = w.heap.size + 2 := by
      rcases hat3 with h | h
      · exact .inl h
      · exact .inr (by first | exact h | rw [h, HSA.out])
    have hnd3 : Nodes w3 lo (.slice (some ⟨g1, 0, none⟩) (es.length + 1) cap1) (es ++ [(({ x with kids := [] } : Nd), .slice none 0 0)]) := by
      refine hndA.push (World.ownsRow_nil _ _ _ _) ⟨k0, k1, k2, k3, by simp⟩ (fun g hg => by simp [Value.ownBlock] at hg) hown3 hgr3 ?_
      rcases hat3' with h | h
      · exact .inl h.symm
      · exact .inr (by rw [HSA.out, h]; rfl)
    have hvb : ∀ k, (Value.slice Av es.length cv).ownBlock = some k → k < w.heap.size := fun k hk => (hnd.row.lt k hk).2
    have hst0 : PutSt x w lo (.slice Av es.length cv) es [] [] (.slice (some ⟨g1, 0, none⟩) (es.length + 1) cap1) (.slice none 0 0) w3 := by
      refine ⟨[], hnd3, rfl, World.ownsRow_nil _ _ _ _, (Fr.of_below hbA).trans (Fr.of_grown (S := fun k => (Value.slice Av es.length cv).ownBlock = some k) hgr3 (fun k h => h)) (fun k _ h => h), ?_, fun g hg => by simp [Value.ownBlock] at hg, by simp, ?_, ?_⟩
      · rcases hat3' with h | h
        · exact .inl h.symm
        · right
          intro g hg
          simp only [Value.ownBlock, Option.some.injEq] at hg
          omega
      · rcases hat3' with h | h
        · have := hvb _ h
          simp only [Value.ownBlock, ne_eq, Option.some.injEq]
          omega
        · simp only [Value.ownBlock, ne_eq, Option.some.injEq]
          omega
      · exact ⟨hrN.grown hgr3 (fun e => by have := hvb _ e.symm; omega), by simp⟩
    clear hbA hrA hrN hndA hownA hnewsA hloA HWA HSA hown3 hgr3 hat3 hat3' hnd3 honeA
    have hkl8 : x.kids.length ≤ 17592186044416 := by omega
    go_wp2_with fail
    go_loopw [0, 12, 13] (fun v u i wr => ∃ j : Nat, j ≤ x.kids.length ∧ i = .int .i64 j ∧ PutSt x w lo (.slice Av es.length cv) es (subs (sub ns tn f) (es.length + 1) ((kidsT tn x).take j)).2 (subs (sub ns tn f) (es.length + 1) ((kidsT tn x).take j)).1 v u wr) (fun _ _ i _ => x.kids.length - (intOf i).toNat)
    case atStart => exact ⟨0, by omega, rfl, hst0⟩
    case round =>
      obtain ⟨j, hj, rfl, es2, hnd4, hes2, hu4, hF4, hat4, hub4, hkb4, hvn4, hrn4, hkk4⟩ := hrel
      obtain ⟨kd, hkd⟩ : ∃ kd, kd = (subs (sub ns tn f) (es.length + 1) ((kidsT tn x).take j)).2 := ⟨_, rfl⟩
      obtain ⟨l2, hl2⟩ : ∃ l2, l2 = (subs (sub ns tn f) (es.length + 1) ((kidsT tn x).take j)).1 := ⟨_, rfl⟩
      rw [← hkd] at hu4 hkk4
      rw [← hl2] at hes2
      have hkdl : kd.length = j := by rw [hkd, subs_num, List.length_take, kidsT_length, Nat.min_eq_left hj]
      have HKD := Lib.hid hkd
      have HL2 := Lib.hid hl2
      have HKDL := Lib.hid hkdl
      have HES := Lib.hid hes2
      clear hkd hl2 hkdl hes2
      have hbz := hF4.size
      have hlow : Below lo w wr := hF4.below (fun k h => (hnd.row.lt k h).1) hlo
      obtain ⟨ck0, fk0⟩ := hrn4.cel (i := 0) rfl
      obtain ⟨L, hL⟩ : ∃ L, L = (es ++ (({ x with kids := [] } : Nd), Value.slice none 0 0) :: es2).length := ⟨_, rfl⟩
      have hLe : es.length < L := by rw [hL]; simp
      have hrow4 := hnd4.row
      rw [← hL] at hrow4
      obtain ⟨g4, c4', rfl, hc41, hc42, hg41, hg42⟩ := own_pos hrow4 (by omega)
      have hL2 : L = es.length + 1 + l2.length := by rw [hL, ← HES.out]; simp; omega
      obtain ⟨Au, cu, rfl, hcu1, hcu2⟩ := own_form hu4
      have HL := Lib.hid hL
      have HLL := Lib.hid hL2
      clear hL hL2
      have hxx : ns.getD at_ nd0 = x := by rw [List.getD_eq_getElem?_getD, List.getElem?_eq_getElem hat, HX.out]; rfl
      have HXX := Lib.hid hxx
      clear hxx
      by_cases hlt : j < x.kids.length
      · have hksw := hks.below (vInt_good _) hlow (Nat.le_refl _)
        obtain ⟨bk, ok, rfl, _, hbk, ⟨cka, fka⟩, kka⟩ := ints_at hksw hlt
        obtain ⟨p, hp⟩ : ∃ p : Nat, x.kids.length - 1 - j = p := ⟨_, rfl⟩
        have hplt : p < x.kids.length := by omega
        obtain ⟨bk', ok', e', _, _, ⟨ckb, fkb⟩, kkb⟩ := ints_at hksw hplt
        injection e' with e'
        injection e' with e1 e2
        subst e1 e2
        have hpi : ((x.kids.length : Int) - 1 - (j : Int)) = (p : Int) := by omega
        have hjT : j < (kidsT tn x).length := by rw [kidsT_length]; exact hlt
        have hkt : (kidsT tn x)[j] = if (tn && (x.kind == 6)) = true then x.kids[p] else x.kids[j] := by
          subst hp
          exact kidsT_at tn x j hlt
        have hkin : (at_ : Int) < (kidsT tn x)[j] ∧ (kidsT tn x)[j] < ns.length := by
          have hmem : (kidsT tn x)[j] ∈ x.kids := (kidsT_mem tn x _).1 (List.getElem_mem hjT)
          have := inr_at at_ hin hat _ (by rw [HXX.out]; exact hmem)
          omega
        obtain ⟨q, hq⟩ : ∃ q : Nat, (kidsT tn x)[j] = (q : Int) := ⟨((kidsT tn x)[j]).toNat, by omega⟩
        rw [hq] at hkt hkin
        have HQ := Lib.hid hq
        clear hq hp
        have hqr : at_ < q ∧ q < ns.length := by omega
        have HKT := Lib.hid hkt
        clear hkin hkt
        have hLb : L + szN ns f q ≤ 100000 := by
          have h1 : l2.length = (((kidsT tn x).take j).map fun k => szN ns f k.toNat).sum := by rw [HL2.out]; exact subs_length (sub_length ns tn f) _ _
          have h2 := sum_take_le (fun k => szN ns f k.toNat) (kidsT tn x) j hjT
          have h3 := kidsT_sum tn x (fun k => szN ns f k.toNat)
          simp only [szN, HXX.out] at hsz
          rw [HQ.out] at h2
          simp only [Int.toNat_natCast] at h2
          have := HLL.out
          omega
        generalize x.kids[p] = ip at *
        generalize x.kids[j] = ij at *
        go_upto_region 11 with (fail)
        go_cut [0, 12, 13, 14, 43] (fun s0 s12 s13 s14 s43 wc => s0 = .slice (some ⟨g4, 0, none⟩) L c4' ∧ s12 = .slice Au kd.length cu ∧ s13 = .int .i64 (j : Int) ∧ s14 = .int .i64 ij ∧ s43 = .bool (tn && (x.kind == 6)) ∧ wr = wc)
        case first =>
          cases tn
          all_goals
            go_wp2_with fail
            go_meet
            case rel => exact ⟨rfl, rfl, rfl, rfl, rfl, rfl⟩
        case rest =>
        obtain ⟨rfl, rfl, rfl, rfl, rfl, rfl⟩ := hcut
        generalize (tn && (x.kind == 6)) = tb at *
        go_upto_if 43 with (fail)
        go_cut [0, 12, 13, 14] (fun s0 s12 s13 s14 wc => s0 = .slice (some ⟨g4, 0, none⟩) L c4' ∧ s12 = .slice Au kd.length cu ∧ s13 = .int .i64 (j : Int) ∧ s14 = .int .i64 (q : Int) ∧ wr = wc)
        case first =>
          cases tb with
          | true =>
            have HKT2 : Hid ((q : Int) = ip) := HKT.out
            clear HKT
            go_wp2_with fail
            go_meet
            case rel => exact ⟨rfl, rfl, rfl, by rw [HKT2.out], rfl⟩
          | false =>
            have HKT2 : Hid ((q : Int) = ij) := HKT.out
            clear HKT
            go_wp2_with fail
            go_meet
            case rel => exact ⟨rfl, rfl, rfl, by rw [HKT2.out], rfl⟩
        case rest =>
        obtain ⟨rfl, rfl, rfl, rfl, rfl⟩ := hcut
        have hs8 : (wr.alloc (.cells #[.int .i64 (L : Int)] 3)).heap.size = wr.heap.size + 1 := by simp
        have hku : (wr.alloc (.cells #[.int .i64 (L : Int)] 3)).ownsRow lo 3 1 (.slice Au kd.length cu) kd.length (kd.map (Value.int .i64)) := hu4.alloc _
        have hcu8 : (kd.length + 1) * 8 ≤ 140737488355328 := by rw [HKDL.out]; omega
        have hcu9 : kd.length + 1 ≤ maxLen := by rw [HKDL.out]; unfold maxLen; omega
        have hlo8 : lo ≤ (wr.alloc (.cells #[.int .i64 (L : Int)] 3)).heap.size := by rw [hs8]; omega
        have hnw : ∀ j u, [Value.int .i64 (L : Int)][j]? = some u → (wr.alloc (.cells #[.int .i64 (L : Int)] 3)).cell? ((⟨wr.heap.size, 0, none⟩ : Addr).add j) = some u := (Row.new wr 3 [Value.int .i64 (L : Int)]).news
        have hon : ∀ u ∈ [Value.int .i64 (L : Int)], u.oneCell' = true := by intro u hu; rw [List.mem_singleton.1 hu]; rfl
        have HS8 := Lib.hid hs8
        clear hs8
        go_wp2_with (at_builtin; refine wpList_append_lies _ rfl _ _ 45 rfl lo 3 i0 (.int .i64 0) 1 8 Tryz.underlying45 hi0 hz0 hz1 hz2 rfl (by decide) (.slice Au kd.length cu) kd.length (kd.map (Value.int .i64)) rfl hku ⟨wr.heap.size, 0, none⟩ 1 1 [.int .i64 (L : Int)] rfl rfl hnw hon (by decide) hcu9 hcu8 hlo8 _ rfl ?_)
        intro g5 cap5 w5 hown5 hgr5 hat5 hlt5
        have ha5 : (Value.slice Au kd.length cu).ownBlock = some g5 ∨ g5 = wr.heap.size + 1 := by
          rcases hat5 with h | h
          · exact .inl h
          · exact .inr (by first | exact h | rw [h, HS8.out])
        have hs5 : wr.heap.size + 1 ≤ w5.heap.size := by have := hgr5.size; rw [HS8.out] at this; exact this
        have hin5 : ∀ k, k < wr.heap.size → (Value.slice Au kd.length cu).ownBlock ≠ some k → w5.heap[k]? = wr.heap[k]? := fun k h1 h2 => (hgr5.block k (by rw [HS8.out]; omega) (fun e => h2 e.symm)).trans (Below.heap_alloc wr _ _ h1)
        have hnd5 : Nodes w5 lo (.slice (some ⟨g4, 0, none⟩) L c4') (es ++ (({ x with kids := [] } : Nd), .slice none 0 0) :: es2) := hnd4.same fun g hg => hin5 g (hnd4.lt hg).2 (fun e => by
          rcases hg with hg | ⟨i, y, t, hi, hg⟩
          · exact own_ne_own hu4 hrow4 (by decide) g e hg
          · exact (hub4 g e).2 i y t hi hg)
        have hF5 : Fr (fun k => (Value.slice Av es.length cv).ownBlock = some k) w w5 := hF4.trans (T := fun k => (Value.slice Au kd.length cu).ownBlock = some k) ⟨hgr5.os, hgr5.tape, hgr5.output, by omega, fun k h1 h2 => hin5 k h1 h2⟩ (fun k h1 h2 => by have := (hub4 k h2).1; omega)
        have hrn5 : Row w5 w.heap.size 66 (ndCells { x with kids := [] } (.slice none 0 0)) := (hin5 _ hrn4.lt (row_ne_own hrn4 hu4 (by decide))).trans hrn4
        have hg5b : w.heap.size ≤ g5 := by
          rcases ha5 with h | h
          · exact (hub4 _ h).1
          · omega
        have hg5n : ∀ (i : Nat) (y : Nd) (t : Value), (es ++ (({ x with kids := [] } : Nd), Value.slice none 0 0) :: es2)[i]? = some (y, t) → t.ownBlock ≠ some g5 := by
          intro i y t hi
          rcases ha5 with h | h
          · exact (hub4 _ h).2 i y t hi
          · intro e
            have := ((hnd4.kid i y t hi).1.lt _ e).2
            omega
        have hsl5 : Sl 5 vNd w5 flo lo (some ⟨b, off, none⟩) ns := hsl.below vNd_good (hF5.below (fun k h => (hnd.row.lt k h).1) hlo) (Nat.le_refl _)
        have hlo5 : lo ≤ w5.heap.size := by omega
        have hih := ih q _ _ w5 hqr.2 (by omega) (by rw [← HL.out]; exact hLb) hsl5 hlo5 hnd5
        rw [← HL.out] at hih
        clear hnw hku hgr5 hat5
        go_wp2_with fail
        refine hih.mono ?_
        rintro e w6 ⟨v6, es6, rfl, hnd6, hes6, hF6, hat6, hkb6⟩
        have hrow5 := hnd5.row
        rw [← HL.out] at hrow5
        have hfin : PutSt x w lo (.slice Av es.length cv) es (subs (sub ns tn f) (es.length + 1) ((kidsT tn x).take (j + 1))).2 (subs (sub ns tn f) (es.length + 1) ((kidsT tn x).take (j + 1))).1 v6 (.slice (some ⟨g5, 0, none⟩) (kd.length + 1) cap5) w6 := by
          have hsn : subs (sub ns tn f) (es.length + 1) ((kidsT tn x).take (j + 1)) = (l2 ++ sub ns tn f L q, kd ++ [(L : Int)]) := by
            rw [List.take_succ_eq_append_getElem hjT, subs_snoc, ← HL2.out, ← HKD.out, HQ.out, ← HLL.out]
            rfl
          have hn6 : ∀ k, k < w5.heap.size → k ≠ g4 → w6.heap[k]? = w5.heap[k]? := fun k h1 h2 => hF6.block k h1 (fun h => by
            simp only [Value.ownBlock, Option.some.injEq] at h
            exact h2 h.symm)
          rw [hsn]
          have hassoc : es ++ (({ x with kids := [] } : Nd), Value.slice none 0 0) :: (es2 ++ es6) = (es ++ (({ x with kids := [] } : Nd), Value.slice none 0 0) :: es2) ++ es6 := by simp
          refine ⟨es2 ++ es6, by rw [hassoc]; exact hnd6, by rw [List.map_append, HES.out, hes6], ?_, ?_, ?_, ?_, ?_, ?_, ?_, ?_⟩
          · rw [List.length_append, List.map_append]
            refine own_same hown5 fun g hg => hn6 g (hown5.lt g hg).2 (fun e => by subst e; exact own_ne_own hown5 hrow5 (by decide) _ hg rfl)
          · refine hF5.trans hF6 (fun k h1 h2 => ?_)
            rcases hat4 with h3 | h3
            · rw [← h3]; exact h2
            · have := h3 k h2; omega
          · rcases hat6 with h2 | h2
            · rw [h2]; exact hat4
            · right
              intro g hg
              have := h2 g hg
              omega
          · intro g hg
            simp only [Value.ownBlock, Option.some.injEq] at hg
            subst hg
            refine ⟨hg5b, fun i y t hi ht => ?_⟩
            rw [hassoc] at hi
            by_cases hi2 : i < (es ++ (({ x with kids := [] } : Nd), Value.slice none 0 0) :: es2).length
            · rw [List.getElem?_append_left hi2] at hi
              exact hg5n i y t hi ht
            · rw [List.getElem?_append_right (by omega)] at hi
              have := hkb6 _ y t _ hi ht
              omega
          · intro i y t g hi hg
            by_cases hi2 : i < es2.length
            · rw [List.getElem?_append_left hi2] at hi
              exact hkb4 i y t g hi hg
            · rw [List.getElem?_append_right (by omega)] at hi
              have := hkb6 _ y t g hi hg
              omega
          · rcases hat6 with h2 | h2
            · rw [h2]; exact hvn4
            · intro e
              have := h2 _ e
              omega
          · refine (hn6 _ hrn5.lt (fun e => hvn4 (by rw [e]; rfl))).trans hrn5
          · intro k hk
            rcases List.mem_append.1 hk with hk | hk
            · exact hkk4 k hk
            · rw [List.mem_singleton.1 hk]
              exact kin_mk64 (by omega)
        clear hih hes6
        go_wp2_with fail
        exact ⟨⟨j + 1, by omega, by go_num, hfin⟩, by simp [intOf]; omega⟩
      · obtain rfl : j = x.kids.length := by omega
        clear ih
        have hget : (es ++ (({ x with kids := [] } : Nd), Value.slice none 0 0) :: es2)[es.length]? = some (({ x with kids := [] } : Nd), Value.slice none 0 0) := by simp
        obtain ⟨cq, fq⟩ := hnd4.cel HL.out hget 4 (by decide)
        simp only [ndCells] at cq
        go_wp2_with fail
        go_ret
        have hxs := hnd4.swap (w' := wr) (g := g4) (ks := kd) (u' := .slice Au kd.length cu) hget rfl (fun _ _ => rfl) hu4 hkk4 (fun k hk => ⟨fun e => by subst e; exact own_ne_own hu4 hrow4 (by decide) _ hk rfl, fun j y t _ hj ht => (hub4 k hk).2 j y t hj ht⟩)
        rw [List.set_append_right _ _ (Nat.le_refl _), Nat.sub_self, List.set_cons_zero] at hxs
        refine ⟨_, rfl, _, hxs, ?_, hF4.setc _ _ (fun h => ?_), hat4, fun i y t g hi ht => ?_⟩
        · rw [List.map_cons, HES.out]
          have h1 : (kidsT tn x).take x.kids.length = kidsT tn x := List.take_of_length_le (by rw [kidsT_length]; exact Nat.le_refl _)
          rw [HKD.out, HL2.out, h1]
          simp only [sub, HXX.out]
        · rcases hat4 with h1 | h1
          · exact h1.symm
          · have := h1 g4 rfl
            simp only at h
            omega
        · cases i with
          | zero =>
            simp only [List.getElem?_cons_zero, Option.some.injEq, Prod.mk.injEq] at hi
            rw [← hi.2] at ht
            exact (hub4 g ht).1
          | succ i =>
            rw [List.getElem?_cons_succ] at hi
            exact hkb4 i y t g hi ht
end Go.Proofs.YtimhlnndobfehaaGreatDoor
