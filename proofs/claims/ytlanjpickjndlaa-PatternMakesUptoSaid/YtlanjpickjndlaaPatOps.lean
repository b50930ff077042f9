/- Seq, Or, Star, Opt (both), walked. -/
import Derived.Test.YtlanjpickjndlaaMade
import Derived.Test.YtlanjpickjndlaaMadeR
namespace Go.Proofs.Ytlanjpickjndlaa
open Go.RowKit
set_option linter.unusedVariables false

theorem res_cell_tup {fn : Func} {p q : Tmp} (h : fn.results = #[.cell p 25, .tmp q]) (tmps : Array Value) (w : World) (g : Nat) (u z : Value) (hp : tmps.getD p undef = .pointer (some ⟨g, 0, none⟩)) (hz : tmps.getD q undef = z) (hg : Row w g 25 [u]) :
    (results fn tmps).run Try.prog w = .ok (.tuple #[.agg #[u], z]) w := by
  subst hz
  exact res_cell_tmp h tmps w g u hp hg

set_option maxHeartbeats 4000000 in
theorem seq_any (AL : Option Addr) (cL lo hi : Nat) (ls : List (List Nd)) (w : World) (hm : ls.length ≤ 9223372036854775807) (hhi : hi ≤ w.heap.size) (hsl : Sl 1 vPat w lo hi AL ls) :
    Calls Try.prog 6 #[.slice AL ls.length cL] w fun e w' => ∃ v, e = .returned (.tuple #[v, .int .i64 (madeE ls)]) ∧ PatRes w w' v (madeN 6 ls) := by
  have hb : Below w.heap.size w (w.alloc (.cells #[.slice none 0 0] 25)) := (Below.refl _ _).alloc (Nat.le_refl _) _
  have hr : Row (w.alloc (.cells #[.slice none 0 0] 25)) w.heap.size 25 [.slice none 0 0] := Row.new w _ _
  have hbs := hb.size
  go_enter Try.func6, Try.ntmps6
  go_wp2_with fail
  refine (made_any 6 (show (Lit.int .u8 6).wf = true from rfl) AL cL lo hi ls _ hm (by omega) (hsl.below vPat_good hb hhi)).mono ?_
  rintro e w1 ⟨v, rfl, hp⟩
  obtain ⟨u, es, rfl, hp2⟩ := id hp
  obtain ⟨Au, cu, rfl, _, _⟩ := own_form hp2.1.row
  have hfin := hp.up hb (H := w.heap.size) (Nat.le_refl _) hr.lt (.slice Au es.length cu)
  have hr1 := hr.below hp2.2.2 hr.lt
  obtain ⟨c1, f1⟩ := hr1.cel (i := 0) rfl
  clear hp hp2 hr hbs
  go_wp2_with fail
  (try simp only [Exit.inBlock, Exit.then])
  refine bodyPost_ret (res_cell_tup (z := .int .i64 (madeE ls)) rfl _ _ w.heap.size _ rfl rfl (hr1.set_ 0 _)) rfl ?_
  exact ⟨_, rfl, hfin⟩

set_option maxHeartbeats 4000000 in
theorem or_any (AL : Option Addr) (cL lo hi : Nat) (ls : List (List Nd)) (w : World) (hm : ls.length ≤ 9223372036854775807) (hhi : hi ≤ w.heap.size) (hsl : Sl 1 vPat w lo hi AL ls) :
    Calls Try.prog 8 #[.slice AL ls.length cL] w fun e w' => ∃ v, e = .returned (.tuple #[v, .int .i64 (madeE ls)]) ∧ PatRes w w' v (madeN 7 ls) := by
  have hb : Below w.heap.size w (w.alloc (.cells #[.slice none 0 0] 25)) := (Below.refl _ _).alloc (Nat.le_refl _) _
  have hr : Row (w.alloc (.cells #[.slice none 0 0] 25)) w.heap.size 25 [.slice none 0 0] := Row.new w _ _
  have hbs := hb.size
  go_enter Try.func8, Try.ntmps8
  go_wp2_with fail
  refine (made_any 7 (show (Lit.int .u8 7).wf = true from rfl) AL cL lo hi ls _ hm (by omega) (hsl.below vPat_good hb hhi)).mono ?_
  rintro e w1 ⟨v, rfl, hp⟩
  obtain ⟨u, es, rfl, hp2⟩ := id hp
  obtain ⟨Au, cu, rfl, _, _⟩ := own_form hp2.1.row
  have hfin := hp.up hb (H := w.heap.size) (Nat.le_refl _) hr.lt (.slice Au es.length cu)
  have hr1 := hr.below hp2.2.2 hr.lt
  obtain ⟨c1, f1⟩ := hr1.cel (i := 0) rfl
  clear hp hp2 hr hbs
  go_wp2_with fail
  (try simp only [Exit.inBlock, Exit.then])
  refine bodyPost_ret (res_cell_tup (z := .int .i64 (madeE ls)) rfl _ _ w.heap.size _ rfl rfl (hr1.set_ 0 _)) rfl ?_
  exact ⟨_, rfl, hfin⟩

set_option maxHeartbeats 4000000 in
theorem seqR_any (AL : Option Addr) (cL lo hi : Nat) (ls : List (List Nd)) (w : World) (hm : ls.length ≤ 9223372036854775807) (hhi : hi ≤ w.heap.size) (hsl : Sl 1 vPat w lo hi AL ls) :
    Calls Try.prog 7 #[.slice AL ls.length cL] w fun e w' => ∃ v, e = .returned (.tuple #[v, .int .i64 (madeE ls)]) ∧ PatRes w w' v (madeN 6 ls) := by
  have hb : Below w.heap.size w (w.alloc (.cells #[.slice none 0 0] 25)) := (Below.refl _ _).alloc (Nat.le_refl _) _
  have hr : Row (w.alloc (.cells #[.slice none 0 0] 25)) w.heap.size 25 [.slice none 0 0] := Row.new w _ _
  have hbs := hb.size
  go_enter Try.func7, Try.ntmps7
  go_wp2_with fail
  refine (madeR_any 6 (show (Lit.int .u8 6).wf = true from rfl) AL cL lo hi ls _ hm (by omega) (hsl.below vPat_good hb hhi)).mono ?_
  rintro e w1 ⟨v, rfl, hp⟩
  obtain ⟨u, es, rfl, hp2⟩ := id hp
  obtain ⟨Au, cu, rfl, _, _⟩ := own_form hp2.1.row
  have hfin := hp.up hb (H := w.heap.size) (Nat.le_refl _) hr.lt (.slice Au es.length cu)
  have hr1 := hr.below hp2.2.2 hr.lt
  obtain ⟨c1, f1⟩ := hr1.cel (i := 0) rfl
  clear hp hp2 hr hbs
  go_wp2_with fail
  (try simp only [Exit.inBlock, Exit.then])
  refine bodyPost_ret (res_cell_tup (z := .int .i64 (madeE ls)) rfl _ _ w.heap.size _ rfl rfl (hr1.set_ 0 _)) rfl ?_
  exact ⟨_, rfl, hfin⟩

set_option maxHeartbeats 4000000 in
theorem orR_any (AL : Option Addr) (cL lo hi : Nat) (ls : List (List Nd)) (w : World) (hm : ls.length ≤ 9223372036854775807) (hhi : hi ≤ w.heap.size) (hsl : Sl 1 vPat w lo hi AL ls) :
    Calls Try.prog 9 #[.slice AL ls.length cL] w fun e w' => ∃ v, e = .returned (.tuple #[v, .int .i64 (madeE ls)]) ∧ PatRes w w' v (madeN 7 ls) := by
  have hb : Below w.heap.size w (w.alloc (.cells #[.slice none 0 0] 25)) := (Below.refl _ _).alloc (Nat.le_refl _) _
  have hr : Row (w.alloc (.cells #[.slice none 0 0] 25)) w.heap.size 25 [.slice none 0 0] := Row.new w _ _
  have hbs := hb.size
  go_enter Try.func9, Try.ntmps9
  go_wp2_with fail
  refine (madeR_any 7 (show (Lit.int .u8 7).wf = true from rfl) AL cL lo hi ls _ hm (by omega) (hsl.below vPat_good hb hhi)).mono ?_
  rintro e w1 ⟨v, rfl, hp⟩
  obtain ⟨u, es, rfl, hp2⟩ := id hp
  obtain ⟨Au, cu, rfl, _, _⟩ := own_form hp2.1.row
  have hfin := hp.up hb (H := w.heap.size) (Nat.le_refl _) hr.lt (.slice Au es.length cu)
  have hr1 := hr.below hp2.2.2 hr.lt
  obtain ⟨c1, f1⟩ := hr1.cel (i := 0) rfl
  clear hp hp2 hr hbs
  go_wp2_with fail
  (try simp only [Exit.inBlock, Exit.then])
  refine bodyPost_ret (res_cell_tup (z := .int .i64 (madeE ls)) rfl _ _ w.heap.size _ rfl rfl (hr1.set_ 0 _)) rfl ?_
  exact ⟨_, rfl, hfin⟩

set_option maxHeartbeats 4000000 in
theorem star_any (A : Option Addr) (c lo hi : Nat) (ns : List Nd) (w : World) (hc : ns.length ≤ c) (hcm : c ≤ maxLen) (hlo : lo ≤ w.heap.size) (hhi : hi ≤ w.heap.size) (hsl : Sl 5 vNd w lo hi A ns) :
    Calls Try.prog 10 #[.agg #[.slice A ns.length c]] w fun e w' => ∃ v, e = .returned (.tuple #[v, .int .i64 (madeE [ns])]) ∧ PatRes w w' v (madeN 8 [ns]) := by
  have hb : Below w.heap.size w (((w.alloc (.cells #[.slice A ns.length c] 25)).alloc (.cells #[.slice none 0 0] 25)).alloc (.cells #[.slice A ns.length c] 25)) := (((Below.refl _ _).alloc (Nat.le_refl _) _).alloc (by simp) _).alloc (by simp; omega) _
  have hr : Row (((w.alloc (.cells #[.slice A ns.length c] 25)).alloc (.cells #[.slice none 0 0] 25)).alloc (.cells #[.slice A ns.length c] 25)) (w.heap.size + 1) 25 [.slice none 0 0] := by
    have h := Row.new (w.alloc (.cells #[.slice A ns.length c] 25)) 25 [.slice none 0 0]
    simp only [World.size_alloc] at h
    exact h.alloc _
  have hrn : Row (((w.alloc (.cells #[.slice A ns.length c] 25)).alloc (.cells #[.slice none 0 0] 25)).alloc (.cells #[.slice A ns.length c] 25)) (w.heap.size + 1 + 1) 25 [.slice A ns.length c] := by
    have h := Row.new ((w.alloc (.cells #[.slice A ns.length c] 25)).alloc (.cells #[.slice none 0 0] 25)) 25 [.slice A ns.length c]
    simp only [World.size_alloc] at h
    exact h
  have hbs := hb.size
  have hl := hrn.lt
  have hs1 : Sl 1 vPat (((w.alloc (.cells #[.slice A ns.length c] 25)).alloc (.cells #[.slice none 0 0] 25)).alloc (.cells #[.slice A ns.length c] 25)) lo (w.heap.size + 3) (some ⟨w.heap.size + 1 + 1, 0, none⟩) [ns] := by
    refine hrn.sl rfl (by omega) (by omega) (fun i x v hx hv => ?_)
    match i, hx, hv with
    | 0, hx, hv =>
      simp only [List.getElem?_cons_zero, Option.some.injEq] at hx hv
      subst hx hv
      exact ⟨A, c, rfl, hc, hcm, (hsl.below vNd_good hb hhi).wide vNd_good (Nat.le_refl _) (by omega)⟩
  have hz : w.heap.size + 3 ≤ (((w.alloc (.cells #[.slice A ns.length c] 25)).alloc (.cells #[.slice none 0 0] 25)).alloc (.cells #[.slice A ns.length c] 25)).heap.size := by omega
  have hcall := made_any 8 (show (Lit.int .u8 8).wf = true from rfl) (some ⟨w.heap.size + 1 + 1, 0, none⟩) 1 lo (w.heap.size + 3) [ns] _ (by simp) hz hs1
  clear hrn hl hs1 hz
  go_enter Try.func10, Try.ntmps10
  go_wp2_with fail
  refine hcall.mono ?_
  rintro e w1 ⟨v, rfl, hp⟩
  obtain ⟨u, es, rfl, hp2⟩ := id hp
  obtain ⟨Au, cu, rfl, _, _⟩ := own_form hp2.1.row
  have hfin := hp.up hb (H := w.heap.size + 1) (by omega) hr.lt (.slice Au es.length cu)
  have hr1 := hr.below hp2.2.2 hr.lt
  obtain ⟨c1, f1⟩ := hr1.cel (i := 0) rfl
  clear hp hp2 hr hbs hcall
  go_wp2_with fail
  (try simp only [Exit.inBlock, Exit.then])
  refine bodyPost_ret (res_cell_tup (z := .int .i64 (madeE [ns])) rfl _ _ (w.heap.size + 1) _ rfl rfl (hr1.set_ 0 _)) rfl ?_
  exact ⟨_, rfl, hfin⟩

set_option maxHeartbeats 4000000 in
theorem opt_any (A : Option Addr) (c lo hi : Nat) (ns : List Nd) (w : World) (hc : ns.length ≤ c) (hcm : c ≤ maxLen) (hlo : lo ≤ w.heap.size) (hhi : hi ≤ w.heap.size) (hsl : Sl 5 vNd w lo hi A ns) :
    Calls Try.prog 12 #[.agg #[.slice A ns.length c]] w fun e w' => ∃ v, e = .returned (.tuple #[v, .int .i64 (madeE [ns])]) ∧ PatRes w w' v (madeN 9 [ns]) := by
  have hb : Below w.heap.size w (((w.alloc (.cells #[.slice A ns.length c] 25)).alloc (.cells #[.slice none 0 0] 25)).alloc (.cells #[.slice A ns.length c] 25)) := (((Below.refl _ _).alloc (Nat.le_refl _) _).alloc (by simp) _).alloc (by simp; omega) _
  have hr : Row (((w.alloc (.cells #[.slice A ns.length c] 25)).alloc (.cells #[.slice none 0 0] 25)).alloc (.cells #[.slice A ns.length c] 25)) (w.heap.size + 1) 25 [.slice none 0 0] := by
    have h := Row.new (w.alloc (.cells #[.slice A ns.length c] 25)) 25 [.slice none 0 0]
    simp only [World.size_alloc] at h
    exact h.alloc _
  have hrn : Row (((w.alloc (.cells #[.slice A ns.length c] 25)).alloc (.cells #[.slice none 0 0] 25)).alloc (.cells #[.slice A ns.length c] 25)) (w.heap.size + 1 + 1) 25 [.slice A ns.length c] := by
    have h := Row.new ((w.alloc (.cells #[.slice A ns.length c] 25)).alloc (.cells #[.slice none 0 0] 25)) 25 [.slice A ns.length c]
    simp only [World.size_alloc] at h
    exact h
  have hbs := hb.size
  have hl := hrn.lt
  have hs1 : Sl 1 vPat (((w.alloc (.cells #[.slice A ns.length c] 25)).alloc (.cells #[.slice none 0 0] 25)).alloc (.cells #[.slice A ns.length c] 25)) lo (w.heap.size + 3) (some ⟨w.heap.size + 1 + 1, 0, none⟩) [ns] := by
    refine hrn.sl rfl (by omega) (by omega) (fun i x v hx hv => ?_)
    match i, hx, hv with
    | 0, hx, hv =>
      simp only [List.getElem?_cons_zero, Option.some.injEq] at hx hv
      subst hx hv
      exact ⟨A, c, rfl, hc, hcm, (hsl.below vNd_good hb hhi).wide vNd_good (Nat.le_refl _) (by omega)⟩
  have hz : w.heap.size + 3 ≤ (((w.alloc (.cells #[.slice A ns.length c] 25)).alloc (.cells #[.slice none 0 0] 25)).alloc (.cells #[.slice A ns.length c] 25)).heap.size := by omega
  have hcall := made_any 9 (show (Lit.int .u8 9).wf = true from rfl) (some ⟨w.heap.size + 1 + 1, 0, none⟩) 1 lo (w.heap.size + 3) [ns] _ (by simp) hz hs1
  clear hrn hl hs1 hz
  go_enter Try.func12, Try.ntmps12
  go_wp2_with fail
  refine hcall.mono ?_
  rintro e w1 ⟨v, rfl, hp⟩
  obtain ⟨u, es, rfl, hp2⟩ := id hp
  obtain ⟨Au, cu, rfl, _, _⟩ := own_form hp2.1.row
  have hfin := hp.up hb (H := w.heap.size + 1) (by omega) hr.lt (.slice Au es.length cu)
  have hr1 := hr.below hp2.2.2 hr.lt
  obtain ⟨c1, f1⟩ := hr1.cel (i := 0) rfl
  clear hp hp2 hr hbs hcall
  go_wp2_with fail
  (try simp only [Exit.inBlock, Exit.then])
  refine bodyPost_ret (res_cell_tup (z := .int .i64 (madeE [ns])) rfl _ _ (w.heap.size + 1) _ rfl rfl (hr1.set_ 0 _)) rfl ?_
  exact ⟨_, rfl, hfin⟩

set_option maxHeartbeats 4000000 in
theorem starR_any (A : Option Addr) (c lo hi : Nat) (ns : List Nd) (w : World) (hc : ns.length ≤ c) (hcm : c ≤ maxLen) (hlo : lo ≤ w.heap.size) (hhi : hi ≤ w.heap.size) (hsl : Sl 5 vNd w lo hi A ns) :
    Calls Try.prog 11 #[.agg #[.slice A ns.length c]] w fun e w' => ∃ v, e = .returned (.tuple #[v, .int .i64 (madeE [ns])]) ∧ PatRes w w' v (madeN 8 [ns]) := by
  have hb : Below w.heap.size w (((w.alloc (.cells #[.slice A ns.length c] 25)).alloc (.cells #[.slice none 0 0] 25)).alloc (.cells #[.slice A ns.length c] 25)) := (((Below.refl _ _).alloc (Nat.le_refl _) _).alloc (by simp) _).alloc (by simp; omega) _
  have hr : Row (((w.alloc (.cells #[.slice A ns.length c] 25)).alloc (.cells #[.slice none 0 0] 25)).alloc (.cells #[.slice A ns.length c] 25)) (w.heap.size + 1) 25 [.slice none 0 0] := by
    have h := Row.new (w.alloc (.cells #[.slice A ns.length c] 25)) 25 [.slice none 0 0]
    simp only [World.size_alloc] at h
    exact h.alloc _
  have hrn : Row (((w.alloc (.cells #[.slice A ns.length c] 25)).alloc (.cells #[.slice none 0 0] 25)).alloc (.cells #[.slice A ns.length c] 25)) (w.heap.size + 1 + 1) 25 [.slice A ns.length c] := by
    have h := Row.new ((w.alloc (.cells #[.slice A ns.length c] 25)).alloc (.cells #[.slice none 0 0] 25)) 25 [.slice A ns.length c]
    simp only [World.size_alloc] at h
    exact h
  have hbs := hb.size
  have hl := hrn.lt
  have hs1 : Sl 1 vPat (((w.alloc (.cells #[.slice A ns.length c] 25)).alloc (.cells #[.slice none 0 0] 25)).alloc (.cells #[.slice A ns.length c] 25)) lo (w.heap.size + 3) (some ⟨w.heap.size + 1 + 1, 0, none⟩) [ns] := by
    refine hrn.sl rfl (by omega) (by omega) (fun i x v hx hv => ?_)
    match i, hx, hv with
    | 0, hx, hv =>
      simp only [List.getElem?_cons_zero, Option.some.injEq] at hx hv
      subst hx hv
      exact ⟨A, c, rfl, hc, hcm, (hsl.below vNd_good hb hhi).wide vNd_good (Nat.le_refl _) (by omega)⟩
  have hz : w.heap.size + 3 ≤ (((w.alloc (.cells #[.slice A ns.length c] 25)).alloc (.cells #[.slice none 0 0] 25)).alloc (.cells #[.slice A ns.length c] 25)).heap.size := by omega
  have hcall := madeR_any 8 (show (Lit.int .u8 8).wf = true from rfl) (some ⟨w.heap.size + 1 + 1, 0, none⟩) 1 lo (w.heap.size + 3) [ns] _ (by simp) hz hs1
  clear hrn hl hs1 hz
  go_enter Try.func11, Try.ntmps11
  go_wp2_with fail
  refine hcall.mono ?_
  rintro e w1 ⟨v, rfl, hp⟩
  obtain ⟨u, es, rfl, hp2⟩ := id hp
  obtain ⟨Au, cu, rfl, _, _⟩ := own_form hp2.1.row
  have hfin := hp.up hb (H := w.heap.size + 1) (by omega) hr.lt (.slice Au es.length cu)
  have hr1 := hr.below hp2.2.2 hr.lt
  obtain ⟨c1, f1⟩ := hr1.cel (i := 0) rfl
  clear hp hp2 hr hbs hcall
  go_wp2_with fail
  (try simp only [Exit.inBlock, Exit.then])
  refine bodyPost_ret (res_cell_tup (z := .int .i64 (madeE [ns])) rfl _ _ (w.heap.size + 1) _ rfl rfl (hr1.set_ 0 _)) rfl ?_
  exact ⟨_, rfl, hfin⟩

set_option maxHeartbeats 4000000 in
theorem optR_any (A : Option Addr) (c lo hi : Nat) (ns : List Nd) (w : World) (hc : ns.length ≤ c) (hcm : c ≤ maxLen) (hlo : lo ≤ w.heap.size) (hhi : hi ≤ w.heap.size) (hsl : Sl 5 vNd w lo hi A ns) :
    Calls Try.prog 13 #[.agg #[.slice A ns.length c]] w fun e w' => ∃ v, e = .returned (.tuple #[v, .int .i64 (madeE [ns])]) ∧ PatRes w w' v (madeN 9 [ns]) := by
  have hb : Below w.heap.size w (((w.alloc (.cells #[.slice A ns.length c] 25)).alloc (.cells #[.slice none 0 0] 25)).alloc (.cells #[.slice A ns.length c] 25)) := (((Below.refl _ _).alloc (Nat.le_refl _) _).alloc (by simp) _).alloc (by simp; omega) _
  have hr : Row (((w.alloc (.cells #[.slice A ns.length c] 25)).alloc (.cells #[.slice none 0 0] 25)).alloc (.cells #[.slice A ns.length c] 25)) (w.heap.size + 1) 25 [.slice none 0 0] := by
    have h := Row.new (w.alloc (.cells #[.slice A ns.length c] 25)) 25 [.slice none 0 0]
    simp only [World.size_alloc] at h
    exact h.alloc _
  have hrn : Row (((w.alloc (.cells #[.slice A ns.length c] 25)).alloc (.cells #[.slice none 0 0] 25)).alloc (.cells #[.slice A ns.length c] 25)) (w.heap.size + 1 + 1) 25 [.slice A ns.length c] := by
    have h := Row.new ((w.alloc (.cells #[.slice A ns.length c] 25)).alloc (.cells #[.slice none 0 0] 25)) 25 [.slice A ns.length c]
    simp only [World.size_alloc] at h
    exact h
  have hbs := hb.size
  have hl := hrn.lt
  have hs1 : Sl 1 vPat (((w.alloc (.cells #[.slice A ns.length c] 25)).alloc (.cells #[.slice none 0 0] 25)).alloc (.cells #[.slice A ns.length c] 25)) lo (w.heap.size + 3) (some ⟨w.heap.size + 1 + 1, 0, none⟩) [ns] := by
    refine hrn.sl rfl (by omega) (by omega) (fun i x v hx hv => ?_)
    match i, hx, hv with
    | 0, hx, hv =>
      simp only [List.getElem?_cons_zero, Option.some.injEq] at hx hv
      subst hx hv
      exact ⟨A, c, rfl, hc, hcm, (hsl.below vNd_good hb hhi).wide vNd_good (Nat.le_refl _) (by omega)⟩
  have hz : w.heap.size + 3 ≤ (((w.alloc (.cells #[.slice A ns.length c] 25)).alloc (.cells #[.slice none 0 0] 25)).alloc (.cells #[.slice A ns.length c] 25)).heap.size := by omega
  have hcall := madeR_any 9 (show (Lit.int .u8 9).wf = true from rfl) (some ⟨w.heap.size + 1 + 1, 0, none⟩) 1 lo (w.heap.size + 3) [ns] _ (by simp) hz hs1
  clear hrn hl hs1 hz
  go_enter Try.func13, Try.ntmps13
  go_wp2_with fail
  refine hcall.mono ?_
  rintro e w1 ⟨v, rfl, hp⟩
  obtain ⟨u, es, rfl, hp2⟩ := id hp
  obtain ⟨Au, cu, rfl, _, _⟩ := own_form hp2.1.row
  have hfin := hp.up hb (H := w.heap.size + 1) (by omega) hr.lt (.slice Au es.length cu)
  have hr1 := hr.below hp2.2.2 hr.lt
  obtain ⟨c1, f1⟩ := hr1.cel (i := 0) rfl
  clear hp hp2 hr hbs hcall
  go_wp2_with fail
  (try simp only [Exit.inBlock, Exit.then])
  refine bodyPost_ret (res_cell_tup (z := .int .i64 (madeE [ns])) rfl _ _ (w.heap.size + 1) _ rfl rfl (hr1.set_ 0 _)) rfl ?_
  exact ⟨_, rfl, hfin⟩
end Go.Proofs.Ytlanjpickjndlaa
