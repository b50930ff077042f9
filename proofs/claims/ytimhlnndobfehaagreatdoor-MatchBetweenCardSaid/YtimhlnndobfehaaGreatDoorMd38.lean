/- MatchBetween: for every alphabet, two patterns, a word and two numbers, Between gives what the document's Between gives, with the same error. Conditions: unicode/utf8's two tables are as their text lays them (the card ties them). -/
import Derived.Test.YtimhlnndobfehaaGreatDoorCards
import Derived.Test.YtimhlnndobfehaaGreatDoorTie
import Derived.Test.YtimhlnndobfehaaGreatDoorMd01
import Derived.Test.YtimhlnndobfehaaGreatDoorMd37
namespace Go.Proofs.YtimhlnndobfehaaGreatDoor.matchBetween
open Go.ChangeShapes Go.WideShapes Go.ChangeAt Go.RowKit
set_option linter.unusedVariables false

set_option maxRecDepth 100000 in
theorem contract (H : Type) (enc : TypeId × Value → H) (W : World) (base : Nat) (args : Array Value) (ds gs : List (DataW H)) (before : List MemPlace)
    (hval : ∀ (j : Nat) t v, Tryz.f6.params[j]? = some t → args[j]? = some v → Value.okWide Tryz.prog W .any base t v)
    (hW : DataW.Whole enc Tryz.prog Tryz.f6.params.toList Rows.matchBetweenSpec.vars false W args.toList ds gs before) (hL : laidMetH Tryz.prog utf8List W) :
    Calls Tryz.prog 6 args W fun e W' => ∃ v, e = .returned v ∧ Rows.matchBetweenSpec.post enc Tryz.prog Tryz.f6 false true false false W args v W' := by
  have hW' := hW
  have hfr := free_of_whole hW
  obtain ⟨p, q, hA0, hV, rfl, hfz, hnd⟩ := hW
  have hA : DataW.TrodAll enc Tryz.prog W 0 (fun _ => true) true Tryz.f6.params.toList args.toList ds p := hA0
  rw [Tryz.params6] at hA hval
  obtain ⟨v0, vs0, d0, ds0, p0, q0, hargs, rfl, rfl, h0, r0⟩ := trodAll_cons hA
  obtain ⟨v1, vs1, d1, ds1, p1, q1, rfl, rfl, rfl, h1, r1⟩ := trodAll_cons r0
  obtain ⟨v2, vs2, d2, ds2, p2, q2, rfl, rfl, rfl, h2, r2⟩ := trodAll_cons r1
  obtain ⟨v3, vs3, d3, ds3, p3, q3, rfl, rfl, rfl, h3, r3⟩ := trodAll_cons r2
  obtain ⟨v4, vs4, d4, ds4, p4, q4, rfl, rfl, rfl, h4, r4⟩ := trodAll_cons r3
  obtain ⟨v5, vs5, d5, ds5, p5, q5, rfl, rfl, rfl, h5, r5⟩ := trodAll_cons r4
  obtain ⟨rfl, rfl, rfl⟩ := trodAll_nil r5
  obtain rfl : args = #[v0, v1, v2, v3, v4, v5] := by cases args; simp_all
  obtain ⟨rfl, rfl⟩ := trodVars_none hV
  obtain ⟨cs0, a, rfl, hva, _, _⟩ := (opens_Al (enc := enc) (w := W)).struct_arg Tryz.underlying25 (hval 0 25 v0 rfl rfl) h0 hfr.left.left
  obtain ⟨A1a, c1a, A2a, c2a, hcs0, ha⟩ := al_cells hva
  obtain rfl : cs0 = #[.slice A1a a.feats.length c1a, .slice A2a a.lets.length c2a] := by cases cs0; simp_all
  obtain ⟨cs1, u, rfl, hvu, _, _⟩ := (opens_Pat (enc := enc) (w := W)).struct_arg Tryz.underlying28 (hval 1 28 v1 rfl rfl) h1 hfr.left.right.left
  obtain ⟨Au, cu, hcs1, hlcu, hcmu, hu⟩ := hvu
  obtain rfl : cs1 = #[.slice Au u.length cu] := by cases cs1; simp_all
  obtain ⟨cs2, v, rfl, hvv, _, _⟩ := (opens_Pat (enc := enc) (w := W)).struct_arg Tryz.underlying28 (hval 2 28 v2 rfl rfl) h2 hfr.left.right.right.left
  obtain ⟨Av, cv, hcs2, hlcv, hcmv, hv⟩ := hvv
  obtain rfl : cs2 = #[.slice Av v.length cv] := by cases cs2; simp_all
  obtain ⟨x, rfl, hx, _, _⟩ := Opens.str_arg Tryz.underlying9 (hval 3 9 v3 rfl rfl) h3
  obtain ⟨f, rfl, hf⟩ := Opens.int_arg Tryz.underlying3 (hval 4 3 v4 rfl rfl) h4
  obtain ⟨t, rfl, ht⟩ := Opens.int_arg Tryz.underlying3 (hval 5 3 v5 rfl rfl) h5
  refine (mbetween_walk A1a A2a Au Av c1a c2a cu cv a u v x f t W ha (tabs_laid hL) hu hv (by unfold maxLen at hcmu; omega) (by unfold maxLen at hcmv; omega) hx).mono fun e W' ⟨he, hb⟩ => ?_
  subst he
  exact ⟨_, rfl, post_true laidOut (by rw [Tryz.params6]; intro t ht; simp only [List.mem_cons, List.not_mem_nil, or_false] at ht; rcases ht with rfl | rfl | rfl | rfl | rfl | rfl <;> exact ⟨by kernel_rfl, of_decide_eq_true (by kernel_rfl)⟩) (by kernel_rfl) Tryz.underlying4 rfl ⟨rfl, rfl, rfl⟩ hW' hb⟩

theorem reads (os : Os) {H : Type} (enc : TypeId × Value → H) : ∃ places, DataW.whole enc Tryz.prog ((laidWorld os).forCall (fun _ _ => 0) ⟨#[], #[.agg #[.slice none 0 0, .slice none 0 0], .agg #[.slice none 0 0], .agg #[.slice none 0 0], .string ⟨#[]⟩, .int .i64 0, .int .i64 0], []⟩).memory Tryz.f6.params.toList Rows.matchBetweenSpec.vars false #[Value.agg #[.slice none 0 0, .slice none 0 0], .agg #[.slice none 0 0], .agg #[.slice none 0 0], .string ⟨#[]⟩, .int .i64 0, .int .i64 0].toList 8 = some ([.agg [.nil, .nil], .agg [.nil], .agg [.nil], .lit (.string []), .lit (.int .i64 0), .lit (.int .i64 0)], [], places) :=
  ⟨[], by kernel_rfl⟩

set_option maxRecDepth 100000 in
theorem lifted (os : Os) (started : os.Started) (H : Type) (enc : TypeId × Value → H) (F : Stop.Interp) :
    ReturnsInHanded {} Tryz.checked os 6 .any ((OpenSpec.ofChange Rows.matchBetweenSpec).preRow enc Tryz.prog Tryz.f6 Rows.matchBetweenRow.domain false Rows.matchBetweenRow.laid) (((OpenSpec.ofChange Rows.matchBetweenSpec).at F).post enc Tryz.prog Tryz.f6 false true false false) := by
  obtain ⟨places, hx⟩ := reads os enc
  refine returnsInHanded_of_row (C := Tryz.checked) (s := OpenSpec.ofChange Rows.matchBetweenSpec) own started (by kernel_rfl) Tryz.func6
    (witness_row_at (enc := enc) (C := Tryz.checked) false (laidWorld os) #[.agg #[.slice none 0 0, .slice none 0 0], .agg #[.slice none 0 0], .agg #[.slice none 0 0], .string ⟨#[]⟩, .int .i64 0, .int .i64 0] rfl (by kernel_rfl) (by kernel_rfl) (by kernel_rfl)
      (OpenSpec.preRow_of_cond 8 hx (by kernel_rfl) (fun k hk => by cases hk) (by kernel_rfl) (laid_met os _))) ?_
  intro W base args ds gs before hval hW _ _ _ hL _ _
  exact contract H enc W base args ds gs before hval hW hL

theorem said : Rows.MatchBetweenSaid :=
  OpenClaim.holds_of_cond 6 Tryz.f6 rfl rfl rfl rfl rfl rfl rfl ⟨rfl, rfl, rfl, rfl, rfl⟩ rfl rfl rfl rfl rfl (by kernel_rfl) Tryz.func6 (by kernel_rfl)
    (of_decide_eq_true (by kernel_rfl)) (by unfold Func.isWrapper; first | (rw [if_pos (by decide +kernel)]; kernel_rfl) | (rw [if_neg (by decide +kernel)]; exact ⟨rfl, rfl⟩))
    (fun os started H enc _ F => by rw [OpenClaim.pre_eq_preRow]; exact lifted os started H enc F)

/-- No parameter wants a stand-in; whether the program looks. -/
theorem plain (f : FuncId) (fn : Func) (hf : Tryz.pinned.checked.prog.funcNamed "cognate/cognatelaw05.MatchBetween" = some f) (hfn : Tryz.pinned.checked.prog.funcs[f]? = some fn) :
    true = Tryz.pinned.checked.prog.looks [] ∧ ∀ (j : Nat) t, fn.params[j]? = some t → Tryz.pinned.checked.prog.wantsStandIn t = false := by
  obtain rfl : f = 6 := Option.some.inj ((show Tryz.prog.funcNamed "cognate/cognatelaw05.MatchBetween" = some 6 by kernel_rfl).symm.trans hf) |>.symm
  obtain rfl : fn = Tryz.f6 := (Option.some.inj (Tryz.func6.symm.trans hfn)).symm
  refine ⟨by kernel_rfl, fun j t ht => ?_⟩
  rw [Tryz.params6] at ht
  have hm := Array.mem_of_getElem? ht
  simp only [List.mem_toArray, List.mem_cons, List.not_mem_nil, or_false] at hm
  rcases hm with rfl | rfl | rfl | rfl | rfl | rfl
  · exact (show Tryz.prog.wantsStandIn 25 = false by kernel_rfl)
  · exact (show Tryz.prog.wantsStandIn 28 = false by kernel_rfl)
  · exact (show Tryz.prog.wantsStandIn 28 = false by kernel_rfl)
  · exact (show Tryz.prog.wantsStandIn 9 = false by kernel_rfl)
  · exact (show Tryz.prog.wantsStandIn 3 = false by kernel_rfl)
  · exact (show Tryz.prog.wantsStandIn 3 = false by kernel_rfl)

theorem proved : Rows.MatchBetweenCardSaid :=
  Claim7.holds_tied_plain_at .later [] _ _ _ _ said (fun _ h => by cases h) (by kernel_rfl) (fun _ h => by cases h) matchBetween_row_tie rfl ⟨rfl, rfl⟩ (by kernel_rfl) rfl plain (by kernel_rfl)
#print axioms proved
end Go.Proofs.YtimhlnndobfehaaGreatDoor.matchBetween
