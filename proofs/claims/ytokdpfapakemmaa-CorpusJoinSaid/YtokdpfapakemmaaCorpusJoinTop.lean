/- CorpusJoin: for every text and every list of tokens the program joins as the document says, and the tokens stay. Conditions: none beyond the form's own reach. -/
import Derived.Test.YtokdpfapakemmaaCorpusJoin
import Derived.SizedLaws
namespace Go.Proofs.Ytokdpfapakemmaa.corpusJoin
open Go.ChangeShapes Go.WideShapes Go.ChangeAt Go.RowKit
set_option linter.unusedVariables false

theorem own : ownKnob Try.prog.godebug = none := by kernel_rfl
theorem laidOut : laidOutB Try.prog = true := by kernel_rfl

set_option maxRecDepth 100000 in
theorem contract (H : Type) (enc : TypeId × Value → H) (W : World) (base : Nat) (args : Array Value) (ds gs : List (DataW H)) (before : List MemPlace)
    (hval : ∀ (j : Nat) t v, Try.f3.params[j]? = some t → args[j]? = some v → Value.okWide Try.prog W .any base t v)
    (hW : DataW.Whole enc Try.prog Try.f3.params.toList Rows.corpusJoinSpec.vars false W args.toList ds gs before)
    (hz : (DataW.weightsEach Try.prog (Try.f3.params.toList ++ Rows.corpusJoinSpec.plain.varTypes Try.prog) (ds ++ gs)).all (· ≤ reachBytes) = true) :
    Calls Try.prog 3 args W fun e W' => ∃ v, e = .returned v ∧ Rows.corpusJoinSpec.post enc Try.prog Try.f3 false true false false W args v W' := by
  have hW' := hW
  have hfr := free_of_whole hW
  obtain ⟨p, q, hA0, hV, rfl, hfz, hnd⟩ := hW
  have hA : DataW.TrodAll enc Try.prog W 0 (fun _ => true) true Try.f3.params.toList args.toList ds p := hA0
  rw [Try.params3] at hA hval hz
  obtain ⟨v0, vs0, d0, ds0, p0, q0, hargs, rfl, rfl, h0, r0⟩ := trodAll_cons hA
  obtain ⟨v1, vs1, d1, ds1, p1, q1, rfl, rfl, rfl, h1, r1⟩ := trodAll_cons r0
  obtain ⟨rfl, rfl, rfl⟩ := trodAll_nil r1
  obtain rfl : args = #[v0, v1] := by cases args; simp_all
  obtain ⟨rfl, rfl⟩ := trodVars_none hV
  have hvt : Rows.corpusJoinSpec.plain.varTypes Try.prog = [] := rfl
  rw [hvt] at hz
  have hz' : ∀ n ∈ DataW.weightsEach Try.prog [9, 22] [d0, d1], n ≤ reachBytes := by
    intro n hn
    have := List.all_eq_true.1 hz n (by simpa using hn)
    simpa using this
  obtain ⟨s, rfl, hm, _, hq0⟩ := Opens.str_arg Try.underlying9 (hval 0 9 v0 rfl rfl) h0
  have ho : Opens enc Try.prog W 22 (tSl 40 tTok) := opens_slice (enc := enc) (w := W) Try.underlying22 (by kernel_rfl) (by kernel_rfl) (by decide) (opens_Tk (enc := enc) (w := W))
  obtain ⟨A, c, l, rfl, hlc, hcm, hsl, _, hq1⟩ := ho.slice_arg Try.underlying22 (hval 1 22 v1 rfl rfl) h1 hfr.left.right.left
  obtain ⟨hq1, hq2⟩ := hq1 (fun n hn => hz' n (weights_each 1 rfl rfl hn))
  have hreach : reachBytes = 140737488351232 := by decide
  rw [hreach] at hq1
  refine (law_walk s A c l W hm (by omega) (hsl.map vTok_of) (fun t ht => ?_)).mono fun e W' ⟨he, hb⟩ => ?_
  · have := (hq2 t ht).2.2.1
    simp only [tStr] at this
    rw [hreach] at this
    omega
  · subst he
    exact ⟨_, rfl, post_true laidOut (by rw [Try.params3]; intro t ht; simp only [List.mem_cons, List.not_mem_nil, or_false] at ht; rcases ht with rfl | rfl <;> exact ⟨by kernel_rfl, of_decide_eq_true (by kernel_rfl)⟩) (by kernel_rfl) Try.underlying4 rfl ⟨rfl, rfl, rfl⟩ hW' hb⟩

set_option maxRecDepth 100000 in
theorem lifted (os : Os) (started : os.Started) (H : Type) (enc : TypeId × Value → H) :
    ReturnsInHanded {} Try.checked os 3 .any (Rows.corpusJoinSpec.pre6 enc Try.prog Try.f3 Rows.corpusJoinRow.domain false) (Rows.corpusJoinSpec.post enc Try.prog Try.f3 false true false false) := by
  refine returnsInHanded_of_change_sized (C := Try.checked) own started (by kernel_rfl) Try.func3
    (ChangeSpec.witness6 (enc := enc) (C := Try.checked) false ⟨#[], #[.string ⟨#[]⟩, .slice none 0 0], []⟩ 8 (by kernel_rfl) (by kernel_rfl) (by kernel_rfl) (by kernel_rfl)) ?_
  intro W base args ds gs before hval hW _ hz _
  exact contract H enc W base args ds gs before hval hW hz

theorem over : Rows.corpusJoinRow.holds Try.pinned (OpenSpec.ofChange Rows.corpusJoinSpec) :=
  OpenClaim.holds_of_wide 3 Try.f3 rfl rfl rfl rfl rfl rfl rfl ⟨rfl, rfl, rfl, rfl, rfl⟩ rfl rfl rfl rfl rfl (by kernel_rfl) Try.func3 (by kernel_rfl)
    (of_decide_eq_true (by kernel_rfl)) (by unfold Func.isWrapper; first | (rw [if_pos (by decide +kernel)]; kernel_rfl) | (rw [if_neg (by decide +kernel)]; exact ⟨rfl, rfl⟩))
    (fun os started H enc _ => lifted os started H enc)

theorem proved : Rows.CorpusJoinSaid := over
#print axioms proved
end Go.Proofs.Ytokdpfapakemmaa.corpusJoin
