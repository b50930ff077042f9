/- PatternMakes: whatever patterns are put together, starred, turned and compared, the program answers as the document does, in new memory, and the patterns stay. Conditions: the arguments are together of bulk at most 1048576 (the second form). -/
import Derived.Test.YtlanjpickjndlaaLawWalk
import Derived.Test.YtlanjpickjndlaaLaw
import Derived.JoinedCond
namespace Go.Proofs.Ytlanjpickjndlaa.patternMakes
open Go.ChangeShapes Go.WideShapes Go.ChangeAt Go.RowKit
set_option linter.unusedVariables false

theorem own : ownKnob Try.prog.godebug = none := by kernel_rfl
theorem laidOut : laidOutB Try.prog = true := by kernel_rfl

theorem mem_sum {α : Type} {f : α → Nat} {x : α} : ∀ {l : List α}, x ∈ l → f x ≤ (l.map f).sum
  | y :: l, h => by
    rw [List.map_cons, List.sum_cons]
    rcases List.mem_cons.1 h with rfl | h
    · omega
    · have := mem_sum (f := f) h
      omega
theorem kids_small {x : Nd} : x.kids.length ≤ tNd.m x := by
  have h : (x.kids.map (tInt .i64).m).sum = x.kids.length := by
    induction x.kids with
    | nil => rfl
    | cons a l ih => rw [List.map_cons, List.sum_cons, ih, List.length_cons]; show 1 + _ = _; omega
  show _ ≤ (tInt .u8).m x.kind + (tInt .i32).m x.rune + (tInt .u32).m x.plus + (tInt .u32).m x.minus + ((x.kids.map (tInt .i64).m).sum + 1) + 1
  omega
theorem pat_small {l : List Nd} {x : Nd} (h : x ∈ l) : x.kids.length ≤ tPat.m l := by
  have h1 := mem_sum (f := tNd.m) h
  have h2 := kids_small (x := x)
  show _ ≤ ((l.map tNd.m).sum + 1) + 1
  omega

set_option maxRecDepth 100000 in
theorem contract (H : Type) (enc : TypeId × Value → H) (W : World) (base : Nat) (args : Array Value) (ds gs : List (DataW H)) (before : List MemPlace)
    (hval : ∀ (j : Nat) t v, Try.f3.params[j]? = some t → args[j]? = some v → Value.okWide Try.prog W .any base t v)
    (hW : DataW.Whole enc Try.prog Try.f3.params.toList Rows.patternMakesSpec.vars false W args.toList ds gs before) (hk : Rows.uptoSmall H (ds ++ gs) = true) :
    Calls Try.prog 3 args W fun e W' => ∃ v, e = .returned v ∧ Rows.patternMakesSpec.post enc Try.prog Try.f3 false true false false W args v W' := by
  have hW' := hW
  have hfr := free_of_whole hW
  obtain ⟨p, q, hA0, hV, rfl, hfz, hnd⟩ := hW
  have hA : DataW.TrodAll enc Try.prog W 0 (fun _ => true) true Try.f3.params.toList args.toList ds p := hA0
  rw [Try.params3] at hA hval
  obtain ⟨v0, vs0, d0, ds0, p0, q0, hargs, rfl, rfl, h0, r0⟩ := trodAll_cons hA
  obtain ⟨v1, vs1, d1, ds1, p1, q1, rfl, rfl, rfl, h1, r1⟩ := trodAll_cons r0
  obtain ⟨v2, vs2, d2, ds2, p2, q2, rfl, rfl, rfl, h2, r2⟩ := trodAll_cons r1
  obtain ⟨v3, vs3, d3, ds3, p3, q3, rfl, rfl, rfl, h3, r3⟩ := trodAll_cons r2
  obtain ⟨v4, vs4, d4, ds4, p4, q4, rfl, rfl, rfl, h4, r4⟩ := trodAll_cons r3
  obtain ⟨rfl, rfl, rfl⟩ := trodAll_nil r4
  obtain rfl : args = #[v0, v1, v2, v3, v4] := by cases args; simp_all
  obtain ⟨rfl, rfl⟩ := trodVars_none hV
  have hB : Rows.uptoBulkAll [d0, d1, d2, d3, d4] ≤ 1048576 := of_decide_eq_true hk
  simp only [Rows.uptoBulkAll] at hB
  have ho : Opens enc Try.prog W 22 (tSl 24 tPat) := opens_slice (enc := enc) (w := W) Try.underlying22 (by kernel_rfl) (by kernel_rfl) (by decide) (opens_Pat (enc := enc) (w := W))
  obtain ⟨AL, cL, ls, rfl, hcL, hcLm, hslL, hmL, _⟩ := ho.slice_arg Try.underlying22 (hval 0 22 v0 rfl rfl) h0 hfr.left.left
  obtain ⟨cs, ps, rfl, hvP, hmP, _⟩ := (opens_Pat (enc := enc) (w := W)).struct_arg Try.underlying25 (hval 1 25 v1 rfl rfl) h1 hfr.left.right.left
  obtain ⟨r, rfl, hr⟩ := Opens.int_arg Try.underlying21 (hval 2 21 v2 rfl rfl) h2
  obtain ⟨pl, rfl, hpl⟩ := Opens.int_arg Try.underlying26 (hval 3 26 v3 rfl rfl) h3
  obtain ⟨mi, rfl, hmi⟩ := Opens.int_arg Try.underlying26 (hval 4 26 v4 rfl rfl) h4
  obtain ⟨AP, cP, hcs, hcP, hcPm, hslP⟩ := hvP
  obtain rfl : cs = #[.slice AP ps.length cP] := by cases cs; simp_all
  refine (law_walk AL AP cL cP ls ps r pl mi W hcL hcLm hcP hcPm hslL hslP (fun l hl x hx => ?_) (fun x hx => ?_) hr hpl hmi).mono fun e W' ⟨he, hb⟩ => ?_
  · have h1 := pat_small hx
    have h2 := mem_sum (f := tPat.m) hl
    omega
  · have h1 := pat_small hx
    omega
  · subst he
    exact ⟨_, rfl, post_true laidOut (by rw [Try.params3]; intro t ht; simp only [List.mem_cons, List.not_mem_nil, or_false] at ht; rcases ht with rfl | rfl | rfl | rfl | rfl <;> exact ⟨by kernel_rfl, of_decide_eq_true (by kernel_rfl)⟩) (by kernel_rfl) Try.underlying4 rfl ⟨rfl, rfl, rfl⟩ hW' hb⟩

set_option maxRecDepth 100000 in
theorem lifted (os : Os) (started : os.Started) (H : Type) (enc : TypeId × Value → H) (F : Stop.Interp) :
    ReturnsInHanded {} Try.checked os 3 .any ((Rows.OpenSpec.upto Rows.patternMakesSpec).pre6 enc Try.prog Try.f3 Rows.patternMakesUptoRow.domain false) (((Rows.OpenSpec.upto Rows.patternMakesSpec).at F).post enc Try.prog Try.f3 false true false false) := by
  refine returnsInHanded_of_cond (C := Try.checked) (s := Rows.OpenSpec.upto Rows.patternMakesSpec) (k := Rows.uptoSmall) rfl own started (by kernel_rfl) Try.func3
    (OpenSpec.witness (enc := enc) (C := Try.checked) (s := Rows.OpenSpec.upto Rows.patternMakesSpec) (k := Rows.uptoSmall) rfl false ⟨#[], #[.slice none 0 0, .agg #[.slice none 0 0], .int .i32 0, .int .u32 0, .int .u32 0], []⟩ 8 (by kernel_rfl) (by kernel_rfl) (by kernel_rfl)
      (x := ([.nil, .agg [.nil], .lit (.int .i32 0), .lit (.int .u32 0), .lit (.int .u32 0)], [], [])) (by kernel_rfl) rfl (by kernel_rfl)) ?_
  intro W base args ds gs before hval hW _ hk _
  exact contract H enc W base args ds gs before hval hW hk

theorem over : Rows.patternMakesUptoRow.holds Try.pinned (Rows.OpenSpec.upto Rows.patternMakesSpec) :=
  OpenClaim.holds_of_cond 3 Try.f3 rfl rfl rfl rfl rfl rfl rfl ⟨rfl, rfl, rfl, rfl, rfl⟩ rfl rfl rfl rfl rfl (by kernel_rfl) Try.func3 (by kernel_rfl)
    (of_decide_eq_true (by kernel_rfl)) (by unfold Func.isWrapper; first | (rw [if_pos (by decide +kernel)]; kernel_rfl) | (rw [if_neg (by decide +kernel)]; exact ⟨rfl, rfl⟩))
    (fun os started H enc _ F => lifted os started H enc F)

theorem proved : Rows.PatternMakesUptoSaid := over
#print axioms proved
end Go.Proofs.Ytlanjpickjndlaa.patternMakes
