/- MatchAll: for every alphabet, pattern and word, All is the longest spans one after another and First is its first. Conditions: unicode/utf8's two tables are as their text lays them (the card ties them). -/
import Derived.Test.YtimhlnndobfehaaDoorMc06
import Derived.Test.YtimhlnndobfehaaDoorMc02
import Derived.Test.YtimhlnndobfehaaDoorCards
import Derived.Test.YtimhlnndobfehaaDoorTie
import Derived.Test.YtimhlnndobfehaaDoorMc38
namespace Go.Proofs.YtimhlnndobfehaaDoor
open Go.ChangeShapes Go.WideShapes Go.RowKit
set_option linter.unusedVariables false

def tLt : Ty Lt := ⟨3, vLt, fun _ => 4, fun _ => True⟩
set_option maxRecDepth 100000 in
theorem opens_Lt {H : Type} {enc : TypeId × Value → H} {w : World} : Opens enc Tryd.prog w 89 tLt := by
  refine ⟨by kernel_rfl, vLt_good, fun {fuel cs x ps} h hf => ?_⟩
  obtain ⟨ys, n, _, hx, hlen, hyl, hfs⟩ := DataW.trod_struct Tryd.underlying89 h
  have hlen' : cs.length = 3 := hlen.trans (by kernel_rfl)
  match cs, hlen', ys, hyl with
  | [c0, c1, c2], _, [y0, y1, y2], _ =>
    simp only [Prod.mk.injEq] at hx
    obtain ⟨rfl, rfl⟩ := hx
    have g0 := hfs 0 _ rfl
    have g1 := hfs 1 _ rfl
    have g2 := hfs 2 _ rfl
    have o0 := (opens_int Tryd.underlying21 (by kernel_rfl) : Opens enc Tryd.prog w _ _)
    have e0 : Tryd.prog.cellsOf _ = 1 := o0.size
    obtain ⟨a0, ⟨p0, k0⟩, _, m0, _⟩ := o0.cells (cs := [c0]) (x := y0.1) (ps := y0.2) (by simpa [e0] using g0) (fun b o hm => hf b o (List.mem_flatMap.2 ⟨y0, by simp, hm⟩))
    have o1 := (opens_int Tryd.underlying41 (by kernel_rfl) : Opens enc Tryd.prog w _ _)
    have e1 : Tryd.prog.cellsOf _ = 1 := o1.size
    obtain ⟨a1, ⟨p1, k1⟩, _, m1, _⟩ := o1.cells (cs := [c1]) (x := y1.1) (ps := y1.2) (by simpa [e1] using g1) (fun b o hm => hf b o (List.mem_flatMap.2 ⟨y1, by simp, hm⟩))
    obtain ⟨a2, ⟨p2, k2⟩, _, m2, _⟩ := o1.cells (cs := [c2]) (x := y2.1) (ps := y2.2) (by simpa [e1] using g2) (fun b o hm => hf b o (List.mem_flatMap.2 ⟨y2, by simp, hm⟩))
    have k1 := kin_u32 k1
    have k2 := kin_u32 k2
    have n1 : ((a1.toNat : Nat) : Int) = a1 := Int.toNat_of_nonneg k1.1
    have n2 : ((a2.toNat : Nat) : Int) = a2 := Int.toNat_of_nonneg k2.1
    simp only [List.cons.injEq, and_true] at p0 p1 p2
    refine ⟨⟨a0, a1.toNat, a2.toNat⟩, ⟨by rw [p0, p1, p2, n1, n2], k0, by show a1.toNat < _; omega, by show a2.toNat < _; omega⟩, rfl, ?_, fun _ => trivial⟩
    simp only [tLt, tInt, List.map_cons, List.map_nil, Rows.uptoBulk, Rows.uptoBulkAll] at m0 m1 m2 ⊢
    omega

def vAl : Rep Al := fun w lo hi cs x => ∃ c0 c1, cs = [c0, c1] ∧ vSl 1 vStr w lo hi [c0] x.feats ∧ vSl 3 vLt w lo hi [c1] x.lets
theorem vAl_good : vAl.Good :=
  ⟨fun k ⟨c0, c1, e, h0, h1⟩ => ⟨c0, c1, e, (vSl_good vStr_good).keep k h0, (vSl_good vLt_good).keep k h1⟩, fun a b ⟨c0, c1, e, h0, h1⟩ => ⟨c0, c1, e, (vSl_good vStr_good).wide a b h0, (vSl_good vLt_good).wide a b h1⟩⟩
def tAl : Ty Al := ⟨2, vAl, fun x => (tSl 16 tStr).m x.feats + (tSl 12 tLt).m x.lets + 1, fun x => (tSl 16 tStr).Q x.feats ∧ (tSl 12 tLt).Q x.lets⟩
set_option maxRecDepth 100000 in
theorem opens_Al {H : Type} {enc : TypeId × Value → H} {w : World} : Opens enc Tryd.prog w 25 tAl := by
  refine ⟨by kernel_rfl, vAl_good, fun {fuel cs x ps} h hf => ?_⟩
  obtain ⟨ys, n, _, hx, hlen, hyl, hfs⟩ := DataW.trod_struct Tryd.underlying25 h
  have hlen' : cs.length = 2 := hlen.trans (by kernel_rfl)
  match cs, hlen', ys, hyl with
  | [c0, c1], _, [y0, y1], _ =>
    simp only [Prod.mk.injEq] at hx
    obtain ⟨rfl, rfl⟩ := hx
    have g0 := hfs 0 _ rfl
    have g1 := hfs 1 _ rfl
    have o0 : Opens enc Tryd.prog w _ (tSl 16 tStr) := opens_slice Tryd.underlying22 (by kernel_rfl) (by kernel_rfl) (by decide) (opens_str Tryd.underlying9 (by kernel_rfl))
    have e0 : Tryd.prog.cellsOf _ = 1 := o0.size
    obtain ⟨a0, p0, _, m0, q0⟩ := o0.cells (cs := [c0]) (x := y0.1) (ps := y0.2) (by simpa [e0] using g0) (fun b o hm => hf b o (List.mem_flatMap.2 ⟨y0, by simp, hm⟩))
    have o1 : Opens enc Tryd.prog w _ (tSl 12 tLt) := opens_slice Tryd.underlying23 (by kernel_rfl) (by kernel_rfl) (by decide) opens_Lt
    have e1 : Tryd.prog.cellsOf _ = 1 := o1.size
    obtain ⟨a1, p1, _, m1, q1⟩ := o1.cells (cs := [c1]) (x := y1.1) (ps := y1.2) (by simpa [e1] using g1) (fun b o hm => hf b o (List.mem_flatMap.2 ⟨y1, by simp, hm⟩))
    refine ⟨⟨a0, a1⟩, ⟨c0, c1, rfl, p0, p1⟩, rfl, ?_, fun hq => ⟨q0 fun n hn => hq n (by simp only [DataW.weights, Tryd.underlying25]; exact weights_each 0 rfl rfl hn), q1 fun n hn => hq n (by simp only [DataW.weights, Tryd.underlying25]; exact weights_each 1 rfl rfl hn)⟩⟩
    simp only [tAl, List.map_cons, List.map_nil, Rows.uptoBulk, Rows.uptoBulkAll]
    omega
theorem al_cells {w : World} {lo hi : Nat} {cs : List Value} {x : Al} (h : vAl w lo hi cs x) :
    ∃ A1 c1 A2 c2, cs = [.slice A1 x.feats.length c1, .slice A2 x.lets.length c2] ∧ AlIn w lo hi A1 A2 x := by
  obtain ⟨s0, s1, rfl, ⟨A1, c1, e1, h1, h2, h3⟩, ⟨A2, c2, e2, h4, h5, h6⟩⟩ := h
  simp only [List.cons.injEq, and_true] at e1 e2
  unfold maxLen at h2 h5
  exact ⟨A1, c1, A2, c2, by rw [e1, e2], h3, h6, by omega, by omega⟩
end Go.Proofs.YtimhlnndobfehaaDoor
namespace Go.Proofs.YtimhlnndobfehaaDoor.matchAll
open Go.ChangeShapes Go.WideShapes Go.ChangeAt Go.RowKit
set_option linter.unusedVariables false

set_option maxRecDepth 100000 in
theorem contract (H : Type) (enc : TypeId × Value → H) (W : World) (base : Nat) (args : Array Value) (ds gs : List (DataW H)) (before : List MemPlace)
    (hval : ∀ (j : Nat) t v, Tryd.f8.params[j]? = some t → args[j]? = some v → Value.okWide Tryd.prog W .any base t v)
    (hW : DataW.Whole enc Tryd.prog Tryd.f8.params.toList Rows.matchAllSpec.vars false W args.toList ds gs before) (hL : laidMetH Tryd.prog utf8List W) :
    Calls Tryd.prog 8 args W fun e W' => ∃ v, e = .returned v ∧ Rows.matchAllSpec.post enc Tryd.prog Tryd.f8 false true false false W args v W' := by
  have hW' := hW
  have hfr := free_of_whole hW
  obtain ⟨p, q, hA0, hV, rfl, hfz, hnd⟩ := hW
  have hA : DataW.TrodAll enc Tryd.prog W 0 (fun _ => true) true Tryd.f8.params.toList args.toList ds p := hA0
  rw [Tryd.params8] at hA hval
  obtain ⟨v0, vs0, d0, ds0, p0, q0, hargs, rfl, rfl, h0, r0⟩ := trodAll_cons hA
  obtain ⟨v1, vs1, d1, ds1, p1, q1, rfl, rfl, rfl, h1, r1⟩ := trodAll_cons r0
  obtain ⟨v2, vs2, d2, ds2, p2, q2, rfl, rfl, rfl, h2, r2⟩ := trodAll_cons r1
  obtain ⟨rfl, rfl, rfl⟩ := trodAll_nil r2
  obtain rfl : args = #[v0, v1, v2] := by cases args; simp_all
  obtain ⟨rfl, rfl⟩ := trodVars_none hV
  obtain ⟨cs0, a, rfl, hva, _, _⟩ := (opens_Al (enc := enc) (w := W)).struct_arg Tryd.underlying25 (hval 0 25 v0 rfl rfl) h0 hfr.left.left
  obtain ⟨A1a, c1a, A2a, c2a, hcs0, ha⟩ := al_cells hva
  obtain rfl : cs0 = #[.slice A1a a.feats.length c1a, .slice A2a a.lets.length c2a] := by cases cs0; simp_all
  obtain ⟨cs1, u, rfl, hvu, _, _⟩ := (opens_Pat (enc := enc) (w := W)).struct_arg Tryd.underlying28 (hval 1 28 v1 rfl rfl) h1 hfr.left.right.left
  obtain ⟨Au, cu, hcs1, hlcu, hcmu, hu⟩ := hvu
  obtain rfl : cs1 = #[.slice Au u.length cu] := by cases cs1; simp_all
  obtain ⟨x, rfl, hx, _, _⟩ := Opens.str_arg Tryd.underlying9 (hval 2 9 v2 rfl rfl) h2
  refine (all_walk A1a A2a Au c1a c2a cu a u x W ha (tabs_laid hL) hu (by unfold maxLen at hcmu; omega) hx).mono fun e W' ⟨he, hb⟩ => ?_
  subst he
  exact ⟨_, rfl, post_true laidOut (by rw [Tryd.params8]; intro t ht; simp only [List.mem_cons, List.not_mem_nil, or_false] at ht; rcases ht with rfl | rfl | rfl <;> exact ⟨by kernel_rfl, of_decide_eq_true (by kernel_rfl)⟩) (by kernel_rfl) Tryd.underlying4 rfl ⟨rfl, rfl, rfl⟩ hW' hb⟩

theorem reads (os : Os) {H : Type} (enc : TypeId × Value → H) : ∃ places, DataW.whole enc Tryd.prog ((laidWorld os).forCall (fun _ _ => 0) ⟨#[], #[.agg #[.slice none 0 0, .slice none 0 0], .agg #[.slice none 0 0], .string ⟨#[]⟩], []⟩).memory Tryd.f8.params.toList Rows.matchAllSpec.vars false #[Value.agg #[.slice none 0 0, .slice none 0 0], .agg #[.slice none 0 0], .string ⟨#[]⟩].toList 8 = some ([.agg [.nil, .nil], .agg [.nil], .lit (.string [])], [], places) :=
  ⟨[], by kernel_rfl⟩

set_option maxRecDepth 100000 in
theorem lifted (os : Os) (started : os.Started) (H : Type) (enc : TypeId × Value → H) (F : Stop.Interp) :
    ReturnsInHanded {} Tryd.checked os 8 .any ((OpenSpec.ofChange Rows.matchAllSpec).preRow enc Tryd.prog Tryd.f8 Rows.matchAllRow.domain false Rows.matchAllRow.laid) (((OpenSpec.ofChange Rows.matchAllSpec).at F).post enc Tryd.prog Tryd.f8 false true false false) := by
  obtain ⟨places, hx⟩ := reads os enc
  refine returnsInHanded_of_row (C := Tryd.checked) (s := OpenSpec.ofChange Rows.matchAllSpec) own started (by kernel_rfl) Tryd.func8
    (witness_row_at (enc := enc) (C := Tryd.checked) false (laidWorld os) #[.agg #[.slice none 0 0, .slice none 0 0], .agg #[.slice none 0 0], .string ⟨#[]⟩] rfl (by kernel_rfl) (by kernel_rfl) (by kernel_rfl)
      (OpenSpec.preRow_of_cond 8 hx (by kernel_rfl) (fun k hk => by cases hk) (by kernel_rfl) (laid_met os _))) ?_
  intro W base args ds gs before hval hW _ _ _ hL _ _
  exact contract H enc W base args ds gs before hval hW hL

theorem said : Rows.MatchAllSaid :=
  OpenClaim.holds_of_cond 8 Tryd.f8 rfl rfl rfl rfl rfl rfl rfl ⟨rfl, rfl, rfl, rfl, rfl⟩ rfl rfl rfl rfl rfl (by kernel_rfl) Tryd.func8 (by kernel_rfl)
    (of_decide_eq_true (by kernel_rfl)) (by unfold Func.isWrapper; first | (rw [if_pos (by decide +kernel)]; kernel_rfl) | (rw [if_neg (by decide +kernel)]; exact ⟨rfl, rfl⟩))
    (fun os started H enc _ F => by rw [OpenClaim.pre_eq_preRow]; exact lifted os started H enc F)

/-- No parameter wants a stand-in; whether the program looks. -/
theorem plain (f : FuncId) (fn : Func) (hf : Tryd.pinned.checked.prog.funcNamed "cognate/cognatelaw05.MatchAll" = some f) (hfn : Tryd.pinned.checked.prog.funcs[f]? = some fn) :
    true = Tryd.pinned.checked.prog.looks [] ∧ ∀ (j : Nat) t, fn.params[j]? = some t → Tryd.pinned.checked.prog.wantsStandIn t = false := by
  obtain rfl : f = 8 := Option.some.inj ((show Tryd.prog.funcNamed "cognate/cognatelaw05.MatchAll" = some 8 by kernel_rfl).symm.trans hf) |>.symm
  obtain rfl : fn = Tryd.f8 := (Option.some.inj (Tryd.func8.symm.trans hfn)).symm
  refine ⟨by kernel_rfl, fun j t ht => ?_⟩
  rw [Tryd.params8] at ht
  have hm := Array.mem_of_getElem? ht
  simp only [List.mem_toArray, List.mem_cons, List.not_mem_nil, or_false] at hm
  rcases hm with rfl | rfl | rfl
  · exact (show Tryd.prog.wantsStandIn 25 = false by kernel_rfl)
  · exact (show Tryd.prog.wantsStandIn 28 = false by kernel_rfl)
  · exact (show Tryd.prog.wantsStandIn 9 = false by kernel_rfl)

theorem proved : Rows.MatchAllCardSaid :=
  Claim7.holds_tied_plain_at .later [] _ _ _ _ said (fun _ h => by cases h) (by kernel_rfl) (fun _ h => by cases h) matchAll_row_tie rfl ⟨rfl, rfl⟩ (by kernel_rfl) rfl plain (by kernel_rfl)
#print axioms proved
end Go.Proofs.YtimhlnndobfehaaDoor.matchAll
