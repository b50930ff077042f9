/- The tokens that come in: what lies in their cells. -/
import Derived.Test.YtokdpfapakemmaaJoin
import Derived.Test.YtokdpfapakemmaaOpen
namespace Go.Proofs.Ytokdpfapakemmaa
open Go.ChangeShapes Go.WideShapes Go.RowKit
set_option linter.unusedVariables false

def vTok2 : Rep Tk := fun w lo hi cs x => ∃ c0 c1 c2 c3, cs = [c0, c1, c2, c3] ∧ vInt .i64 w lo hi [c0] x.at_ ∧ vInt .i64 w lo hi [c1] x.len ∧ vStr w lo hi [c2] x.word ∧ vBool w lo hi [c3] x.broken
theorem vTok2_good : vTok2.Good :=
  ⟨fun k ⟨c0, c1, c2, c3, e, h0, h1, h2, h3⟩ => ⟨c0, c1, c2, c3, e, (vInt_good .i64).keep k h0, (vInt_good .i64).keep k h1, vStr_good.keep k h2, vBool_good.keep k h3⟩, fun a b ⟨c0, c1, c2, c3, e, h0, h1, h2, h3⟩ => ⟨c0, c1, c2, c3, e, (vInt_good .i64).wide a b h0, (vInt_good .i64).wide a b h1, vStr_good.wide a b h2, vBool_good.wide a b h3⟩⟩
def tTok : Ty Tk := ⟨4, vTok2, fun x => (tInt .i64).m x.at_ + (tInt .i64).m x.len + (tStr).m x.word + (tBool).m x.broken + 1, fun x => (tInt .i64).Q x.at_ ∧ (tInt .i64).Q x.len ∧ (tStr).Q x.word ∧ (tBool).Q x.broken⟩
theorem opens_Tk {H : Type} {enc : TypeId × Value → H} {w : World} : Opens enc Try.prog w 34 tTok := by
  refine ⟨by kernel_rfl, vTok2_good, fun {fuel cs x ps} h hf => ?_⟩
  obtain ⟨ys, n, _, hx, hlen, hyl, hfs⟩ := DataW.trod_struct Try.underlying34 h
  have hlen' : cs.length = 4 := hlen.trans (by kernel_rfl)
  match cs, hlen', ys, hyl with
  | [c0, c1, c2, c3], _, [y0, y1, y2, y3], _ =>
    simp only [Prod.mk.injEq] at hx
    obtain ⟨rfl, rfl⟩ := hx
    have g0 := hfs 0 _ rfl
    have g1 := hfs 1 _ rfl
    have g2 := hfs 2 _ rfl
    have g3 := hfs 3 _ rfl
    have o0 := (opens_int Try.underlying3 (by kernel_rfl) : Opens enc Try.prog w _ _)
    have e0 : Try.prog.cellsOf _ = 1 := o0.size
    obtain ⟨a0, p0, _, m0, q0⟩ := o0.cells (cs := [c0]) (x := y0.1) (ps := y0.2) (by simpa [e0] using g0) (fun b o hm => hf b o (List.mem_flatMap.2 ⟨y0, by simp, hm⟩))
    have o1 := (opens_int Try.underlying3 (by kernel_rfl) : Opens enc Try.prog w _ _)
    have e1 : Try.prog.cellsOf _ = 1 := o1.size
    obtain ⟨a1, p1, _, m1, q1⟩ := o1.cells (cs := [c1]) (x := y1.1) (ps := y1.2) (by simpa [e1] using g1) (fun b o hm => hf b o (List.mem_flatMap.2 ⟨y1, by simp, hm⟩))
    have o2 := (opens_str Try.underlying9 (by kernel_rfl) : Opens enc Try.prog w _ _)
    have e2 : Try.prog.cellsOf _ = 1 := o2.size
    obtain ⟨a2, p2, _, m2, q2⟩ := o2.cells (cs := [c2]) (x := y2.1) (ps := y2.2) (by simpa [e2] using g2) (fun b o hm => hf b o (List.mem_flatMap.2 ⟨y2, by simp, hm⟩))
    have o3 := (opens_bool Try.underlying4 (by kernel_rfl) : Opens enc Try.prog w _ _)
    have e3 : Try.prog.cellsOf _ = 1 := o3.size
    obtain ⟨a3, p3, _, m3, q3⟩ := o3.cells (cs := [c3]) (x := y3.1) (ps := y3.2) (by simpa [e3] using g3) (fun b o hm => hf b o (List.mem_flatMap.2 ⟨y3, by simp, hm⟩))
    refine ⟨⟨a0, a1, a2, a3⟩, ⟨c0, c1, c2, c3, rfl, p0, p1, p2, p3⟩, rfl, ?_, fun hq => ⟨q0 fun n hn => hq n (by simp only [DataW.weights, Try.underlying34]; exact weights_each 0 rfl rfl hn), q1 fun n hn => hq n (by simp only [DataW.weights, Try.underlying34]; exact weights_each 1 rfl rfl hn), q2 fun n hn => hq n (by simp only [DataW.weights, Try.underlying34]; exact weights_each 2 rfl rfl hn), q3 fun n hn => hq n (by simp only [DataW.weights, Try.underlying34]; exact weights_each 3 rfl rfl hn)⟩⟩
    simp only [tTok, List.map_cons, List.map_nil, Rows.uptoBulk, Rows.uptoBulkAll]
    omega


theorem Sl.map {α : Type} {sz : Nat} {V V' : Rep α} {w : World} {lo hi : Nat} {A : Option Addr} {xs : List α} (hm : ∀ cs x, V w lo hi cs x → V' w lo hi cs x) (h : Sl sz V w lo hi A xs) : Sl sz V' w lo hi A xs := fun hn => by
  obtain ⟨b, off, e, h1, h2, hc⟩ := h hn
  refine ⟨b, off, e, h1, h2, fun i x hx => ?_⟩
  obtain ⟨cs, h3, h4, h5⟩ := hc i x hx
  exact ⟨cs, h3, h4, hm _ _ h5⟩
theorem vTok_of {w : World} {lo hi : Nat} (cs : List Value) (x : Tk) (h : vTok2 w lo hi cs x) : vTok w lo hi cs x := by
  obtain ⟨c0, c1, c2, c3, rfl, ⟨h0, k0⟩, ⟨h1, k1⟩, ⟨h2, k2⟩, h3⟩ := h
  simp only [List.cons.injEq, and_true] at h0 h1 h2
  unfold vBool at h3
  simp only [List.cons.injEq, and_true] at h3
  subst h0 h1 h2 h3
  exact ⟨rfl, k0, k1, k2⟩
end Go.Proofs.Ytokdpfapakemmaa
