/- The alphabets that come in: what lies in their cells. -/
import Derived.Test.YtfjccjjdgbkbiaaDoorAlMem
import Derived.Test.YtfjccjjdgbkbiaaDoorOpen
namespace Go.Proofs.YtfjccjjdgbkbiaaDoor
open Go.ChangeShapes Go.WideShapes Go.RowKit
set_option linter.unusedVariables false

def tLt : Ty Lt := ⟨3, vLt, fun _ => 4, fun _ => True⟩
set_option maxRecDepth 100000 in
theorem opens_Lt {H : Type} {enc : TypeId × Value → H} {w : World} : Opens enc Tryd.prog w 84 tLt := by
  refine ⟨by kernel_rfl, vLt_good, fun {fuel cs x ps} h hf => ?_⟩
  obtain ⟨ys, n, _, hx, hlen, hyl, hfs⟩ := DataW.trod_struct Tryd.underlying84 h
  have hlen' : cs.length = 3 := hlen.trans (by kernel_rfl)
  match cs, hlen', ys, hyl with
  | [c0, c1, c2], _, [y0, y1, y2], _ =>
    simp only [Prod.mk.injEq] at hx
    obtain ⟨rfl, rfl⟩ := hx
    have g0 := hfs 0 _ rfl
    have g1 := hfs 1 _ rfl
    have g2 := hfs 2 _ rfl
    have o0 := (opens_int Tryd.underlying21 (by kernel_rfl) : Opens enc Tryd.prog w _ _)
    have e0 : Tryd.prog.cellsOf _ = 1 := o0.size
    obtain ⟨a0, ⟨p0, k0⟩, _, m0, _⟩ := o0.cells (cs := [c0]) (x := y0.1) (ps := y0.2) (by simpa [e0] using g0) (fun b o hm => hf b o (List.mem_flatMap.2 ⟨y0, by simp, hm⟩))
    have o1 := (opens_int Tryd.underlying38 (by kernel_rfl) : Opens enc Tryd.prog w _ _)
    have e1 : Tryd.prog.cellsOf _ = 1 := o1.size
    obtain ⟨a1, ⟨p1, k1⟩, _, m1, _⟩ := o1.cells (cs := [c1]) (x := y1.1) (ps := y1.2) (by simpa [e1] using g1) (fun b o hm => hf b o (List.mem_flatMap.2 ⟨y1, by simp, hm⟩))
    obtain ⟨a2, ⟨p2, k2⟩, _, m2, _⟩ := o1.cells (cs := [c2]) (x := y2.1) (ps := y2.2) (by simpa [e1] using g2) (fun b o hm => hf b o (List.mem_flatMap.2 ⟨y2, by simp, hm⟩))
    have k1 := kin_u32 k1
    have k2 := kin_u32 k2
    have n1 : ((a1.toNat : Nat) : Int) = a1 := Int.toNat_of_nonneg k1.1
    have n2 : ((a2.toNat : Nat) : Int) = a2 := Int.toNat_of_nonneg k2.1
    simp only [List.cons.injEq, and_true] at p0 p1 p2
    refine ⟨⟨a0, a1.toNat, a2.toNat⟩, ⟨by rw [p0, p1, p2, n1, n2], k0, by show a1.toNat < _; omega, by show a2.toNat < _; omega⟩, rfl, ?_, fun _ => trivial⟩
    simp only [tLt, tInt, List.map_cons, List.map_nil, Rows.uptoBulk, Rows.uptoBulkAll] at m0 m1 m2 ⊢
    omega

def vAl : Rep Al := fun w lo hi cs x => ∃ c0 c1, cs = [c0, c1] ∧ vSl 1 vStr w lo hi [c0] x.feats ∧ vSl 3 vLt w lo hi [c1] x.lets
theorem vAl_good : vAl.Good :=
  ⟨fun k ⟨c0, c1, e, h0, h1⟩ => ⟨c0, c1, e, (vSl_good vStr_good).keep k h0, (vSl_good vLt_good).keep k h1⟩, fun a b ⟨c0, c1, e, h0, h1⟩ => ⟨c0, c1, e, (vSl_good vStr_good).wide a b h0, (vSl_good vLt_good).wide a b h1⟩⟩
def tAl : Ty Al := ⟨2, vAl, fun x => (tSl 16 tStr).m x.feats + (tSl 12 tLt).m x.lets + 1, fun x => (tSl 16 tStr).Q x.feats ∧ (tSl 12 tLt).Q x.lets⟩
set_option maxRecDepth 100000 in
theorem opens_Al {H : Type} {enc : TypeId × Value → H} {w : World} : Opens enc Tryd.prog w 25 tAl := by
  refine ⟨by kernel_rfl, vAl_good, fun {fuel cs x ps} h hf => ?_⟩
  obtain ⟨ys, n, _, hx, hlen, hyl, hfs⟩ := DataW.trod_struct Tryd.underlying25 h
  have hlen' : cs.length = 2 := hlen.trans (by kernel_rfl)
  match cs, hlen', ys, hyl with
  | [c0, c1], _, [y0, y1], _ =>
    simp only [Prod.mk.injEq] at hx
    obtain ⟨rfl, rfl⟩ := hx
    have g0 := hfs 0 _ rfl
    have g1 := hfs 1 _ rfl
    have o0 : Opens enc Tryd.prog w _ (tSl 16 tStr) := opens_slice Tryd.underlying22 (by kernel_rfl) (by kernel_rfl) (by decide) (opens_str Tryd.underlying9 (by kernel_rfl))
    have e0 : Tryd.prog.cellsOf _ = 1 := o0.size
    obtain ⟨a0, p0, _, m0, q0⟩ := o0.cells (cs := [c0]) (x := y0.1) (ps := y0.2) (by simpa [e0] using g0) (fun b o hm => hf b o (List.mem_flatMap.2 ⟨y0, by simp, hm⟩))
    have o1 : Opens enc Tryd.prog w _ (tSl 12 tLt) := opens_slice Tryd.underlying23 (by kernel_rfl) (by kernel_rfl) (by decide) opens_Lt
    have e1 : Tryd.prog.cellsOf _ = 1 := o1.size
    obtain ⟨a1, p1, _, m1, q1⟩ := o1.cells (cs := [c1]) (x := y1.1) (ps := y1.2) (by simpa [e1] using g1) (fun b o hm => hf b o (List.mem_flatMap.2 ⟨y1, by simp, hm⟩))
    refine ⟨⟨a0, a1⟩, ⟨c0, c1, rfl, p0, p1⟩, rfl, ?_, fun hq => ⟨q0 fun n hn => hq n (by simp only [DataW.weights, Tryd.underlying25]; exact weights_each 0 rfl rfl hn), q1 fun n hn => hq n (by simp only [DataW.weights, Tryd.underlying25]; exact weights_each 1 rfl rfl hn)⟩⟩
    simp only [tAl, List.map_cons, List.map_nil, Rows.uptoBulk, Rows.uptoBulkAll]
    omega
theorem al_cells {w : World} {lo hi : Nat} {cs : List Value} {x : Al} (h : vAl w lo hi cs x) :
    ∃ A1 c1 A2 c2, cs = [.slice A1 x.feats.length c1, .slice A2 x.lets.length c2] ∧ AlIn w lo hi A1 A2 x := by
  obtain ⟨s0, s1, rfl, ⟨A1, c1, e1, h1, h2, h3⟩, ⟨A2, c2, e2, h4, h5, h6⟩⟩ := h
  simp only [List.cons.injEq, and_true] at e1 e2
  unfold maxLen at h2 h5
  exact ⟨A1, c1, A2, c2, by rw [e1, e2], h3, h6, by omega, by omega⟩
end Go.Proofs.YtfjccjjdgbkbiaaDoor
