/- Nodes and patterns in memory. -/
import Derived.Test.YtlanjpickjndlaaPatPut
import Derived.Test.YtlanjpickjndlaaRow
import Derived.Test.YtlanjpickjndlaaOpen
namespace Go.Proofs.Ytlanjpickjndlaa
open Go.ChangeShapes Go.WideShapes Go.RowKit
set_option linter.unusedVariables false

def vNd : Rep Nd := fun w lo hi cs x => ∃ c0 c1 c2 c3 c4, cs = [c0, c1, c2, c3, c4] ∧ vInt .u8 w lo hi [c0] x.kind ∧ vInt .i32 w lo hi [c1] x.rune ∧ vInt .u32 w lo hi [c2] x.plus ∧ vInt .u32 w lo hi [c3] x.minus ∧ vSl 1 (vInt .i64) w lo hi [c4] x.kids
theorem vNd_good : vNd.Good :=
  ⟨fun k ⟨c0, c1, c2, c3, c4, e, h0, h1, h2, h3, h4⟩ => ⟨c0, c1, c2, c3, c4, e, (vInt_good .u8).keep k h0, (vInt_good .i32).keep k h1, (vInt_good .u32).keep k h2, (vInt_good .u32).keep k h3, (vSl_good (vInt_good .i64)).keep k h4⟩, fun a b ⟨c0, c1, c2, c3, c4, e, h0, h1, h2, h3, h4⟩ => ⟨c0, c1, c2, c3, c4, e, (vInt_good .u8).wide a b h0, (vInt_good .i32).wide a b h1, (vInt_good .u32).wide a b h2, (vInt_good .u32).wide a b h3, (vSl_good (vInt_good .i64)).wide a b h4⟩⟩
def tNd : Ty Nd := ⟨5, vNd, fun x => (tInt .u8).m x.kind + (tInt .i32).m x.rune + (tInt .u32).m x.plus + (tInt .u32).m x.minus + (tSl 8 (tInt .i64)).m x.kids + 1, fun x => (tInt .u8).Q x.kind ∧ (tInt .i32).Q x.rune ∧ (tInt .u32).Q x.plus ∧ (tInt .u32).Q x.minus ∧ (tSl 8 (tInt .i64)).Q x.kids⟩
theorem opens_Nd {H : Type} {enc : TypeId × Value → H} {w : World} : Opens enc Try.prog w 42 tNd := by
  refine ⟨by kernel_rfl, vNd_good, fun {fuel cs x ps} h hf => ?_⟩
  obtain ⟨ys, n, _, hx, hlen, hyl, hfs⟩ := DataW.trod_struct Try.underlying42 h
  have hlen' : cs.length = 5 := hlen.trans (by kernel_rfl)
  match cs, hlen', ys, hyl with
  | [c0, c1, c2, c3, c4], _, [y0, y1, y2, y3, y4], _ =>
    simp only [Prod.mk.injEq] at hx
    obtain ⟨rfl, rfl⟩ := hx
    have g0 := hfs 0 _ rfl
    have g1 := hfs 1 _ rfl
    have g2 := hfs 2 _ rfl
    have g3 := hfs 3 _ rfl
    have g4 := hfs 4 _ rfl
    have o0 : Opens enc Try.prog w _ (tInt .u8) := opens_int Try.underlying5 (by kernel_rfl)
    have e0 : Try.prog.cellsOf _ = 1 := o0.size
    obtain ⟨a0, p0, _, m0, q0⟩ := o0.cells (cs := [c0]) (x := y0.1) (ps := y0.2) (by simpa [e0] using g0) (fun b o hm => hf b o (List.mem_flatMap.2 ⟨y0, by simp, hm⟩))
    have o1 : Opens enc Try.prog w _ (tInt .i32) := opens_int Try.underlying21 (by kernel_rfl)
    have e1 : Try.prog.cellsOf _ = 1 := o1.size
    obtain ⟨a1, p1, _, m1, q1⟩ := o1.cells (cs := [c1]) (x := y1.1) (ps := y1.2) (by simpa [e1] using g1) (fun b o hm => hf b o (List.mem_flatMap.2 ⟨y1, by simp, hm⟩))
    have o2 : Opens enc Try.prog w _ (tInt .u32) := opens_int Try.underlying26 (by kernel_rfl)
    have e2 : Try.prog.cellsOf _ = 1 := o2.size
    obtain ⟨a2, p2, _, m2, q2⟩ := o2.cells (cs := [c2]) (x := y2.1) (ps := y2.2) (by simpa [e2] using g2) (fun b o hm => hf b o (List.mem_flatMap.2 ⟨y2, by simp, hm⟩))
    have o3 : Opens enc Try.prog w _ (tInt .u32) := opens_int Try.underlying26 (by kernel_rfl)
    have e3 : Try.prog.cellsOf _ = 1 := o3.size
    obtain ⟨a3, p3, _, m3, q3⟩ := o3.cells (cs := [c3]) (x := y3.1) (ps := y3.2) (by simpa [e3] using g3) (fun b o hm => hf b o (List.mem_flatMap.2 ⟨y3, by simp, hm⟩))
    have o4 : Opens enc Try.prog w _ (tSl 8 (tInt .i64)) := opens_slice Try.underlying40 (by kernel_rfl) (by kernel_rfl) (by decide) (opens_int Try.underlying3 (by kernel_rfl))
    have e4 : Try.prog.cellsOf _ = 1 := o4.size
    obtain ⟨a4, p4, _, m4, q4⟩ := o4.cells (cs := [c4]) (x := y4.1) (ps := y4.2) (by simpa [e4] using g4) (fun b o hm => hf b o (List.mem_flatMap.2 ⟨y4, by simp, hm⟩))
    refine ⟨⟨a0, a1, a2, a3, a4⟩, ⟨c0, c1, c2, c3, c4, rfl, p0, p1, p2, p3, p4⟩, rfl, ?_, fun hq => ⟨q0 fun n hn => hq n (by simp only [DataW.weights, Try.underlying42]; exact weights_each 0 rfl rfl hn), q1 fun n hn => hq n (by simp only [DataW.weights, Try.underlying42]; exact weights_each 1 rfl rfl hn), q2 fun n hn => hq n (by simp only [DataW.weights, Try.underlying42]; exact weights_each 2 rfl rfl hn), q3 fun n hn => hq n (by simp only [DataW.weights, Try.underlying42]; exact weights_each 3 rfl rfl hn), q4 fun n hn => hq n (by simp only [DataW.weights, Try.underlying42]; exact weights_each 4 rfl rfl hn)⟩⟩
    simp only [tNd, List.map_cons, List.map_nil, Rows.uptoBulk, Rows.uptoBulkAll]
    omega


theorem nd_at {w : World} {lo hi k : Nat} {A : Option Addr} {ns : List Nd} (h : Sl 5 vNd w lo hi A ns) (hk : k < ns.length) :
    ∃ b off B c, A = some ⟨b, off, none⟩ ∧ lo ≤ b ∧ b < hi ∧ Cel w b (off + k * 5) (.int .u8 ns[k].kind) ∧ Cel w b (off + k * 5 + 1) (.int .i32 ns[k].rune) ∧ Cel w b (off + k * 5 + 2) (.int .u32 ns[k].plus) ∧ Cel w b (off + k * 5 + 3) (.int .u32 ns[k].minus) ∧
      Cel w b (off + k * 5 + 4) (.slice B ns[k].kids.length c) ∧ ns[k].kids.length ≤ c ∧ c ≤ maxLen ∧ Sl 1 (vInt .i64) w lo hi B ns[k].kids ∧ kin .u8 ns[k].kind ∧ kin .i32 ns[k].rune ∧ kin .u32 ns[k].plus ∧ kin .u32 ns[k].minus := by
  obtain ⟨b, off, cs, e, h1, h2, _, h4, c0, c1, c2, c3, c4, rfl, ⟨e0, k0⟩, ⟨e1, k1⟩, ⟨e2, k2⟩, ⟨e3, k3⟩, B, c, e4, hl, hm, hs⟩ := h.at_ hk
  simp only [List.cons.injEq, and_true] at e0 e1 e2 e3 e4
  subst e0 e1 e2 e3 e4
  exact ⟨b, off, B, c, e, h1, h2, h4 0 _ rfl, h4 1 _ rfl, h4 2 _ rfl, h4 3 _ rfl, h4 4 _ rfl, hl, hm, hs, k0, k1, k2, k3⟩

theorem bits_or_u32 {a b : Int} (ha : kin .u32 a) (hb : kin .u32 b) : bits .or .u32 a b = 0 ↔ a = 0 ∧ b = 0 := by
  have h1 := kin_u32 ha
  have h2 := kin_u32 hb
  obtain ⟨x, rfl⟩ := Int.eq_ofNat_of_zero_le h1.1
  obtain ⟨y, rfl⟩ := Int.eq_ofNat_of_zero_le h2.1
  have hx : x < 2 ^ 32 := by omega
  have hy : y < 2 ^ 32 := by omega
  have hor : x ||| y < 2 ^ 32 := Nat.or_lt_two_pow hx hy
  have e : bits .or .u32 (x : Int) (y : Int) = ((x ||| y : Nat) : Int) := by
    show IntKind.u32.wrap ((BitVec.ofInt 32 (x : Int) ||| BitVec.ofInt 32 (y : Int)).toNat : Int) = _
    rw [BitVec.toNat_or, BitVec.ofInt_natCast, BitVec.ofInt_natCast, BitVec.toNat_ofNat, BitVec.toNat_ofNat, Nat.mod_eq_of_lt hx, Nat.mod_eq_of_lt hy]
    exact IntWalk.u32_in _ (by omega)
  rw [e]
  constructor
  · intro h
    have h0 : x ||| y = 0 := by omega
    rw [Nat.or_eq_zero_iff] at h0
    omega
  · rintro ⟨h3, h4⟩
    have : x = 0 := by omega
    have : y = 0 := by omega
    subst x y
    rfl

/-- A pattern: its nodes. -/
def vPat : Rep (List Nd) := vSl 5 vNd
theorem vPat_good : vPat.Good := vSl_good vNd_good
def tPat : Ty (List Nd) := ⟨1, vPat, fun l => (tSl 40 tNd).m l + 1, (tSl 40 tNd).Q⟩
theorem opens_Pat {H : Type} {enc : TypeId × Value → H} {w : World} : Opens enc Try.prog w 25 tPat := by
  refine ⟨by kernel_rfl, vPat_good, fun {fuel cs x ps} h hf => ?_⟩
  obtain ⟨ys, n, _, hx, hlen, hyl, hfs⟩ := DataW.trod_struct Try.underlying25 h
  have hlen' : cs.length = 1 := hlen.trans (by kernel_rfl)
  match cs, hlen', ys, hyl with
  | [c0], _, [y0], _ =>
    simp only [Prod.mk.injEq] at hx
    obtain ⟨rfl, rfl⟩ := hx
    have g0 := hfs 0 _ rfl
    have o0 : Opens enc Try.prog w 23 (tSl 40 tNd) := opens_slice Try.underlying23 (by kernel_rfl) (by kernel_rfl) (by decide) opens_Nd
    have e0 : Try.prog.cellsOf _ = 1 := o0.size
    obtain ⟨a0, p0, _, m0, q0⟩ := o0.cells (cs := [c0]) (x := y0.1) (ps := y0.2) (by simpa [e0] using g0) (fun b o hm => hf b o (List.mem_flatMap.2 ⟨y0, by simp, hm⟩))
    refine ⟨a0, p0, rfl, ?_, fun hq => q0 fun n hn => hq n (by simp only [DataW.weights, Try.underlying25]; exact weights_each 0 rfl rfl hn)⟩
    simp only [tPat, List.map_cons, List.map_nil, Rows.uptoBulk, Rows.uptoBulkAll]
    omega
end Go.Proofs.Ytlanjpickjndlaa
