/- What one of the document's examples says of words. -/
import Derived.Test.YtfjccjjdgbkbiaaDoorWr15
namespace Go.Proofs.YtfjccjjdgbkbiaaDoor
open Go.RowKit
open Go.Lib (Utf8Tabs)
set_option linter.unusedVariables false

def abcA : Al := ⟨[⟨#[118]⟩], [⟨97, 1, 0⟩, ⟨98, 0, 1⟩, ⟨99, 0, 1⟩]⟩
def AbcOut (w : World) (e : Ending) (w' : World) : Prop := ∃ b, e = .returned (.agg #[.slice (some ⟨b, 0, none⟩) 1 1, .slice (some ⟨b + 1, 0, none⟩) 3 3]) ∧ AlIn w' 0 w'.heap.size (some ⟨b, 0, none⟩) (some ⟨b + 1, 0, none⟩) abcA ∧ Below w.heap.size w w'
theorem res_alphabet {fn : Func} {p : Tmp} (h : fn.results = #[.cell p 25]) (tmps : Array Value) (w : World) (g : Nat) (c0 c1 : Value) (hp : tmps.getD p undef = .pointer (some ⟨g, 0, none⟩)) (hg : Row w g 25 [c0, c1]) :
    (results fn tmps).run Tryd.prog w = .ok (.agg #[c0, c1]) w :=
  results_cell_row h tmps w g 25 #[c0, c1] (0, 0) _ hp hg Tryd.underlying25 rfl (by kernel_rfl)
theorem kin32 {n : Int} (h : -2147483648 ≤ n ∧ n ≤ 2147483647) : kin .i32 n := by simpa [kin, Lit.wf, IntKind.min, IntKind.max, IntKind.signed, IntKind.bits]
theorem row_lets {w : World} {g lo hi : Nat} {t : TypeId} (h : Row w g t [.int .i32 97, .int .u32 1, .int .u32 0, .int .i32 98, .int .u32 0, .int .u32 1, .int .i32 99, .int .u32 0, .int .u32 1]) (h1 : lo ≤ g) (h2 : g < hi) :
    Sl 3 vLt w lo hi (some ⟨g, 0, none⟩) abcA.lets := fun _ => by
  refine ⟨g, 0, rfl, h1, h2, fun i x hx => ?_⟩
  match i, hx with
  | 0, hx =>
    obtain rfl := Option.some.inj hx
    refine ⟨[.int .i32 97, .int .u32 1, .int .u32 0], rfl, fun j v hj => ?_, rfl, kin32 (by decide), by decide, by decide⟩
    match j, hj with
    | 0, hj => obtain rfl := Option.some.inj hj; exact h.cel (i := 0) rfl
    | 1, hj => obtain rfl := Option.some.inj hj; exact h.cel (i := 1) rfl
    | 2, hj => obtain rfl := Option.some.inj hj; exact h.cel (i := 2) rfl
  | 1, hx =>
    obtain rfl := Option.some.inj hx
    refine ⟨[.int .i32 98, .int .u32 0, .int .u32 1], rfl, fun j v hj => ?_, rfl, kin32 (by decide), by decide, by decide⟩
    match j, hj with
    | 0, hj => obtain rfl := Option.some.inj hj; exact h.cel (i := 3) rfl
    | 1, hj => obtain rfl := Option.some.inj hj; exact h.cel (i := 4) rfl
    | 2, hj => obtain rfl := Option.some.inj hj; exact h.cel (i := 5) rfl
  | 2, hx =>
    obtain rfl := Option.some.inj hx
    refine ⟨[.int .i32 99, .int .u32 0, .int .u32 1], rfl, fun j v hj => ?_, rfl, kin32 (by decide), by decide, by decide⟩
    match j, hj with
    | 0, hj => obtain rfl := Option.some.inj hj; exact h.cel (i := 6) rfl
    | 1, hj => obtain rfl := Option.some.inj hj; exact h.cel (i := 7) rfl
    | 2, hj => obtain rfl := Option.some.inj hj; exact h.cel (i := 8) rfl
theorem boxes3 (w : World) (t1 t2 t3 : TypeId) (l1 l2 l3 : List Value) :
    Row (((w.alloc (.cells l1.toArray t1)).alloc (.cells l2.toArray t2)).alloc (.cells l3.toArray t3)) w.heap.size t1 l1 ∧ Row (((w.alloc (.cells l1.toArray t1)).alloc (.cells l2.toArray t2)).alloc (.cells l3.toArray t3)) (w.heap.size + 1) t2 l2 ∧
    Row (((w.alloc (.cells l1.toArray t1)).alloc (.cells l2.toArray t2)).alloc (.cells l3.toArray t3)) (w.heap.size + 1 + 1) t3 l3 ∧ Below w.heap.size w (((w.alloc (.cells l1.toArray t1)).alloc (.cells l2.toArray t2)).alloc (.cells l3.toArray t3)) ∧ (((w.alloc (.cells l1.toArray t1)).alloc (.cells l2.toArray t2)).alloc (.cells l3.toArray t3)).heap.size = w.heap.size + 3 := by
  have h1 := Row.new w t1 l1
  have h2 := Row.new (w.alloc (.cells l1.toArray t1)) t2 l2
  have h3 := Row.new ((w.alloc (.cells l1.toArray t1)).alloc (.cells l2.toArray t2)) t3 l3
  rw [show (w.alloc (.cells l1.toArray t1)).heap.size = w.heap.size + 1 by simp] at h2
  rw [show ((w.alloc (.cells l1.toArray t1)).alloc (.cells l2.toArray t2)).heap.size = w.heap.size + 1 + 1 by simp] at h3
  exact ⟨(h1.alloc _).alloc _, h2.alloc _, h3, (((Below.refl _ _).alloc (Nat.le_refl _) _).alloc (by simp) _).alloc (by simp; omega) _, by simp⟩

set_option maxHeartbeats 2000000 in
theorem abc_any (w : World) : Calls Tryd.prog 40 #[] w (AbcOut w) := by
  go_enter Tryd.func40, Tryd.ntmps40
  go_wp2_with fail
  obtain ⟨r1, r2, r3, hb, hz⟩ := boxes3 w 25 9 84 [.slice (some ⟨w.heap.size + 1, 0, none⟩) 1 1, .slice (some ⟨w.heap.size + 1 + 1, 0, none⟩) 3 3] [.string ⟨#[118]⟩] [.int .i32 97, .int .u32 1, .int .u32 0, .int .i32 98, .int .u32 0, .int .u32 1, .int .i32 99, .int .u32 0, .int .u32 1]
  refine bodyPost_ret (res_alphabet rfl _ _ w.heap.size _ _ rfl r1) rfl ?_
  refine ⟨w.heap.size + 1, rfl, ⟨?_, row_lets r3 (Nat.zero_le _) (by rw [hz]; omega), by decide, by decide⟩, hb⟩
  refine Row.sl (V := vStr) (xs := ([⟨#[118]⟩] : List ByteArray)) r2 rfl (Nat.zero_le _) (by rw [hz]; omega) (fun i x v hx hv => ?_)
  match i, hx, hv with
  | 0, hx, hv =>
    obtain rfl := Option.some.inj hx
    obtain rfl := Option.some.inj hv
    exact ⟨rfl, by decide⟩
theorem abc_turned : turnedS abcA ⟨#[97, 98, 99]⟩ = (⟨#[99, 98, 97]⟩, 0) := by kernel_rfl

set_option maxHeartbeats 2000000 in
theorem awake_any (w : World) (hT : Utf8Tabs 0 1 w) : Calls Tryd.prog 9 #[] w fun e w' => e = .returned (.bool true) ∧ Below w.heap.size w w' := by
  go_enter Tryd.func9, Tryd.ntmps9
  go_wp2_with (go_at_call 40; refine (abc_any _).mono ?_; rintro e w1 ⟨b, rfl, hin, hb1⟩)
  have hc := turned_any _ _ 1 3 0 abcA ⟨#[97, 98, 99]⟩ w1 hin (Utf8Tabs_below hT hb1) (by decide)
  rw [show StrOut (turnedS abcA ⟨#[97, 98, 99]⟩) w1 = StrOut (⟨#[99, 98, 97]⟩, 0) w1 by rw [abc_turned]] at hc
  go_wp2_with (go_at_call 16; refine Calls.mono hc ?_; rintro e w2 ⟨rfl, hb2⟩)
  go_ret
  exact ⟨rfl, hb1.trans (hb2.mono hb1.size)⟩
end Go.Proofs.YtfjccjjdgbkbiaaDoor
