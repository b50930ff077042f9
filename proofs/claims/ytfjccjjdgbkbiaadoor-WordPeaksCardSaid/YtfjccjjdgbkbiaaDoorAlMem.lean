/- Alphabets in memory. -/
import Derived.Test.YtfjccjjdgbkbiaaDoorFeat2
import Derived.Test.YtfjccjjdgbkbiaaDoorOwn
import Derived.Test.YtfjccjjdgbkbiaaDoorMaps
namespace Go.Proofs.YtfjccjjdgbkbiaaDoor
open Go.RowKit
set_option linter.unusedVariables false

def vLt : Rep Lt := fun _ _ _ cs l => cs = [.int .i32 l.rune, .int .u32 (l.plus : Int), .int .u32 (l.minus : Int)] ∧ kin .i32 l.rune ∧ l.plus < 4294967296 ∧ l.minus < 4294967296
theorem vLt_good : vLt.Good := ⟨fun _ h => h, fun _ _ h => h⟩
theorem lt_at {w : World} {lo hi k : Nat} {A : Option Addr} {l : List Lt} (h : Sl 3 vLt w lo hi A l) (hk : k < l.length) :
    ∃ b off, A = some ⟨b, off, none⟩ ∧ lo ≤ b ∧ b < hi ∧ Cel w b (off + k * 3) (.int .i32 l[k].rune) ∧ Cel w b (off + k * 3 + 1) (.int .u32 (l[k].plus : Int)) ∧ Cel w b (off + k * 3 + 2) (.int .u32 (l[k].minus : Int)) ∧
      (-2147483648 ≤ l[k].rune ∧ l[k].rune ≤ 2147483647) ∧ l[k].plus < 4294967296 ∧ l[k].minus < 4294967296 := by
  obtain ⟨b, off, cs, e, h1, h2, _, h4, rfl, h5, h6, h7⟩ := h.at_ hk
  exact ⟨b, off, e, h1, h2, h4 0 _ rfl, h4 1 _ rfl, h4 2 _ rfl, kin_i32 h5, h6, h7⟩
/-- An alphabet's features and letters lie in blocks from lo on and below hi. -/
structure AlIn (w : World) (lo hi : Nat) (A1 A2 : Option Addr) (a : Al) : Prop where
  f : Sl 1 vStr w lo hi A1 a.feats
  l : Sl 3 vLt w lo hi A2 a.lets
  n1 : a.feats.length ≤ 9223372036854775807
  n2 : a.lets.length ≤ 9223372036854775807
section
variable {w w' : World} {lo hi lo' hi' : Nat} {A1 A2 : Option Addr} {a : Al}
theorem AlIn.below (h : AlIn w lo hi A1 A2 a) {B : Nat} (hb : Below B w w') (hB : hi ≤ B) : AlIn w' lo hi A1 A2 a := ⟨h.f.below vStr_good hb hB, h.l.below vLt_good hb hB, h.n1, h.n2⟩
theorem AlIn.wide (h : AlIn w lo hi A1 A2 a) (h1 : lo' ≤ lo) (h2 : hi ≤ hi') : AlIn w lo' hi' A1 A2 a := ⟨h.f.wide vStr_good h1 h2, h.l.wide vLt_good h1 h2, h.n1, h.n2⟩
theorem AlIn.keep (h : AlIn w lo hi A1 A2 a) (hk : Kp lo hi w w') : AlIn w' lo hi A1 A2 a := ⟨h.f.keep vStr_good hk, h.l.keep vLt_good hk, h.n1, h.n2⟩
end
/-- The same from a world on. -/
theorem AlIn.on {w w' : World} {lo : Nat} {A1 A2 : Option Addr} {a : Al} (h : AlIn w lo w.heap.size A1 A2 a) (hb : Below w.heap.size w w') : AlIn w' lo w'.heap.size A1 A2 a := (h.below hb (Nat.le_refl _)).wide (Nat.le_refl _) hb.size

/-! ### what was seen -/
def seenS (seen : List (List UInt8)) : Lit → Bool := fun kl => seen.any fun f => kl.sameKey (.string f)
def seenR (seen : List Int) : Lit → Bool := fun kl => seen.any fun r => kl.sameKey (.int .i32 r)
theorem sameKey_str (l : Lit) (s : List UInt8) : l.sameKey (.string s) = true ↔ l = .string s := ⟨WideAt.sameKey_eq, fun h => by subst h; simp [Lit.sameKey]⟩
theorem sameKey_int (l : Lit) (r : Int) : l.sameKey (.int .i32 r) = true ↔ l = .int .i32 r := ⟨WideAt.sameKey_eq, fun h => by subst h; simp [Lit.sameKey]⟩
theorem seenS_cons (seen : List (List UInt8)) (f : List UInt8) : setAt (seenS seen) (.string f) true = seenS (f :: seen) := by
  funext l
  unfold setAt seenS
  rw [List.any_cons]
  by_cases h : l = .string f
  · rw [if_pos h, (sameKey_str _ _).2 h, Bool.true_or]
  · rw [if_neg h]
    have : l.sameKey (.string f) = false := by
      rw [← Bool.not_eq_true]
      exact fun hh => h ((sameKey_str _ _).1 hh)
    rw [this, Bool.false_or]
theorem seenR_cons (seen : List Int) (r : Int) : setAt (seenR seen) (.int .i32 r) true = seenR (r :: seen) := by
  funext l
  unfold setAt seenR
  rw [List.any_cons]
  by_cases h : l = .int .i32 r
  · rw [if_pos h, (sameKey_int _ _).2 h, Bool.true_or]
  · rw [if_neg h]
    have : l.sameKey (.int .i32 r) = false := by
      rw [← Bool.not_eq_true]
      exact fun hh => h ((sameKey_int _ _).1 hh)
    rw [this, Bool.false_or]
theorem seenS_eq (seen : List (List UInt8)) (f : List UInt8) : seenS seen (.string f) = decide (f ∈ seen) := by
  unfold seenS
  rw [Bool.eq_iff_iff, List.any_eq_true, decide_eq_true_eq]
  constructor
  · rintro ⟨g, hg, h⟩
    have := (sameKey_str _ _).1 h
    injection this with this
    rw [this]
    exact hg
  · intro h
    exact ⟨f, h, (sameKey_str _ _).2 rfl⟩
theorem seenR_eq (seen : List Int) (r : Int) : seenR seen (.int .i32 r) = decide (r ∈ seen) := by
  unfold seenR
  rw [Bool.eq_iff_iff, List.any_eq_true, decide_eq_true_eq]
  constructor
  · rintro ⟨g, hg, h⟩
    have := (sameKey_int _ _).1 h
    injection this with _ this
    rw [this]
    exact hg
  · intro h
    exact ⟨r, h, (sameKey_int _ _).2 rfl⟩
theorem seenS_nil : (fun _ => false) = seenS [] := rfl
theorem seenR_nil : (fun _ => false) = seenR [] := rfl
end Go.Proofs.YtfjccjjdgbkbiaaDoor
