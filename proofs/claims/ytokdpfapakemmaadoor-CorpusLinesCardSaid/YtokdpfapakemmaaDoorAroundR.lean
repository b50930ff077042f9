/- The document's Around. -/
import Derived.Test.YtokdpfapakemmaaDoorLineR
namespace Go.Proofs.YtokdpfapakemmaaDoor
open Go.RowKit Go.Lib
set_option linter.unusedVariables false

/-- Where the line of the place k ends. -/
def lineEF (s : ByteArray) : Nat → Nat → Nat
  | 0, k => k
  | f + 1, k => if k < s.size then (if bt s k = 10 then k else lineEF s f (k + 1)) else k
def lineE (s : ByteArray) (k : Nat) : Nat := lineEF s (s.size - k) k
theorem lineE_step (s : ByteArray) (k : Nat) (h : k < s.size) : lineE s k = if bt s k = 10 then k else lineE s (k + 1) := by
  unfold lineE
  obtain ⟨m, hm⟩ : ∃ m, s.size - k = m + 1 := ⟨s.size - k - 1, by omega⟩
  rw [hm, show s.size - (k + 1) = m by omega]
  conv => lhs; unfold lineEF
  rw [if_pos h]
theorem lineE_end (s : ByteArray) (k : Nat) (h : s.size ≤ k) : lineE s k = k := by
  unfold lineE
  rw [show s.size - k = 0 by omega]
  rfl
theorem lineEF_le (s : ByteArray) : ∀ (f k : Nat), k ≤ s.size → k ≤ lineEF s f k ∧ lineEF s f k ≤ s.size
  | 0, k, h => ⟨Nat.le_refl _, h⟩
  | f + 1, k, h => by
    unfold lineEF
    split
    · split
      · omega
      · have := lineEF_le s f (k + 1) (by omega)
        omega
    · omega
theorem lineE_le (s : ByteArray) (k : Nat) (h : k ≤ s.size) : k ≤ lineE s k ∧ lineE s k ≤ s.size := lineEF_le s _ k h

def leftT (s : ByteArray) (k m : Nat) : ByteArray := enc ((pcs (s.extract (lineB s k) k)).drop ((pcs (s.extract (lineB s k) k)).length - m))
def hereT (s : ByteArray) (k n : Nat) : ByteArray := enc (pcs (s.extract k (k + n)))
def rightT (s : ByteArray) (k m : Nat) : ByteArray := enc ((pcs (s.extract k (lineE s k))).take m)
/-- What stands around a place, or the error. -/
def AroundBad (s : ByteArray) (a n m : Int) : Prop := a < 0 ∨ (s.size : Int) < a ∨ n < 0 ∨ (s.size : Int) - a < n ∨ m < 0 ∨ 65536 < m
instance (s : ByteArray) (a n m : Int) : Decidable (AroundBad s a n m) := by unfold AroundBad; infer_instance
def aroundS (s : ByteArray) (a n m : Int) : ByteArray × ByteArray × ByteArray × Int :=
  if 65536 < s.size then (⟨#[]⟩, ⟨#[]⟩, ⟨#[]⟩, 3) else if AroundBad s a n m then (⟨#[]⟩, ⟨#[]⟩, ⟨#[]⟩, 2)
  else (leftT s a.toNat m.toNat, hereT s a.toNat n.toNat, rightT s (a.toNat + n.toNat) m.toNat, 0)
def AroundOut (s : ByteArray) (a n m : Int) (e : Ending) : Prop := e = .returned (.tuple #[.string (aroundS s a n m).1, .string (aroundS s a n m).2.1, .string (aroundS s a n m).2.2.1, .int .i64 (aroundS s a n m).2.2.2])

theorem around_long {s : ByteArray} {a n m : Int} (h : 65536 < s.size) : AroundOut s a n m (.returned (.tuple #[.string ⟨#[]⟩, .string ⟨#[]⟩, .string ⟨#[]⟩, .int .i64 3])) := by
  unfold AroundOut aroundS
  rw [if_pos h]
theorem around_bad {s : ByteArray} {a n m : Int} (h : ¬ 65536 < s.size) (k : AroundBad s a n m) : AroundOut s a n m (.returned (.tuple #[.string ⟨#[]⟩, .string ⟨#[]⟩, .string ⟨#[]⟩, .int .i64 2])) := by
  unfold AroundOut aroundS
  rw [if_neg h, if_pos k]
theorem around_good {s : ByteArray} {a n m : Nat} (h : ¬ 65536 < s.size) (k : ¬ AroundBad s a n m) : AroundOut s a n m (.returned (.tuple #[.string (leftT s a m), .string (hereT s a n), .string (rightT s (a + n) m), .int .i64 0])) := by
  unfold AroundOut aroundS
  rw [if_neg h, if_neg k]
  rfl

set_option maxHeartbeats 4000000 in
set_option maxRecDepth 100000 in
theorem raround_bad (s : ByteArray) (a n m : Int) (w : World) (hm : s.size ≤ maxLen) (h0 : -9223372036854775808 ≤ a) (h1 : a ≤ 9223372036854775807) (h2 : -9223372036854775808 ≤ n) (h3 : n ≤ 9223372036854775807) (h4 : -9223372036854775808 ≤ m) (h5 : m ≤ 9223372036854775807) (hbad : 65536 < s.size ∨ AroundBad s a n m) :
    Calls Tryd.prog 11 #[.string s, .int .i64 a, .int .i64 n, .int .i64 m] w fun e w' => AroundOut s a n m e ∧ w = w' := by
  have hm0 := hm
  unfold maxLen at hm0
  by_cases hs : 65536 < s.size
  · have HF := Lib.hid (around_long (a := a) (n := n) (m := m) hs)
    clear hbad
    go_enter Tryd.func11, Tryd.ntmps11
    go_wp2_with fail
    exact bodyPost_ret (v := .tuple #[.string ⟨#[]⟩, .string ⟨#[]⟩, .string ⟨#[]⟩, .int .i64 3]) (by simp [results, Tryd.results11, go_sem]) rfl ⟨HF.out, rfl⟩
  · have hbad : AroundBad s a n m := hbad.resolve_left hs
    have HF := Lib.hid (around_bad hs hbad)
    unfold AroundBad at hbad
    by_cases g1 : a < 0
    · clear hbad
      go_enter Tryd.func11, Tryd.ntmps11
      go_wp2_with fail
      exact bodyPost_ret (v := .tuple #[.string ⟨#[]⟩, .string ⟨#[]⟩, .string ⟨#[]⟩, .int .i64 2]) (by simp [results, Tryd.results11, go_sem]) rfl ⟨HF.out, rfl⟩
    · by_cases g2 : (s.size : Int) < a
      · clear hbad
        go_enter Tryd.func11, Tryd.ntmps11
        go_wp2_with fail
        exact bodyPost_ret (v := .tuple #[.string ⟨#[]⟩, .string ⟨#[]⟩, .string ⟨#[]⟩, .int .i64 2]) (by simp [results, Tryd.results11, go_sem]) rfl ⟨HF.out, rfl⟩
      · by_cases g3 : n < 0
        · clear hbad
          go_enter Tryd.func11, Tryd.ntmps11
          go_wp2_with fail
          exact bodyPost_ret (v := .tuple #[.string ⟨#[]⟩, .string ⟨#[]⟩, .string ⟨#[]⟩, .int .i64 2]) (by simp [results, Tryd.results11, go_sem]) rfl ⟨HF.out, rfl⟩
        · by_cases g4 : (s.size : Int) - a < n
          · clear hbad
            go_enter Tryd.func11, Tryd.ntmps11
            go_wp2_with fail
            exact bodyPost_ret (v := .tuple #[.string ⟨#[]⟩, .string ⟨#[]⟩, .string ⟨#[]⟩, .int .i64 2]) (by simp [results, Tryd.results11, go_sem]) rfl ⟨HF.out, rfl⟩
          · by_cases g5 : m < 0
            · clear hbad
              go_enter Tryd.func11, Tryd.ntmps11
              go_wp2_with fail
              exact bodyPost_ret (v := .tuple #[.string ⟨#[]⟩, .string ⟨#[]⟩, .string ⟨#[]⟩, .int .i64 2]) (by simp [results, Tryd.results11, go_sem]) rfl ⟨HF.out, rfl⟩
            · have g6 : 65536 < m := by omega
              clear hbad
              go_enter Tryd.func11, Tryd.ntmps11
              go_wp2_with fail
              exact bodyPost_ret (v := .tuple #[.string ⟨#[]⟩, .string ⟨#[]⟩, .string ⟨#[]⟩, .int .i64 2]) (by simp [results, Tryd.results11, go_sem]) rfl ⟨HF.out, rfl⟩
end Go.Proofs.YtokdpfapakemmaaDoor
