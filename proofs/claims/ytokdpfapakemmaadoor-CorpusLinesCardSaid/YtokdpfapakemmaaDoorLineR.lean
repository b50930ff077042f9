/- The document's Line. -/
import Derived.Test.YtokdpfapakemmaaDoorMended
import Derived.Test.YtokdpfapakemmaaDoorBegin
namespace Go.Proofs.YtokdpfapakemmaaDoor
open Go.RowKit Go.Lib
set_option linter.unusedVariables false

/-- A place's line and column, or the error. -/
def lineS (s : ByteArray) (a : Int) : Int × Int × Int :=
  if 65536 < s.size then (0, 0, 3) else if a < 0 ∨ (s.size : Int) < a then (0, 0, 2)
  else ((lineN s a.toNat : Int) + 1, ((pcs (s.extract (lineB s a.toNat) a.toNat)).length : Int) + 1, 0)
def LineOut (s : ByteArray) (a : Int) (e : Ending) : Prop := e = .returned (.tuple #[.int .i64 (lineS s a).1, .int .i64 (lineS s a).2.1, .int .i64 (lineS s a).2.2])

set_option maxHeartbeats 4000000 in
theorem rline_any (s : ByteArray) (a : Int) (w : World) (hm : s.size ≤ maxLen) (h0 : -9223372036854775808 ≤ a) (h1 : a ≤ 9223372036854775807) :
    Calls Tryd.prog 9 #[.string s, .int .i64 a] w fun e w' => LineOut s a e ∧ Below w.heap.size w w' := by
  have hm0 := hm
  unfold maxLen at hm0
  by_cases hs : 65536 < s.size
  · have HF : Hid (lineS s a = (0, 0, 3)) := by show _ = _; unfold lineS; rw [if_pos hs]
    go_enter Tryd.func9, Tryd.ntmps9
    go_wp2_with fail
    go_ret3
    exact ⟨by unfold LineOut; rw [HF.out]; rfl, Below.refl _ _⟩
  · by_cases ha : a < 0
    · have HF : Hid (lineS s a = (0, 0, 2)) := by show _ = _; unfold lineS; rw [if_neg hs, if_pos (.inl ha)]
      go_enter Tryd.func9, Tryd.ntmps9
      go_wp2_with fail
      go_ret3
      exact ⟨by unfold LineOut; rw [HF.out]; rfl, Below.refl _ _⟩
    · obtain ⟨n, rfl⟩ := Int.eq_ofNat_of_zero_le (show 0 ≤ a by omega)
      by_cases hn : s.size < n
      · have HF : Hid (lineS s (n : Int) = (0, 0, 2)) := by show _ = _; unfold lineS; rw [if_neg hs, if_pos (.inr (by omega))]
        go_enter Tryd.func9, Tryd.ntmps9
        go_wp2_with fail
        go_ret3
        exact ⟨by unfold LineOut; rw [HF.out]; rfl, Below.refl _ _⟩
      · have HF : Hid (lineS s (n : Int) = ((lineN s n : Int) + 1, ((pcs (s.extract (lineB s n) n)).length : Int) + 1, 0)) := by show _ = _; unfold lineS; rw [if_neg hs, if_neg (by omega)]; rfl
        have hlb := lineB_le s n
        have hln := lineN_le s n
        have hcall := all_sl (s.extract (lineB s n) n)
        have hpl := pcs_le (s.extract (lineB s n) n)
        rw [ByteArray.size_extract] at hcall hpl
        have HC := Lib.hid hcall
        clear hcall
        have HB := Lib.hid (begin_any s n w (by omega) (by omega))
        generalize lineB s n = p at *
        generalize lineN s n = q at *
        go_enter Tryd.func9, Tryd.ntmps9
        go_wp2_with fail
        refine HB.out.mono ?_
        rintro e w' ⟨rfl, rfl⟩
        go_wp2_with fail
        refine (HC.out _ (by omega)).mono ?_
        rintro e w1 ⟨A, c, rfl, g1, g2, g3, hb⟩
        go_wp2_with fail
        go_ret3
        exact ⟨by unfold LineOut; rw [HF.out]; rfl, hb⟩
end Go.Proofs.YtokdpfapakemmaaDoor
