/- corpus.Around for all arguments. -/
import Derived.Test.YtokdpfapakemmaaDoorAroundP
namespace Go.Proofs.YtokdpfapakemmaaDoor
open Go.RowKit Go.Lib
set_option linter.unusedVariables false

def i64 (a : Int) : Prop := -9223372036854775808 ≤ a ∧ a ≤ 9223372036854775807
theorem around_ok {s : ByteArray} {a n m : Int} (hs : s.size ≤ 65536) (h : ¬ AroundBad s a n m) : ∃ a' n' m' : Nat, a = a' ∧ n = n' ∧ m = m' ∧ a' ≤ s.size ∧ n' ≤ s.size - a' ∧ m' ≤ 65536 := by
  unfold AroundBad at h
  exact ⟨a.toNat, n.toNat, m.toNat, by omega, by omega, by omega, by omega, by omega, by omega⟩
theorem around_p (s : ByteArray) (a n m : Int) (w : World) (hm : s.size ≤ maxLen) (ha : i64 a) (hn : i64 n) (hmm : i64 m) (hT : Utf8Tabs 1 2 w) :
    Calls Tryd.prog 10 #[.string s, .int .i64 a, .int .i64 n, .int .i64 m] w fun e w' => AroundOut s a n m e ∧ Below w.heap.size w w' := by
  by_cases h : 65536 < s.size ∨ AroundBad s a n m
  · refine (around_pbad s a n m w hm ha.1 ha.2 hn.1 hn.2 hmm.1 hmm.2 h).mono ?_
    rintro e w' ⟨h1, rfl⟩
    exact ⟨h1, Below.refl _ _⟩
  · have hs : s.size ≤ 65536 := by omega
    obtain ⟨a', n', m', rfl, rfl, rfl, h1, h2, h3⟩ := around_ok hs (fun hb => h (.inr hb))
    exact around_pok s a' n' m' w hs h1 h2 h3 hT
end Go.Proofs.YtokdpfapakemmaaDoor
