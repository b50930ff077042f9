/- CorpusPlaces, walked. -/
import Derived.Test.YtokdpfapakemmaaDoorAroundP
import Derived.Test.YtokdpfapakemmaaDoorAroundR2
namespace Go.Proofs.YtokdpfapakemmaaDoor
open Go.RowKit Go.Lib
set_option linter.unusedVariables false

def i64 (a : Int) : Prop := -9223372036854775808 ≤ a ∧ a ≤ 9223372036854775807
theorem around_ok {s : ByteArray} {a n m : Int} (hs : s.size ≤ 65536) (h : ¬ AroundBad s a n m) : ∃ a' n' m' : Nat, a = a' ∧ n = n' ∧ m = m' ∧ a' ≤ s.size ∧ n' ≤ s.size - a' ∧ m' ≤ 65536 := by
  unfold AroundBad at h
  exact ⟨a.toNat, n.toNat, m.toNat, by omega, by omega, by omega, by omega, by omega, by omega⟩
theorem around_p (s : ByteArray) (a n m : Int) (w : World) (hm : s.size ≤ maxLen) (ha : i64 a) (hn : i64 n) (hmm : i64 m) (hT : Utf8Tabs 1 2 w) :
    Calls Tryd.prog 10 #[.string s, .int .i64 a, .int .i64 n, .int .i64 m] w fun e w' => AroundOut s a n m e ∧ Below w.heap.size w w' := by
  by_cases h : 65536 < s.size ∨ AroundBad s a n m
  · refine (around_pbad s a n m w hm ha.1 ha.2 hn.1 hn.2 hmm.1 hmm.2 h).mono ?_
    rintro e w' ⟨h1, rfl⟩
    exact ⟨h1, Below.refl _ _⟩
  · have hs : s.size ≤ 65536 := by omega
    obtain ⟨a', n', m', rfl, rfl, rfl, h1, h2, h3⟩ := around_ok hs (fun hb => h (.inr hb))
    exact around_pok s a' n' m' w hs h1 h2 h3 hT
theorem around_r (s : ByteArray) (a n m : Int) (w : World) (hm : s.size ≤ maxLen) (ha : i64 a) (hn : i64 n) (hmm : i64 m) :
    Calls Tryd.prog 11 #[.string s, .int .i64 a, .int .i64 n, .int .i64 m] w fun e w' => AroundOut s a n m e ∧ Below w.heap.size w w' := by
  by_cases h : 65536 < s.size ∨ AroundBad s a n m
  · refine (raround_bad s a n m w hm ha.1 ha.2 hn.1 hn.2 hmm.1 hmm.2 h).mono ?_
    rintro e w' ⟨h1, rfl⟩
    exact ⟨h1, Below.refl _ _⟩
  · have hs : s.size ≤ 65536 := by omega
    obtain ⟨a', n', m', rfl, rfl, rfl, h1, h2, h3⟩ := around_ok hs (fun hb => h (.inr hb))
    exact raround_ok s a' n' m' w hs h1 h2 h3

set_option maxHeartbeats 4000000 in
set_option maxRecDepth 100000 in
theorem places_walk (s : ByteArray) (a n m : Int) (w : World) (hm : s.size ≤ maxLen) (ha : i64 a) (hn : i64 n) (hmm : i64 m) (hT : Utf8Tabs 1 2 w) :
    Calls Tryd.prog 3 #[.string s, .int .i64 a, .int .i64 n, .int .i64 m] w fun e w' => e = .returned (.bool true) ∧ Below w.heap.size w w' := by
  by_cases hl : 4000 < s.size ∧ s.size ≤ 65536
  · obtain ⟨hl1, hl2⟩ := hl
    go_enter Tryd.func3, Tryd.ntmps3
    go_wp2_with fail
    refine (awake_any _).mono ?_
    rintro e w1 ⟨rfl, hb1⟩
    go_wp2_with (go_at_call 7; refine (long_yes s _ hl1 hl2).mono ?_; rintro e w' ⟨rfl, rfl⟩)
    go_ret
    exact ⟨rfl, hb1⟩
  · have hl' : s.size ≤ 4000 ∨ 65536 < s.size := by omega
    have K1 := Lib.hid (fun wx => line_any s a wx hm ha.1 ha.2)
    have K2 := Lib.hid (fun wx => rline_any s a wx hm ha.1 ha.2)
    have K3 := Lib.hid (fun wx hx => around_p s a n m wx hm ha hn hmm hx)
    have K4 := Lib.hid (fun wx => around_r s a n m wx hm ha hn hmm)
    unfold LineOut at K1 K2
    unfold AroundOut at K3 K4
    generalize lineS s a = L at *
    generalize aroundS s a n m = R at *
    obtain ⟨l1, l2, l3⟩ := L
    obtain ⟨r1, r2, r3, r4⟩ := R
    simp only at K1 K2 K3 K4
    go_enter Tryd.func3, Tryd.ntmps3
    go_wp2_with fail
    refine (awake_any _).mono ?_
    rintro e w1 ⟨rfl, hb1⟩
    go_wp2_with (go_at_call 7; refine (long_no s _ hm hl').mono ?_; rintro e w' ⟨rfl, rfl⟩)
    refine (K1.out _).mono ?_
    rintro e w2 ⟨rfl, hb2⟩
    have hb12 := hb1.trans (hb2.mono hb1.size)
    go_wp2_with fail
    refine (K2.out _).mono ?_
    rintro e w3 ⟨rfl, hb3⟩
    have hb13 := hb12.trans (hb3.mono hb12.size)
    go_wp2_with fail
    refine (K3.out _ (Utf8Tabs_below hT hb13)).mono ?_
    rintro e w4 ⟨rfl, hb4⟩
    have hb14 := hb13.trans (hb4.mono hb13.size)
    go_wp2_with fail
    refine (K4.out _).mono ?_
    rintro e w5 ⟨rfl, hb5⟩
    have hb15 := hb14.trans (hb5.mono hb14.size)
    clear K1 K2 K3 K4
    go_wp2_with fail
    go_ret
    exact ⟨rfl, hb15⟩
end Go.Proofs.YtokdpfapakemmaaDoor
