/- corpus.Around, walked. -/
import Derived.Test.YtokdpfapakemmaaDoorPartP
import Derived.Test.YtokdpfapakemmaaDoorLineP
import Derived.Test.YtokdpfapakemmaaDoorAroundR
namespace Go.Proofs.YtokdpfapakemmaaDoor
open Go.RowKit Go.Lib
set_option linter.unusedVariables false

def CutOut (x : ByteArray) (e : Ending) : Prop := ∃ t f, e = .returned (.tuple #[.string x, .string t, .bool f])
theorem ext_ext (s : ByteArray) (b j : Nat) (h : b + j ≤ s.size) : (s.extract b s.size).extract 0 j = s.extract b (b + j) := by
  rw [ByteArray.extract_extract]
  congr 1
  omega
set_option maxHeartbeats 2000000 in
theorem scut_any (s : ByteArray) (b : Nat) (w : World) (hs : s.size ≤ 65536) (hb : b ≤ s.size) :
    Calls Tryd.prog 46 #[.string (s.extract b s.size), .string ⟨#[10]⟩] w fun e w' => CutOut (s.extract b (lineE s b)) e ∧ Below w.heap.size w w' := by
  have hidx := index_lineE s s.size b (by omega) hb
  have hle := lineE_le s b hb
  have hl : (s.extract b s.size).data.toList = s.data.toList.drop b := by
    rw [ext_list, List.take_of_length_le (by simp)]
  have hsz : (s.extract b s.size).size = s.size - b := by rw [ByteArray.size_extract]; omega
  have hI := Tryd.stringslite_Index_one (s.extract b s.size) 10
  rw [hl] at hI
  rcases hidx with ⟨h1, h2⟩ | ⟨j, h1, h2, h3⟩
  · rw [h1] at hI
    have HI := Lib.hid hI
    have HE : Hid (s.extract b (lineE s b) = s.extract b s.size) := by show _ = _; rw [h2]
    clear hI h1 h2 hl
    have HSZ := Lib.hid hsz
    clear hsz
    generalize s.extract b s.size = x at *
    go_enter Tryd.func46, Tryd.ntmps46
    go_wp2_with fail
    refine (calls_flip (HI.out _)).mono ?_
    rintro e w' ⟨rfl, rfl⟩
    go_wp2_with fail
    go_ret3
    exact ⟨by rw [HE.out]; exact ⟨_, _, rfl⟩, Below.refl _ _⟩
  · rw [h1] at hI
    have HI := Lib.hid hI
    have hj : j ≤ s.size - b := by omega
    have HE : Hid (s.extract b (lineE s b) = (s.extract b s.size).extract 0 j) := by show _ = _; rw [h2, ext_ext s b j (by omega)]
    have hjx : j < (s.extract b s.size).size := by
      rw [hsz]
      omega
    clear hI h1 h2 hl
    have HSZ := Lib.hid hsz
    clear hsz
    generalize s.extract b s.size = x at *
    go_enter Tryd.func46, Tryd.ntmps46
    go_wp2_with fail
    refine (calls_flip (HI.out _)).mono ?_
    rintro e w' ⟨rfl, rfl⟩
    go_wp2_with fail
    go_quiet (fail)
    go_wp2_with fail
    go_ret3
    exact ⟨by rw [HE.out]; exact ⟨_, _, rfl⟩, below_drewN (Below.refl _ _) _⟩

set_option maxHeartbeats 2000000 in
theorem cut_any (s : ByteArray) (b : Nat) (w : World) (hs : s.size ≤ 65536) (hb : b ≤ s.size) :
    Calls Tryd.prog 25 #[.string (s.extract b s.size), .string ⟨#[10]⟩] w fun e w' => CutOut (s.extract b (lineE s b)) e ∧ Below w.heap.size w w' := by
  have H := Lib.hid (scut_any s b w hs hb)
  generalize s.extract b s.size = x at *
  generalize s.extract b (lineE s b) = y at *
  go_enter Tryd.func25, Tryd.ntmps25
  go_wp2_with fail
  refine H.out.mono ?_
  rintro e w1 ⟨⟨t, f, rfl⟩, hb1⟩
  go_wp2_with fail
  go_ret3
  exact ⟨⟨_, _, rfl⟩, hb1⟩

set_option maxHeartbeats 4000000 in
set_option maxRecDepth 100000 in
theorem around_pok (s : ByteArray) (a n m : Nat) (w : World) (hs : s.size ≤ 65536) (h1 : a ≤ s.size) (h2 : n ≤ s.size - a) (h3 : m ≤ 65536) (hT : Utf8Tabs 1 2 w) :
    Calls Tryd.prog 10 #[.string s, .int .i64 (a : Int), .int .i64 (n : Int), .int .i64 (m : Int)] w fun e w' => AroundOut s a n m e ∧ Below w.heap.size w w' := by
  have HF := Lib.hid (around_good (s := s) (a := a) (n := n) (m := m) (by omega) (by unfold AroundBad; omega))
  have hlb := lineB_le s a
  have hle := lineE_le s (a + n) (by omega)
  have hll := last_lineB s a h1
  have d1 : decide ((s.size : Int) < (a : Int)) = false := by rw [decide_eq_false_iff_not]; omega
  have d2 : decide ((s.size : Int) - (a : Int) < (n : Int)) = false := by rw [decide_eq_false_iff_not]; omega
  have d3 : decide (65536 < (m : Int)) = false := by rw [decide_eq_false_iff_not]; omega
  have hsz : ∀ a b, (s.extract a b).size ≤ 65536 := fun a b => by rw [ByteArray.size_extract]; omega
  have K1 := Lib.hid (calls_flip (Tryd.strings_LastIndexByte (s.extract 0 a) 10 (by have := hsz 0 a; omega) w))
  have K2 := Lib.hid (fun wx => cut_any s (a + n) wx hs (by omega))
  have K3 := Lib.hid (fun wx => back_any (s.extract a (a + n)) wx (hsz _ _))
  have K4 := Lib.hid (fun wx hx => cpart_any (s.extract (lineB s a) a) m true wx (hsz _ _) h3 hx)
  have K5 := Lib.hid (fun wx hx => cpart_any (s.extract (a + n) (lineE s (a + n))) m false wx (hsz _ _) h3 hx)
  have e4 : partS (s.extract (lineB s a) a) m true = leftT s a m := rfl
  have e5 : partS (s.extract (a + n) (lineE s (a + n))) m false = rightT s (a + n) m := rfl
  rw [e4] at K4
  rw [e5] at K5
  have e6 : enc (pcs (s.extract a (a + n))) = hereT s a n := rfl
  rw [e6] at K3
  clear e4 e5 e6 hsz
  generalize lineB s a = p at *
  generalize s.extract (a + n) (lineE s (a + n)) = R at *
  generalize leftT s a m = L1 at *
  generalize hereT s a n = H1 at *
  generalize rightT s (a + n) m = R1 at *
  rw [show lastIndexByte (s.extract 0 a) 10 = (p : Int) - 1 by omega] at K1
  clear hll hle
  go_enter Tryd.func10, Tryd.ntmps10
  go_wp2_with (go_at_call 19; refine (text_ok s _ (by omega)).mono ?_; rintro e w' ⟨rfl, rfl⟩)
  refine K1.out.mono ?_
  rintro e w' ⟨rfl, rfl⟩
  go_wp2_with fail
  refine (K2.out _).mono ?_
  rintro e w1 ⟨⟨t, f, rfl⟩, hb1⟩
  have hz1 := hb1.size
  go_wp2_with fail
  refine (K3.out _).mono ?_
  rintro e w2 ⟨rfl, hb2⟩
  have hz2 := hb2.size
  go_wp2_with fail
  refine (K4.out _ (Utf8Tabs_below hT (hb1.trans (hb2.mono hz1)))).mono ?_
  rintro e w3 ⟨rfl, hb3⟩
  have hb13 := (hb1.trans (hb2.mono hz1)).trans (hb3.mono (by omega))
  go_wp2_with fail
  refine (K5.out _ (Utf8Tabs_below hT hb13)).mono ?_
  rintro e w4 ⟨rfl, hb4⟩
  have hb14 := hb13.trans (hb4.mono hb13.size)
  go_wp2_with fail
  exact bodyPost_ret (v := .tuple #[.string L1, .string H1, .string R1, .int .i64 0]) (by simp [results, Tryd.results10, go_sem]) rfl ⟨HF.out, hb14⟩
set_option maxHeartbeats 4000000 in
set_option maxRecDepth 100000 in
theorem around_pbad (s : ByteArray) (a n m : Int) (w : World) (hm : s.size ≤ maxLen) (h0 : -9223372036854775808 ≤ a) (h1 : a ≤ 9223372036854775807) (h2 : -9223372036854775808 ≤ n) (h3 : n ≤ 9223372036854775807) (h4 : -9223372036854775808 ≤ m) (h5 : m ≤ 9223372036854775807) (hbad : 65536 < s.size ∨ AroundBad s a n m) :
    Calls Tryd.prog 10 #[.string s, .int .i64 a, .int .i64 n, .int .i64 m] w fun e w' => AroundOut s a n m e ∧ w = w' := by
  have hm0 := hm
  unfold maxLen at hm0
  by_cases hs : 65536 < s.size
  · have HF := Lib.hid (around_long (a := a) (n := n) (m := m) hs)
    clear hbad
    go_enter Tryd.func10, Tryd.ntmps10
    go_wp2_with (go_at_call 19; refine (text_no s _ hm hs).mono ?_; rintro e w' ⟨rfl, rfl⟩)
    exact bodyPost_ret (v := .tuple #[.string ⟨#[]⟩, .string ⟨#[]⟩, .string ⟨#[]⟩, .int .i64 3]) (by simp [results, Tryd.results10, go_sem]) rfl ⟨HF.out, rfl⟩
  · have hbad : AroundBad s a n m := hbad.resolve_left hs
    have HF := Lib.hid (around_bad hs hbad)
    unfold AroundBad at hbad
    by_cases g1 : a < 0
    · clear hbad
      go_enter Tryd.func10, Tryd.ntmps10
      go_wp2_with (go_at_call 19; refine (text_ok s _ (by omega)).mono ?_; rintro e w' ⟨rfl, rfl⟩)
      exact bodyPost_ret (v := .tuple #[.string ⟨#[]⟩, .string ⟨#[]⟩, .string ⟨#[]⟩, .int .i64 2]) (by simp [results, Tryd.results10, go_sem]) rfl ⟨HF.out, rfl⟩
    · by_cases g2 : (s.size : Int) < a
      · clear hbad
        go_enter Tryd.func10, Tryd.ntmps10
        go_wp2_with (go_at_call 19; refine (text_ok s _ (by omega)).mono ?_; rintro e w' ⟨rfl, rfl⟩)
        exact bodyPost_ret (v := .tuple #[.string ⟨#[]⟩, .string ⟨#[]⟩, .string ⟨#[]⟩, .int .i64 2]) (by simp [results, Tryd.results10, go_sem]) rfl ⟨HF.out, rfl⟩
      · by_cases g3 : n < 0
        · clear hbad
          go_enter Tryd.func10, Tryd.ntmps10
          go_wp2_with (go_at_call 19; refine (text_ok s _ (by omega)).mono ?_; rintro e w' ⟨rfl, rfl⟩)
          exact bodyPost_ret (v := .tuple #[.string ⟨#[]⟩, .string ⟨#[]⟩, .string ⟨#[]⟩, .int .i64 2]) (by simp [results, Tryd.results10, go_sem]) rfl ⟨HF.out, rfl⟩
        · by_cases g4 : (s.size : Int) - a < n
          · clear hbad
            go_enter Tryd.func10, Tryd.ntmps10
            go_wp2_with (go_at_call 19; refine (text_ok s _ (by omega)).mono ?_; rintro e w' ⟨rfl, rfl⟩)
            exact bodyPost_ret (v := .tuple #[.string ⟨#[]⟩, .string ⟨#[]⟩, .string ⟨#[]⟩, .int .i64 2]) (by simp [results, Tryd.results10, go_sem]) rfl ⟨HF.out, rfl⟩
          · by_cases g5 : m < 0
            · clear hbad
              go_enter Tryd.func10, Tryd.ntmps10
              go_wp2_with (go_at_call 19; refine (text_ok s _ (by omega)).mono ?_; rintro e w' ⟨rfl, rfl⟩)
              exact bodyPost_ret (v := .tuple #[.string ⟨#[]⟩, .string ⟨#[]⟩, .string ⟨#[]⟩, .int .i64 2]) (by simp [results, Tryd.results10, go_sem]) rfl ⟨HF.out, rfl⟩
            · have g6 : 65536 < m := by omega
              clear hbad
              go_enter Tryd.func10, Tryd.ntmps10
              go_wp2_with (go_at_call 19; refine (text_ok s _ (by omega)).mono ?_; rintro e w' ⟨rfl, rfl⟩)
              exact bodyPost_ret (v := .tuple #[.string ⟨#[]⟩, .string ⟨#[]⟩, .string ⟨#[]⟩, .int .i64 2]) (by simp [results, Tryd.results10, go_sem]) rfl ⟨HF.out, rfl⟩
end Go.Proofs.YtokdpfapakemmaaDoor
