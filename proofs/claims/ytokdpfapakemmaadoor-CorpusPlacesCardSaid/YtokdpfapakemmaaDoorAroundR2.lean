/- The document's Around, where it answers. -/
import Derived.Test.YtokdpfapakemmaaDoorAroundR
import Derived.Deep.RegionWith
namespace Go.Proofs.YtokdpfapakemmaaDoor
open Go.RowKit Go.Lib
set_option linter.unusedVariables false

theorem Sl.sliced {α : Type} {sz : Nat} {V : Rep α} {w : World} {lo hi c : Nat} {A : Option Addr} {xs : List α} (h : Sl sz V w lo hi A xs) (hc : xs.length ≤ c) (k : Nat) (hk : k ≤ xs.length) :
    ∃ A', Go.sliced A k xs.length c sz = .slice A' (xs.drop k).length (c - k) ∧ Sl sz V w lo hi A' (xs.drop k) := by
  unfold Go.sliced
  refine ⟨_, by rw [List.length_drop], ?_⟩
  by_cases hn : 0 < (xs.drop k).length
  · have hn' := hn
    rw [List.length_drop] at hn'
    rw [if_neg (by omega)]
    obtain ⟨b, off, rfl, _⟩ := h (by omega)
    have := Sl.drop h k
    simp only [Option.map_some]
    rw [Addr.add_lit]
    exact this
  · have : xs.drop k = [] := List.eq_nil_of_length_eq_zero (by omega)
    rw [this]
    exact Sl.nil _
set_option maxHeartbeats 4000000 in
set_option maxRecDepth 100000 in
theorem raround_ok (s : ByteArray) (a n m : Nat) (w : World) (hs : s.size ≤ 65536) (h1 : a ≤ s.size) (h2 : n ≤ s.size - a) (h3 : m ≤ 65536) :
    Calls Tryd.prog 11 #[.string s, .int .i64 (a : Int), .int .i64 (n : Int), .int .i64 (m : Int)] w fun e w' => AroundOut s a n m e ∧ Below w.heap.size w w' := by
  have HF := Lib.hid (around_good (s := s) (a := a) (n := n) (m := m) (by omega) (by unfold AroundBad; omega))
  have hlb := lineB_le s a
  have hle := lineE_le s (a + n) (by omega)
  have HB := Lib.hid (begin_any s a w (by omega) (by omega))
  have d1 : decide ((s.size : Int) < (a : Int)) = false := by rw [decide_eq_false_iff_not]; omega
  have d2 : decide ((s.size : Int) - (a : Int) < (n : Int)) = false := by rw [decide_eq_false_iff_not]; omega
  have d3 : decide (65536 < (m : Int)) = false := by rw [decide_eq_false_iff_not]; omega
  unfold leftT hereT rightT at HF
  have HLn := Lib.hid (pcs_le (s.extract (lineB s a) a))
  have HHn := Lib.hid (pcs_le (s.extract a (a + n)))
  have HRn := Lib.hid (pcs_le (s.extract (a + n) (lineE s (a + n))))
  have HLi := Lib.hid (fun p (hp : p ∈ (pcs (s.extract (lineB s a) a)).drop ((pcs (s.extract (lineB s a) a)).length - m)) => pcs_in (s.extract (lineB s a) a) (List.mem_of_mem_drop hp))
  have HHi := Lib.hid (fun p (hp : p ∈ pcs (s.extract a (a + n))) => pcs_in (s.extract a (a + n)) hp)
  have HRi := Lib.hid (fun p (hp : p ∈ (pcs (s.extract (a + n) (lineE s (a + n)))).take m) => pcs_in (s.extract (a + n) (lineE s (a + n))) (List.mem_of_mem_take hp))
  have HL := Lib.hid (all_sl (s.extract (lineB s a) a))
  have HH := Lib.hid (all_sl (s.extract a (a + n)))
  have HR := Lib.hid (all_sl (s.extract (a + n) (lineE s (a + n))))
  generalize hg1 : pcs (s.extract (lineB s a) a) = L at *
  generalize hg2 : pcs (s.extract a (a + n)) = H at *
  generalize hg3 : pcs (s.extract (a + n) (lineE s (a + n))) = R at *
  clear hg1 hg2 hg3
  generalize hE : lineE s (a + n) = E at *
  have HE := Lib.hid hE
  clear hE
  go_enter Tryd.func11, Tryd.ntmps11
  go_wp2_with fail
  refine HB.out.mono ?_
  rintro e w' ⟨rfl, rfl⟩
  clear HB
  generalize lineB s a = p at *
  go_wp2_with fail
  refine (HL.out _ (by rw [ByteArray.size_extract]; omega)).mono ?_
  rintro e w1 ⟨A1, c1, rfl, hc1, hm1, hs1, hb1⟩
  go_wp2_with fail
  refine (HH.out _ (by rw [ByteArray.size_extract]; omega)).mono ?_
  rintro e w2 ⟨A2, c2, rfl, hc2, hm2, hs2, hb2⟩
  go_wp2_with fail
  go_loop [18] (fun t => ∃ k : Nat, t = .int .i64 k ∧ a + n ≤ k ∧ k ≤ s.size ∧ Hid (lineE s k = E)) (fun t => s.size - (intOf t).toNat)
  case atStart => exact ⟨a + n, by go_num, Nat.le_refl _, by omega, HE⟩
  case round =>
    obtain ⟨k, rfl, hk1, hk2, hk3⟩ := hrel
    by_cases hc : k < s.size ∧ bt s k ≠ 10
    · obtain ⟨hlt, h10⟩ := hc
      have HX := Lib.hid (bt_get s k hlt)
      have hst := lineE_step s k hlt
      rw [if_neg h10] at hst
      have hx : (((s[k]'hlt).toNat : Int) != 10) = true := by rw [HX.out, bne_iff_ne]; omega
      have HS := Lib.hid hst
      clear hst h10
      go_wp2_with fail
      exact ⟨⟨k + 1, by go_num, by omega, by omega, by show _ = _; rw [← HS.out, hk3.out]⟩, by simp [intOf]; omega⟩
    · have hkE : E = k := by
        rw [← hk3.out]
        by_cases hlt : k < s.size
        · rw [lineE_step s k hlt, if_pos (by omega)]
        · exact lineE_end s k (by omega)
      subst hkE
      have hx' : Hid (∀ h : E < s.size, (((s[E]'h).toNat : Int) != 10) = false) := by
        intro h
        have := bt_get s E h
        rw [this, bne_eq_false_iff_eq]
        omega
      clear hc
      have g1 := hs1.below vPiece_good hb2 (Nat.le_refl _)
      have hbw2 := hb1.trans (hb2.mono hb1.size)
      by_cases hlt : E < s.size
      all_goals
        try have hx := hx'.out hlt
        clear hx'
        go_wp2_with fail
        refine (HR.out _ (by rw [ByteArray.size_extract]; omega)).mono ?_
        rintro e w3 ⟨A3, c3, rfl, hc3, hm3, hs3, hb3⟩
        have g1 := g1.below vPiece_good hb3 hb2.size
        have g2 := hs2.below vPiece_good hb3 (Nat.le_refl _)
        have hz2 := hb2.size
        have hz3 := hb3.size
        have hz1 := hb1.size
        have hbw3 := hbw2.trans (hb3.mono hbw2.size)
        clear hs1 hs2 hb1 hb2 hb3
        obtain ⟨B1, e1, q1⟩ := g1.sliced hc1 (L.length - m) (by omega)
        have q3 := hs3.take m
        have hLn := HLn.out
        have hHn := HHn.out
        have hRn := HRn.out
        rw [ByteArray.size_extract] at hLn hHn hRn
        have HK3 : Hid ((if m < R.length then (m : Int) else (R.length : Int)).toNat = (R.take m).length) := by
          show _ = _
          rw [List.length_take]
          split <;> omega
        have K1 : ∀ wx, Below w3.heap.size w3 wx → Calls Tryd.prog 28 #[.string (s.extract p a), .slice B1 (L.drop (L.length - m)).length (c1 - (L.length - m))] wx fun e w' => e = .returned (.string (enc (L.drop (L.length - m)))) ∧ Below w3.heap.size w3 w' := by
          intro wx hx
          have hz := hx.size
          refine (mended_any _ B1 _ w.heap.size (L.drop (L.length - m)) wx (by rw [ByteArray.size_extract]; omega) (by rw [List.length_drop]; omega) ((q1.below vPiece_good hx (by omega)).wide vPiece_good (Nat.le_refl _) (by omega)) HLi.out).mono ?_
          rintro e w' ⟨rfl, hy⟩
          exact ⟨rfl, hx.trans (hy.mono hz)⟩
        have K2 : ∀ wx, Below w3.heap.size w3 wx → Calls Tryd.prog 28 #[.string (s.extract a (a + n)), .slice A2 H.length c2] wx fun e w' => e = .returned (.string (enc H)) ∧ Below w3.heap.size w3 w' := by
          intro wx hx
          have hz := hx.size
          refine (mended_any _ A2 _ w1.heap.size H wx (by rw [ByteArray.size_extract]; omega) (by omega) ((g2.below vPiece_good hx (by omega)).wide vPiece_good (Nat.le_refl _) (by omega)) HHi.out).mono ?_
          rintro e w' ⟨rfl, hy⟩
          exact ⟨rfl, hx.trans (hy.mono hz)⟩
        have K3 : ∀ wx, Below w3.heap.size w3 wx → Calls Tryd.prog 28 #[.string (s.extract (a + n) E), .slice A3 (R.take m).length c3] wx fun e w' => e = .returned (.string (enc (R.take m))) ∧ Below w3.heap.size w3 w' := by
          intro wx hx
          have hz := hx.size
          refine (mended_any _ A3 _ w2.heap.size (R.take m) wx (by rw [ByteArray.size_extract]; omega) (by rw [List.length_take]; omega) ((q3.below vPiece_good hx (by omega)).wide vPiece_good (Nat.le_refl _) (by omega)) HRi.out).mono ?_
          rintro e w' ⟨rfl, hy⟩
          exact ⟨rfl, hx.trans (hy.mono hz)⟩
        have hd : Below w3.heap.size w3 w3.drew := below_drewN (Below.refl _ _) 1
        rw [← e1] at K1
        have HK : Hid ((if m < L.length then (L.length : Int) - (m : Int) else 0).toNat = L.length - m) := by
          show _ = _
          split <;> omega
        have K1 := Lib.hid K1
        have K2 := Lib.hid K2
        have K3 := Lib.hid K3
        have e1 := Lib.hid e1
        clear g1 g2 hs3 q1 q3
        go_upto_region 15 with (fail)
        refine wp_region_class (fun wx => Below w3.heap.size w3 wx) (by kernel_rfl) (by kernel_rfl) hd ?_
        repeat (first
          | go_big_quiet_skip
          | (go_big_quiet_want; go_big_quiet_op; first
              | go_big_quiet_on
              | (apply Exists.intro
                 refine ⟨fun wx hx => ?_, ?_⟩
                 · (first
                    | exact rfl
                    | (go_at_call_of 28 (Value.string (s.extract p a)); simp only [HK.out]; exact K1.out wx hx)
                    | (go_at_call_of 28 (Value.string (s.extract a (a + n))); with_reducible exact K2.out wx hx)
                    | (go_at_call_of 28 (Value.string (s.extract (a + n) E)); simp only [HK3.out]; exact K3.out wx hx))
                 go_big_quiet_on)))
        refine wpQuiet_nil ?_
        intro w5 hq
        have hb6 : Below w.heap.size w w5 := hbw3.trans (hq.mono (by omega))
        clear K1 K2 K3
        go_wp2_with fail
        all_goals exact bodyPost_ret (v := .tuple #[.string (enc (L.drop (L.length - m))), .string (enc H), .string (enc (R.take m)), .int .i64 0]) (by simp [results, Tryd.results11, go_sem]) rfl ⟨HF.out, hb6⟩
end Go.Proofs.YtokdpfapakemmaaDoor
