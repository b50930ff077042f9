/- The program's Len, Part, and corpus.part. -/
import Derived.Test.YtokdpfapakemmaaDoorBackP
import Derived.Test.YtokdpfapakemmaaDoorLineSpec
import Derived.Test.YtokdpfapakemmaaDoorMended
import Derived.Deep.RegionWith
import Derived.Laws.EntriesVeiled
namespace Go.Proofs.YtokdpfapakemmaaDoor
open Go.RowKit Go.Lib
set_option linter.unusedVariables false

set_option maxHeartbeats 2000000 in
theorem len_any (s : ByteArray) (w : World) (hs : s.size ≤ 65536) :
    Calls Tryd.prog 47 #[.string s] w fun e w' => e = .returned (.tuple #[.int .i64 (pcs s).length, .int .i64 0]) ∧ Below w.heap.size w w' := by
  have h := Tryd.utf8_RuneCountInString s w (by omega)
  rw [runeCount_eq] at h
  have H := Lib.hid h
  clear h
  go_enter Tryd.func47, Tryd.ntmps47
  go_wp2_with (go_at_call 29; refine (long_rok s _ hs).mono ?_; rintro e w' ⟨rfl, rfl⟩)
  refine H.out.mono ?_
  rintro e w' ⟨rfl, pos, rfl⟩
  go_wp2_with fail
  go_ret2
  exact ⟨rfl, below_iter (Below.refl _ _) (Nat.le_refl _) _ _⟩

set_option maxHeartbeats 2000000 in
theorem place_any (s : ByteArray) (A : Option Addr) (c bl bs i lo : Nat) (w : World) (hs : s.size ≤ 65536) (hsl : Sl 4 vPiece w lo w.heap.size A (pcs s)) (hr : Row w bl 57 [.slice A (pcs s).length c]) (hrs : Row w bs 9 [.string s]) (hi : i ≤ (pcs s).length) :
    Calls Tryd.prog 71 #[.int .i64 (i : Int), .pointer (some ⟨bl, 0, none⟩), .pointer (some ⟨bs, 0, none⟩)] w fun e w' => e = .returned (.int .i64 (placeOf s 0 i)) ∧ w = w' := by
  have hpl := pcs_le s
  obtain ⟨c0, f0⟩ := hr.cel (i := 0) rfl
  obtain ⟨c1, f1⟩ := hrs.cel (i := 0) rfl
  by_cases h : i = (pcs s).length
  · have hall := placeOf_all s 0 (by omega)
    rw [show (pcsFrom s 0).length = i from h.symm] at hall
    have HA := Lib.hid hall
    clear hall
    rw [← h] at c0
    have hd : ((i : Int) == (i : Int)) = true := by simp
    clear hsl hr
    go_enter Tryd.func71, Tryd.ntmps71
    go_wp2_with fail
    go_ret
    exact ⟨by rw [HA.out]; rfl, rfl⟩
  · have hlt : i < (pcs s).length := by omega
    obtain ⟨b, off, rfl, _, hb, _, ⟨c2, f2⟩, _, _, hok⟩ := pc_at hsl hlt
    have hat := pcs_at s 0 i hlt
    have e : (pcs s)[i].at_ = placeOf s 0 i := by
      have : (pcs s)[i] = pcAt s (placeOf s 0 i) := hat.1
      rw [this]
      rfl
    rw [e] at c2
    have hd : ((i : Int) == ((pcs s).length : Int)) = false := by rw [beq_eq_false_iff_ne]; omega
    clear hat e hok hsl
    generalize placeOf s 0 i = P at *
    go_enter Tryd.func71, Tryd.ntmps71
    go_wp2_with fail
    go_ret
    exact ⟨rfl, rfl⟩

set_option maxHeartbeats 4000000 in
set_option maxRecDepth 100000 in
theorem part_any (s : ByteArray) (a b : Nat) (w : World) (hs : s.size ≤ 65536) (hT : Utf8Tabs 1 2 w) (hab : a ≤ b) (hb : b ≤ (pcs s).length) :
    Calls Tryd.prog 48 #[.string s, .int .i64 (a : Int), .int .i64 (b : Int)] w fun e w' => e = .returned (.tuple #[.string (s.extract (placeOf s 0 a) (placeOf s 0 b)), .int .i64 0]) ∧ Below w.heap.size w w' := by
  have hpl := pcs_le s
  have hp1 := placeOf_le s a 0 (by omega)
  have hp2 := placeOf_le s b 0 (by omega)
  have hp3 : placeOf s 0 a ≤ placeOf s 0 b := by
    have := placeOf_add s a 0 (b - a)
    rw [show a + (b - a) = b by omega] at this
    have h := placeOf_le s (b - a) (placeOf s 0 a) hp1.2
    omega
  have hal : Below w.heap.size w (w.alloc (.cells #[.string s] 9)) := (Below.refl _ _).alloc (Nat.le_refl _) _
  have hr0 := Row.new w 9 [.string s]
  obtain ⟨c0, f0⟩ := hr0.cel (i := 0) rfl
  have hcall := pieces_any s (w.alloc (.cells #[.string s] 9)) hs (Utf8Tabs_below hT hal)
  have HC := Lib.hid hcall
  clear hcall
  have d1 : ¬ ((b : Int) < (a : Int)) := by omega
  have d2 : ¬ (((pcs s).length : Int) < (b : Int)) := by omega
  have d2' : decide (((pcs s).length : Int) < (b : Int)) = false := by simpa using d2
  have d3 : decide ((pcs s).length < b) = false := by rw [decide_eq_false_iff_not]; omega
  have d4 : decide ((b : Int) < (a : Int)) = false := by simpa using d1
  have d5 : decide (b < a) = false := by rw [decide_eq_false_iff_not]; omega
  go_enter Tryd.func48, Tryd.ntmps48
  go_wp2_with fail
  refine HC.out.mono ?_
  rintro e w1 ⟨A, c, rfl, h1, h2, h3, hb1⟩
  have hz1 := hb1.size
  simp only [World.size_alloc] at hz1
  have hr1 := hr0.below hb1 (by simp)
  have hal2 : Below w1.heap.size w1 (w1.alloc (.cells #[.slice A (pcs s).length c] 57)) := (Below.refl _ _).alloc (Nat.le_refl _) _
  have hr2 := hr1.below hal2 hr1.lt
  have hr3 := Row.new w1 57 [.slice A (pcs s).length c]
  have hsl := h3.below vPiece_good hal2 (Nat.le_refl _)
  have hbw : Below w.heap.size w (w1.alloc (.cells #[.slice A (pcs s).length c] 57)) := (hal.trans (hb1.mono (by simp))).trans (hal2.mono (by omega))
  have hl3 := hr3.lt
  have hl2 := hr2.lt
  have hl1 := hr1.lt
  generalize hW : w1.alloc (.cells #[.slice A (pcs s).length c] 57) = W at *
  obtain ⟨c2, f2⟩ := hr2.cel (i := 0) rfl
  obtain ⟨c3, f3⟩ := hr3.cel (i := 0) rfl
  have HW := Lib.hid hW
  have hWz : W.heap.size = w1.heap.size + 1 := by rw [← hW]; simp
  clear hW
  have K : ∀ i, i ≤ (pcs s).length → ∀ wx, Below W.heap.size W wx → Calls Tryd.prog 71 #[.int .i64 (i : Int), .pointer (some ⟨w1.heap.size, 0, none⟩), .pointer (some ⟨w.heap.size, 0, none⟩)] wx fun e w' => e = .returned (.int .i64 (placeOf s 0 i)) ∧ Below W.heap.size W w' := by
    intro i hi wx hx
    have hz := hx.size
    refine (place_any s A c w1.heap.size w.heap.size i (w.heap.size + 1) wx hs ((hsl.below vPiece_good hx (by omega)).wide vPiece_good (by simp) (by omega)) (hr3.below hx hl3) (hr2.below hx hl2) hi).mono ?_
    rintro e w' ⟨rfl, rfl⟩
    exact ⟨rfl, hx⟩
  have K1 := Lib.hid (K a (by omega))
  have K2 := Lib.hid (K b hb)
  clear K
  go_wp2_with fail
  rw [HW.out]
  have HWZ := Lib.hid hWz
  clear hWz
  have hbz := hbw.size
  have HCel : Hid (∀ wx, Below W.heap.size W wx → wx.cell? ⟨w.heap.size, 0, none⟩ = some (.string s)) := fun wx hx => ((Cel.keep (Kp.of_below hx) (Nat.zero_le _) (by omega) ⟨c2, f2⟩)).1
  have hd : Below W.heap.size W W.drew := below_drewN (Below.refl _ _) 1
  clear hr2 hr3 hr1 hsl h3
  refine wp_region_class (fun wx => Below W.heap.size W wx) (by kernel_rfl) (by kernel_rfl) hd ?_
  repeat (first
    | go_big_quiet_skip
    | (go_big_quiet_want; go_big_quiet_op; first
        | go_big_quiet_on
        | (apply Exists.intro
           refine ⟨fun wx hx => ?_, ?_⟩
           · (first
              | exact rfl
              | (have e1 := HCel.out wx hx; simp only [e1, Result.andThen]; exact ⟨trivial, rfl⟩)
              | (go_at_call_of 71 (Value.int .i64 (a : Int)); with_reducible exact K1.out wx hx)
              | (go_at_call_of 71 (Value.int .i64 (b : Int)); with_reducible exact K2.out wx hx))
           go_big_quiet_on)))
  refine wpQuiet_nil ?_
  intro w5 hq
  have hb6 : Below w.heap.size w w5 := hbw.trans (hq.mono (by omega))
  clear K1 K2 HCel
  go_wp2_with fail
  all_goals go_ret2
  all_goals exact ⟨rfl, hb6⟩

/-- Some of the pieces of a text, mended. -/
def partS (s : ByteArray) (m : Nat) (last : Bool) : ByteArray := enc (if last then (pcs s).drop ((pcs s).length - m) else (pcs s).take m)
set_option maxHeartbeats 4000000 in
set_option maxRecDepth 100000 in
theorem cpart_any (s : ByteArray) (m : Nat) (last : Bool) (w : World) (hs : s.size ≤ 65536) (hm : m ≤ 65536) (hT : Utf8Tabs 1 2 w) :
    Calls Tryd.prog 27 #[.string s, .int .i64 (m : Int), .bool last] w fun e w' => e = .returned (.string (partS s m last)) ∧ Below w.heap.size w w' := by
  have hpl := pcs_le s
  have hp2 : ∀ k, placeOf s 0 k ≤ s.size := fun k => (placeOf_le s k 0 (by omega)).2
  have hsz : ∀ a b, (s.extract a b).size ≤ 65536 := fun a b => by rw [ByteArray.size_extract]; omega
  obtain ⟨a, b, hab, hb, ha0, hb0, hE⟩ : ∃ a b : Nat, a ≤ b ∧ b ≤ (pcs s).length ∧ (if last then (a : Int) = max ((pcs s).length - m : Int) 0 else a = 0) ∧ (if last then b = (pcs s).length else (b : Int) = min ((pcs s).length : Int) m) ∧ enc (pcs (s.extract (placeOf s 0 a) (placeOf s 0 b))) = partS s m last := by
    cases last with
    | true =>
      refine ⟨(pcs s).length - m, (pcs s).length, by omega, by omega, by simp; omega, by simp, ?_⟩
      have h := enc_part s ((pcs s).length - m) ((pcs s).length - ((pcs s).length - m))
      rw [show (pcs s).length - m + ((pcs s).length - ((pcs s).length - m)) = (pcs s).length by omega] at h
      rw [h, List.take_of_length_le (by rw [List.length_drop]; omega)]
      rfl
    | false =>
      refine ⟨0, min (pcs s).length m, by omega, by omega, by simp, by simp; omega, ?_⟩
      have h := enc_part s 0 (min (pcs s).length m)
      rw [Nat.zero_add] at h
      rw [h, List.drop_zero]
      unfold partS
      simp only [Bool.false_eq_true, if_false]
      by_cases hh : (pcs s).length ≤ m
      · rw [Nat.min_eq_left hh, List.take_length, List.take_of_length_le hh]
      · rw [Nat.min_eq_right (by omega)]
  have K1 := Lib.hid (len_any s w hs)
  have K2 := Lib.hid (fun wx hx => part_any s a b wx hs hx hab hb)
  have K3 := Lib.hid (fun wx => back_any (s.extract (placeOf s 0 a) (placeOf s 0 b)) wx (hsz _ _))
  rw [hE] at K3
  generalize partS s m last = E at *
  generalize (pcs s).length = n at *
  clear hE hsz hp2
  cases last with
  | true =>
    simp only [if_true] at ha0 hb0
    subst hb0
    have HA := Lib.hid ha0
    clear ha0
    go_enter Tryd.func27, Tryd.ntmps27
    go_wp2_with fail
    refine K1.out.mono ?_
    rintro e w1 ⟨rfl, hb1⟩
    have hT1 := Utf8Tabs_below hT hb1
    go_wp2_with fail
    rw [← HA.out]
    refine (K2.out _ hT1).mono ?_
    rintro e w2 ⟨rfl, hb2⟩
    go_wp2_with fail
    refine (K3.out _).mono ?_
    rintro e w3 ⟨rfl, hb3⟩
    have hfin := (hb1.trans (hb2.mono hb1.size)).trans (hb3.mono (Nat.le_trans hb1.size hb2.size))
    go_wp2_with fail
    go_ret
    exact ⟨rfl, hfin⟩
  | false =>
    simp only [Bool.false_eq_true, if_false] at ha0 hb0
    subst ha0
    have HA := Lib.hid hb0
    clear hb0
    go_enter Tryd.func27, Tryd.ntmps27
    go_wp2_with fail
    refine K1.out.mono ?_
    rintro e w1 ⟨rfl, hb1⟩
    have hT1 := Utf8Tabs_below hT hb1
    go_wp2_with fail
    rw [← HA.out]
    refine (K2.out _ hT1).mono ?_
    rintro e w2 ⟨rfl, hb2⟩
    go_wp2_with fail
    refine (K3.out _).mono ?_
    rintro e w3 ⟨rfl, hb3⟩
    have hfin := (hb1.trans (hb2.mono hb1.size)).trans (hb3.mono (Nat.le_trans hb1.size hb2.size))
    go_wp2_with fail
    go_ret
    exact ⟨rfl, hfin⟩
end Go.Proofs.YtokdpfapakemmaaDoor
