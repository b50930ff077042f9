/- feature.Check, walked. -/
import Derived.Test.YtimhlnndobfehaaDoorMc06
namespace Go.Proofs.YtimhlnndobfehaaDoor
open Go.RowKit
set_option linter.unusedVariables false

theorem zero_bool (w : World) : (zeroValue 4).run Tryd.prog w = .ok (.bool false) w := by kernel_rfl
theorem key_str (s : ByteArray) (h : s.size ≤ maxLen) : keyOf Tryd.prog 9 (.string s) = some (.string s.data.toList) := by
  rw [keyOf_string Tryd.underlying9]
  simp [mapKey, Tryd.underlying9, h]
theorem key_rune {r : Int} (h : -2147483648 ≤ r ∧ r ≤ 2147483647) : keyOf Tryd.prog 21 (.int .i32 r) = some (.int .i32 r) :=
  Maps.keyOf_int_mk Tryd.underlying21 (by simp [Lit.wf, IntKind.min, IntKind.max, IntKind.signed, IntKind.bits]; omega)

theorem alE_no {a : Al} (h : ¬ (a.feats.length ≤ 24 ∧ 1 ≤ a.lets.length ∧ a.lets.length ≤ 128)) : alE a = 7 := by
  unfold alE alOk
  rw [if_neg]
  simp only [Bool.and_eq_true, decide_eq_true_eq]
  omega
theorem alE_in {a : Al} (h1 : a.feats.length ≤ 24) (h2 : 1 ≤ a.lets.length) (h3 : a.lets.length ≤ 128) : alE a = if (namesOk [] a.feats && letsOk a.feats.length [] a.lets) = true then 0 else 7 := by
  unfold alE alOk
  rw [decide_eq_true h1, decide_eq_true h2, decide_eq_true h3]
  simp only [Bool.true_and]
theorem namesOk_step (seen : List (List UInt8)) (l : List ByteArray) (k : Nat) (h : k < l.length) : namesOk seen (l.drop k) = (nameOk l[k] && !decide (l[k].data.toList ∈ seen) && namesOk (l[k].data.toList :: seen) (l.drop (k + 1))) := by
  rw [List.drop_eq_getElem_cons h]
  rfl
theorem letsOk_step (n : Nat) (seen : List Int) (l : List Lt) (k : Nat) (h : k < l.length) : letsOk n seen (l.drop k) = (letterOk l[k].rune && !decide (l[k].rune ∈ seen) && classOk n l[k].plus l[k].minus && letsOk n (l[k].rune :: seen) (l.drop (k + 1))) := by
  rw [List.drop_eq_getElem_cons h]
  rfl

def Loop1 (a : Al) (w : World) (v1 v2 : Value) (i : Value) (wr : World) : Prop :=
  ∃ (k : Nat) (seen : List (List UInt8)), k ≤ a.feats.length ∧ i = .int .i64 (k : Int) ∧ namesOk [] a.feats = namesOk seen (a.feats.drop k) ∧ MapB Tryd.prog 9 4 wr (w.heap.size + 1) k (seenS seen) ∧ Row wr w.heap.size 25 [v1, v2] ∧ Below w.heap.size w wr
def Loop2 (a : Al) (w : World) (v1 v2 : Value) (bm : Nat) (i : Value) (wr : World) : Prop :=
  ∃ (k : Nat) (seen : List Int), k ≤ a.lets.length ∧ i = .int .i64 (k : Int) ∧ letsOk a.feats.length [] a.lets = letsOk a.feats.length seen (a.lets.drop k) ∧ MapB Tryd.prog 21 4 wr bm k (seenR seen) ∧ Row wr w.heap.size 25 [v1, v2] ∧ w.heap.size ≤ bm ∧ Below w.heap.size w wr

set_option maxHeartbeats 4000000 in
set_option maxRecDepth 100000 in
theorem check_any (A1 A2 : Option Addr) (c1 c2 lo : Nat) (a : Al) (w : World) (hin : AlIn w lo w.heap.size A1 A2 a) :
    Calls Tryd.prog 44 #[.agg #[.slice A1 a.feats.length c1, .slice A2 a.lets.length c2]] w fun e w' => e = .returned (.int .i64 (alE a)) ∧ Below w.heap.size w w' := by
  have hn1 := hin.n1
  have hn2 := hin.n2
  have hal : Below w.heap.size w (w.alloc (.cells #[.slice A1 a.feats.length c1, .slice A2 a.lets.length c2] 25)) := (Below.refl _ _).alloc (Nat.le_refl _) _
  by_cases hlen : a.feats.length ≤ 24 ∧ 1 ≤ a.lets.length ∧ a.lets.length ≤ 128
  · obtain ⟨h1, h2, h3⟩ := hlen
    have HE := Lib.hid (alE_in h1 h2 h3)
    have hmm := @run_makeMap Tryd.prog
    have hst : Loop1 a w (.slice A1 a.feats.length c1) (.slice A2 a.lets.length c2) (.int .i64 0) ((w.alloc (.cells #[.slice A1 a.feats.length c1, .slice A2 a.lets.length c2] 25)).alloc (.map #[] 0)) := by
      refine ⟨0, [], by omega, rfl, rfl, ?_, (Row.new w _ _).alloc _, hal.alloc (by simp) _⟩
      have := MapB.made (w.alloc (.cells #[.slice A1 a.feats.length c1, .slice A2 a.lets.length c2] 25)) Tryd.prog 9 4
      rw [← seenS_nil]
      simpa using this
    have HST := Lib.hid hst
    clear hst
    go_enter Tryd.func44, Tryd.ntmps44
    go_wp2_with fail
    go_loopw [29] (fun i wr => Loop1 a w (.slice A1 a.feats.length c1) (.slice A2 a.lets.length c2) i wr) (fun i _ => a.feats.length - (intOf i).toNat)
    case atStart => exact HST.out
    case round =>
      clear HST hal
      obtain ⟨k, seen, hk, rfl, hnm, hmap, hr, hb⟩ := hrel
      have HNM := Lib.hid hnm
      clear hnm
      have hbs := hb.size
      have hrl := hr.lt
      obtain ⟨q0, f0⟩ := hr.cel (i := 0) rfl
      obtain ⟨q1, f1⟩ := hr.cel (i := 1) rfl
      by_cases hlt : k < a.feats.length
      · obtain ⟨b, off, rfl, _, hbb, ⟨cs, fs⟩, hsz⟩ := strs_at (hin.f.below vStr_good hb (Nat.le_refl _)) hlt
        have hstep := namesOk_step seen a.feats k hlt
        have hkey := key_str a.feats[k] hsz
        have hse := seenS_eq seen a.feats[k].data.toList
        generalize a.feats[k] = f at *
        have HS := Lib.hid hstep
        have HK := Lib.hid hkey
        have HSE := Lib.hid hse
        have HIN := Lib.hid hin
        clear hstep hkey hse hin
        have hcall := Lib.hid (fun w => named_any f w hsz)
        cases hno : nameOk f with
        | false =>
          have HF : Hid (alE a = 7) := by show _ = _; rw [HE.out, HNM.out, HS.out, hno]; rfl
          rw [hno] at hcall
          clear hno HS HE HNM
          go_wp2_with fail
          refine (hcall.out _).mono ?_
          rintro e w1 ⟨rfl, hb1⟩
          go_wp2_with fail
          go_ret
          exact ⟨by rw [HF.out]; rfl, hb.trans (hb1.mono hbs)⟩
        | true =>
          rw [hno] at hcall
          go_wp2_with fail
          refine (hcall.out _).mono ?_
          rintro e w1 ⟨rfl, hb1⟩
          have hmap1 := hmap.below hb1 hmap.lt
          have hr1 := hr.below hb1 hrl
          have hb1' := hb.trans (hb1.mono hbs)
          clear q0 f0 q1 f1 cs fs
          cases hsn : decide (f.data.toList ∈ seen) with
          | true =>
            have HF : Hid (alE a = 7) := by show _ = _; rw [HE.out, HNM.out, HS.out, hsn]; simp
            have hv : seenS seen (.string f.data.toList) = true := HSE.out.trans hsn
            clear hno HS HE HNM hsn HSE
            go_wp2_with (at_lookup; refine wpList_lookup_mapB (by rfl) _ _ 113 rfl 9 4 (Maps.string_keyed Tryd.underlying9) Tryd.underlying113 Tryd.underlying4 (zero_bool _) (w.heap.size + 1) k (seenS seen) rfl hmap1 _ _ rfl HK.out ?_)
            go_ret
            exact ⟨by rw [HF.out]; rfl, hb1'⟩
          | false =>
            have hv : seenS seen (.string f.data.toList) = false := HSE.out.trans hsn
            have HN2 : Hid (namesOk [] a.feats = namesOk (f.data.toList :: seen) (a.feats.drop (k + 1))) := by show _ = _; rw [HNM.out, HS.out, hno, hsn]; rfl
            clear hno HS HNM hsn HSE
            go_wp2_with (first
              | (at_lookup; refine wpList_lookup_mapB (by rfl) _ _ 113 rfl 9 4 (Maps.string_keyed Tryd.underlying9) Tryd.underlying113 Tryd.underlying4 (zero_bool _) (w.heap.size + 1) k (seenS seen) rfl hmap1 _ _ rfl HK.out ?_)
              | (at_mapUpdate; refine wpList_update_mapB (by rfl) _ _ _ 113 rfl 9 4 (Maps.string_keyed Tryd.underlying9) Tryd.underlying113 Tryd.underlying4 (w.heap.size + 1) k (seenS seen) rfl hmap1 (by unfold maxLen; omega) _ true _ rfl rfl HK.out trivial ?_))
            intro w2 hmap2 hgr2
            rw [seenS_cons] at hmap2
            have hr2 := hr1.grown hgr2 (by simp)
            have hb2 := hb1'.grown hgr2 hb1'.size (fun j hj => by simp only [Option.some.injEq] at hj; omega)
            clear hgr2 hmap1 hr1 hb1' hcall HE HK hv HIN
            go_wp2_with fail
            exact ⟨⟨k + 1, _, by omega, by go_num, HN2.out, hmap2, hr2, hb2⟩, by simp [intOf]; omega⟩
      · obtain rfl : k = a.feats.length := by omega
        have HT : Hid (namesOk [] a.feats = true) := by show _ = _; rw [HNM.out, List.drop_length]; rfl
        have HE2 : Hid (alE a = if letsOk a.feats.length [] a.lets = true then 0 else 7) := by show _ = _; rw [HE.out, HT.out, Bool.true_and]
        clear HT HE HNM hmap
        have hst : Loop2 a w (.slice A1 a.feats.length c1) (.slice A2 a.lets.length c2) wr.heap.size (.int .i64 0) (wr.alloc (.map #[] 0)) :=
          ⟨0, [], by omega, rfl, rfl, by rw [← seenR_nil]; exact MapB.made wr Tryd.prog 21 4, hr.alloc _, hbs, hb.alloc hbs _⟩
        have HST := Lib.hid hst
        clear hst
        go_wp2_with fail
        clear hr hb hrl q0 f0 q1 f1
        generalize wr.heap.size = bm at *
        go_loopw [48] (fun i wr' => Loop2 a w (.slice A1 a.feats.length c1) (.slice A2 a.lets.length c2) bm i wr') (fun i _ => a.lets.length - (intOf i).toNat)
        case atStart => exact HST.out
        case round =>
          clear HST hbs
          rename_i wr0 wr
          obtain ⟨k, seen, hk, rfl, hnm, hmap, hr, hbm, hb⟩ := hrel
          have HNM := Lib.hid hnm
          clear hnm
          have hbs := hb.size
          have hrl := hr.lt
          by_cases hlt : k < a.lets.length
          · obtain ⟨b, off, rfl, _, hbb, ⟨x0, y0⟩, ⟨x1, y1⟩, ⟨x2, y2⟩, hrr, hpp, hmm'⟩ := lt_at (hin.l.below vLt_good hb (Nat.le_refl _)) hlt
            have hstep := letsOk_step a.feats.length seen a.lets k hlt
            have hkey := key_rune hrr
            have hse := seenR_eq seen a.lets[k].rune
            generalize a.lets[k] = l at *
            have HS := Lib.hid hstep
            have HK := Lib.hid hkey
            have HSE := Lib.hid hse
            have HIN := Lib.hid hin
            clear hstep hkey hse hin
            have hcall := Lib.hid (fun w => lettered_any l.rune w hrr.1 hrr.2)
            have hwith := Lib.hid (fun w => within_any A1 (some ⟨b, off, none⟩) a.feats.length c1 a.lets.length c2 l.plus l.minus w h1 hpp hmm')
            have hal1 : Below wr.heap.size wr (wr.alloc (.cells #[.int .i32 l.rune, .int .u32 (l.plus : Int), .int .u32 (l.minus : Int)] 89)) := (Below.refl _ _).alloc (Nat.le_refl _) _
            have hr1 := hr.below hal1 hrl
            have hmap1 := hmap.below hal1 hmap.lt
            have hbA := hb.trans (hal1.mono hbs)
            have hrB := Row.new wr 89 [.int .i32 l.rune, .int .u32 (l.plus : Int), .int .u32 (l.minus : Int)]
            obtain ⟨q0, f0⟩ := hr.cel (i := 0) rfl
            obtain ⟨q1, f1⟩ := hr.cel (i := 1) rfl
            cases hno : letterOk l.rune with
            | false =>
              have HF : Hid (alE a = 7) := by show _ = _; rw [HE2.out, HNM.out, HS.out, hno]; rfl
              rw [hno] at hcall
              clear hno HS HE2 HNM
              go_wp2_with (go_at_call 67; refine (hcall.out _).mono ?_; rintro e w1 ⟨rfl, rfl⟩)
              go_ret
              exact ⟨by rw [HF.out]; rfl, hbA⟩
            | true =>
              rw [hno] at hcall
              cases hsn : decide (l.rune ∈ seen) with
              | true =>
                have HF : Hid (alE a = 7) := by show _ = _; rw [HE2.out, HNM.out, HS.out, hsn]; simp
                have hv : seenR seen (.int .i32 l.rune) = true := HSE.out.trans hsn
                clear hno HS HE2 HNM hsn HSE
                go_wp2_with (first
                  | (go_at_call 67; refine (hcall.out _).mono ?_; rintro e w1 ⟨rfl, rfl⟩)
                  | (at_lookup; refine wpList_lookup_mapB (by rfl) _ _ 115 rfl 21 4 (Maps.int_keyed Tryd.underlying21) Tryd.underlying115 Tryd.underlying4 (zero_bool _) bm k (seenR seen) rfl hmap1 _ _ rfl HK.out ?_))
                go_ret
                exact ⟨by rw [HF.out]; rfl, hbA⟩
              | false =>
                have hv : seenR seen (.int .i32 l.rune) = false := HSE.out.trans hsn
                cases hwi : classOk a.feats.length l.plus l.minus with
                | false =>
                  have HF : Hid (alE a = 7) := by show _ = _; rw [HE2.out, HNM.out, HS.out, hwi]; simp
                  rw [hwi] at hwith
                  clear hno HS HE2 HNM hsn HSE hwi
                  go_wp2_with (first
                    | (go_at_call 67; refine (hcall.out _).mono ?_; rintro e w1 ⟨rfl, rfl⟩)
                    | (at_lookup; refine wpList_lookup_mapB (by rfl) _ _ 115 rfl 21 4 (Maps.int_keyed Tryd.underlying21) Tryd.underlying115 Tryd.underlying4 (zero_bool _) bm k (seenR seen) rfl hmap1 _ _ rfl HK.out ?_))
                  refine (hwith.out _).mono ?_
                  rintro e w2 ⟨rfl, hb2⟩
                  go_wp2_with fail
                  go_ret
                  exact ⟨by rw [HF.out]; rfl, hbA.trans (hb2.mono hbA.size)⟩
                | true =>
                  have HN2 : Hid (letsOk a.feats.length [] a.lets = letsOk a.feats.length (l.rune :: seen) (a.lets.drop (k + 1))) := by show _ = _; rw [HNM.out, HS.out, hno, hsn, hwi]; rfl
                  rw [hwi] at hwith
                  clear hno HS HNM hsn HSE hwi
                  go_wp2_with (first
                    | (go_at_call 67; refine (hcall.out _).mono ?_; rintro e w1 ⟨rfl, rfl⟩)
                    | (at_lookup; refine wpList_lookup_mapB (by rfl) _ _ 115 rfl 21 4 (Maps.int_keyed Tryd.underlying21) Tryd.underlying115 Tryd.underlying4 (zero_bool _) bm k (seenR seen) rfl hmap1 _ _ rfl HK.out ?_))
                  refine (hwith.out _).mono ?_
                  rintro e w2 ⟨rfl, hb2⟩
                  have hmap2 := hmap1.below hb2 hmap1.lt
                  have hr2 := hr1.below hb2 hr1.lt
                  have hrB2 := hrB.below hb2 hrB.lt
                  have hb2' := hbA.trans (hb2.mono hbA.size)
                  obtain ⟨z0, g0⟩ := hrB2.cel (i := 0) rfl
                  clear q0 f0 q1 f1 x0 y0 x1 y1 x2 y2 hr hmap hal1 hrB
                  go_wp2_with (at_mapUpdate; refine wpList_update_mapB (by rfl) _ _ _ 115 rfl 21 4 (Maps.int_keyed Tryd.underlying21) Tryd.underlying115 Tryd.underlying4 bm k (seenR seen) rfl hmap2 (by unfold maxLen; omega) _ true _ rfl rfl HK.out trivial ?_)
                  intro w3 hmap3 hgr3
                  rw [seenR_cons] at hmap3
                  have hr3 := hr2.grown hgr3 (fun e => by
                    have := hr2
                    injection e with e
                    obtain ⟨D, ⟨es, clock, h1, _⟩, _⟩ := hmap2
                    unfold Row at this
                    rw [← e, this] at h1
                    cases h1)
                  have hb3 := hb2'.grown hgr3 hb2'.size (fun j hj => by simp only [Option.some.injEq] at hj; omega)
                  clear hgr3 hmap1 hmap2 hr1 hr2 hb2' hcall HK hv HIN hwith
                  go_wp2_with fail
                  exact ⟨⟨k + 1, _, by omega, by go_num, HN2.out, hmap3, hr3, hbm, hb3⟩, by simp [intOf]; omega⟩
          · have HF : Hid (alE a = 0) := by
              show _ = _
              rw [HE2.out, HNM.out, List.drop_eq_nil_of_le (by omega)]
              rfl
            go_wp2_with fail
            go_ret
            exact ⟨by rw [HF.out]; rfl, hb⟩
  · have HF : Hid (alE a = 7) := alE_no hlen
    rcases (show 24 < a.feats.length ∨ (a.feats.length ≤ 24 ∧ a.lets.length < 1) ∨ (a.feats.length ≤ 24 ∧ 1 ≤ a.lets.length ∧ 128 < a.lets.length) by omega) with g | ⟨g, g2⟩ | ⟨g, g2, g3⟩
    all_goals
      clear hlen
      go_enter Tryd.func44, Tryd.ntmps44
      go_wp2_with fail
      go_ret
      exact ⟨by rw [HF.out]; rfl, hal⟩
end Go.Proofs.YtimhlnndobfehaaDoor
