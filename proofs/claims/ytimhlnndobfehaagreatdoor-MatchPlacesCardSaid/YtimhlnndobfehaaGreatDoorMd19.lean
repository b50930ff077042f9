/- The document's Check of an alphabet, walked. -/
import Derived.Test.YtimhlnndobfehaaGreatDoorMd07
import Derived.Deep.DeepCutAuto
import Derived.Deep.CutBlock
namespace Go.Proofs.YtimhlnndobfehaaGreatDoor
open Go.RowKit
set_option linter.unusedVariables false

def seenF (l : List ByteArray) (k : Nat) : List (List UInt8) := ((l.take k).map fun f => f.data.toList).reverse
def seenL (l : List Lt) (k : Nat) : List Int := ((l.take k).map fun f => f.rune).reverse
theorem seenF_succ (l : List ByteArray) (k : Nat) (h : k < l.length) : seenF l (k + 1) = l[k].data.toList :: seenF l k := by
  unfold seenF
  rw [List.take_succ_eq_append_getElem h, List.map_append, List.reverse_append]
  rfl
theorem seenL_succ (l : List Lt) (k : Nat) (h : k < l.length) : seenL l (k + 1) = l[k].rune :: seenL l k := by
  unfold seenL
  rw [List.take_succ_eq_append_getElem h, List.map_append, List.reverse_append]
  rfl
theorem mem_seenF_succ (l : List ByteArray) (k : Nat) (h : k < l.length) (x : List UInt8) : decide (x ∈ seenF l (k + 1)) = (decide (x = l[k].data.toList) || decide (x ∈ seenF l k)) := by
  rw [seenF_succ l k h, Bool.eq_iff_iff]
  simp
theorem mem_seenL_succ (l : List Lt) (k : Nat) (h : k < l.length) (x : Int) : decide (x ∈ seenL l (k + 1)) = (decide (x = l[k].rune) || decide (x ∈ seenL l k)) := by
  rw [seenL_succ l k h, Bool.eq_iff_iff]
  simp

def RLoop1 (a : Al) (w : World) (v1 v2 : Value) (i : Value) (wr : World) : Prop :=
  ∃ k : Nat, k ≤ a.feats.length ∧ i = .int .i64 (k : Int) ∧ namesOk [] a.feats = namesOk (seenF a.feats k) (a.feats.drop k) ∧ Row wr w.heap.size 25 [v1, v2] ∧ Below w.heap.size w wr
def RIn1 (a : Al) (w : World) (v1 v2 : Value) (f : ByteArray) (i : Nat) (ok kv : Value) (wr : World) : Prop :=
  ∃ k : Nat, k ≤ i ∧ kv = .int .i64 (k : Int) ∧ ok = .bool (nameOk f && !decide (f.data.toList ∈ seenF a.feats k)) ∧ Row wr w.heap.size 25 [v1, v2] ∧ Below w.heap.size w wr
def RLoop2 (a : Al) (w : World) (v1 v2 : Value) (i : Value) (wr : World) : Prop :=
  ∃ k : Nat, k ≤ a.lets.length ∧ i = .int .i64 (k : Int) ∧ letsOk a.feats.length [] a.lets = letsOk a.feats.length (seenL a.lets k) (a.lets.drop k) ∧ Row wr w.heap.size 25 [v1, v2] ∧ Below w.heap.size w wr
def RIn2 (a : Al) (w : World) (v1 v2 : Value) (l : Lt) (bl i : Nat) (ok kv : Value) (wr : World) : Prop :=
  ∃ k : Nat, k ≤ i ∧ kv = .int .i64 (k : Int) ∧ ok = .bool (letterOk l.rune && classOk a.feats.length l.plus l.minus && !decide (l.rune ∈ seenL a.lets k)) ∧ Row wr w.heap.size 25 [v1, v2] ∧ Row wr bl 90 [.int .i32 l.rune, .int .u32 (l.plus : Int), .int .u32 (l.minus : Int)] ∧ Below w.heap.size w wr

set_option maxHeartbeats 4000000 in
set_option maxRecDepth 100000 in
theorem rcheck_any (A1 A2 : Option Addr) (c1 c2 lo : Nat) (a : Al) (w : World) (hin : AlIn w lo w.heap.size A1 A2 a) :
    Calls Tryz.prog 50 #[.agg #[.slice A1 a.feats.length c1, .slice A2 a.lets.length c2]] w fun e w' => e = .returned (.int .i64 (alE a)) ∧ Below w.heap.size w w' := by
  have hn1 := hin.n1
  have hn2 := hin.n2
  have hal : Below w.heap.size w (w.alloc (.cells #[.slice A1 a.feats.length c1, .slice A2 a.lets.length c2] 25)) := (Below.refl _ _).alloc (Nat.le_refl _) _
  by_cases hlen : a.feats.length ≤ 24 ∧ 1 ≤ a.lets.length ∧ a.lets.length ≤ 128
  · obtain ⟨h1, h2, h3⟩ := hlen
    have HE := Lib.hid (alE_in h1 h2 h3)
    have HST := Lib.hid (show RLoop1 a w (.slice A1 a.feats.length c1) (.slice A2 a.lets.length c2) (.int .i64 0) (w.alloc (.cells #[.slice A1 a.feats.length c1, .slice A2 a.lets.length c2] 25)) from ⟨0, by omega, rfl, rfl, Row.new w _ _, hal⟩)
    go_enter Tryz.func50, Tryz.ntmps50
    go_wp2_with fail
    go_loopw [3] (fun i wr => RLoop1 a w (.slice A1 a.feats.length c1) (.slice A2 a.lets.length c2) i wr) (fun i _ => a.feats.length - (intOf i).toNat)
    case atStart => exact HST.out
    case round =>
      clear HST hal
      obtain ⟨i, hk, rfl, hnm, hr, hb⟩ := hrel
      have HNM := Lib.hid hnm
      clear hnm
      have hbs := hb.size
      have hrl := hr.lt
      obtain ⟨q0, f0⟩ := hr.cel (i := 0) rfl
      obtain ⟨q1, f1⟩ := hr.cel (i := 1) rfl
      by_cases hlt : i < a.feats.length
      · obtain ⟨b, off, rfl, _, hbb, ⟨cs, fs⟩, hsz⟩ := strs_at (hin.f.below vStr_good hb (Nat.le_refl _)) hlt
        have hstep := namesOk_step (seenF a.feats i) a.feats i hlt
        have hss := seenF_succ a.feats i hlt
        rw [← hss] at hstep
        have hcs0 : ∀ (k : Nat) (hk : k < a.feats.length), w.cell? ⟨b, off + k, none⟩ = some (.string a.feats[k]) := fun k hk => by
          obtain ⟨b', off', e, _, _, hcc, _⟩ := strs_at hin.f hk
          simp only [Option.some.injEq, Addr.mk.injEq, and_true] at e
          obtain ⟨rfl, rfl⟩ := e
          exact hcc.1
        generalize hf : a.feats[i] = f at *
        have HFE := Lib.hid hf
        have HS := Lib.hid hstep
        have HCS := Lib.hid hcs0
        clear hstep hss hcs0 hf
        have hcall := Lib.hid (fun w => rname_any f w hsz)
        go_wp2_with (go_at_call 82; refine (hcall.out _).mono ?_; rintro e w1 ⟨rfl, rfl⟩)
        obtain ⟨wo, hwo⟩ : ∃ wo : World, wo = wr := ⟨_, rfl⟩
        subst hwo
        go_loopw [4, 5] (fun ok kv wr => RIn1 a w (.slice (some ⟨b, off, none⟩) a.feats.length c1) (.slice A2 a.lets.length c2) f i ok kv wr) (fun _ kv _ => i - (intOf kv).toNat)
        case atStart => exact ⟨0, by omega, rfl, by simp [seenF], hr, hb⟩
        case round =>
          clear hr hb hbs hrl q0 f0 q1 f1 cs fs
          obtain ⟨k, hk2, rfl, rfl, hr, hb⟩ := hrel
          have hbs := hb.size
          have hrl := hr.lt
          obtain ⟨q0, f0⟩ := hr.cel (i := 0) rfl
          obtain ⟨q1, f1⟩ := hr.cel (i := 1) rfl
          by_cases hkl : k < i
          · have hkn : k < a.feats.length := by omega
            have d1 : wr.cell? ⟨b, off + k, none⟩ = some (.string a.feats[k]) := (hb.cell (p := ⟨b, off + k, none⟩) hbb).trans (HCS.out k hkn)
            have d2 : wr.cell? ⟨b, off + i, none⟩ = some (.string f) := by rw [← HFE.out]; exact (hb.cell (p := ⟨b, off + i, none⟩) hbb).trans (HCS.out i hlt)
            have hms := mem_seenF_succ a.feats k hkn f.data.toList
            generalize a.feats[k] = g at *
            have HMS := Lib.hid hms
            clear hms
            have hi0 : 0 ≤ (k : Int) ∧ (k : Int) < (a.feats.length : Int) := by omega
            have hi1 : 0 ≤ (i : Int) ∧ (i : Int) < (a.feats.length : Int) := by omega
            obtain ⟨hi0, hi0'⟩ := hi0
            obtain ⟨hi1, hi1'⟩ := hi1
            generalize hbv : (nameOk f && !decide (f.data.toList ∈ seenF a.feats k)) = bv at *
            have HBV := Lib.hid hbv
            clear hbv
            have hfin : ∀ x : Bool, x = (nameOk f && !decide (f.data.toList ∈ seenF a.feats (k + 1))) → ∀ n, RIn1 a w (.slice (some ⟨b, off, none⟩) a.feats.length c1) (.slice A2 a.lets.length c2) f i (.bool x) (.int .i64 ((k + 1 : Nat) : Int)) (wr.drewN n) := fun x hx n => ⟨k + 1, by omega, rfl, by rw [hx], hr.drewN n, below_drewN hb n⟩
            have HFIN := Lib.hid hfin
            clear hfin
            cases bv with
            | false =>
              have hx : Hid (false = (nameOk f && !decide (f.data.toList ∈ seenF a.feats (k + 1)))) := by
                show _ = _
                have := HBV.out
                rw [HMS.out]
                cases h1 : nameOk f <;> cases h2 : decide (f.data.toList ∈ seenF a.feats k) <;> rw [h1, h2] at this <;> simp at this ⊢
              go_wp2_with fail
              go_quiet (fail)
              go_wp2_with fail
              exact ⟨HFIN.out _ hx.out _, by simp [intOf]; omega⟩
            | true =>
              by_cases he : g.toList = f.toList
              · have hx : Hid (false = (nameOk f && !decide (f.data.toList ∈ seenF a.feats (k + 1)))) := by
                  show _ = _
                  rw [ByteArray.toList_eq, ByteArray.toList_eq] at he
                  rw [HMS.out, decide_eq_true he.symm]
                  simp
                go_wp2_with fail
                go_quiet (fail)
                go_wp2_with fail
                exact ⟨HFIN.out _ hx.out _, by simp [intOf]; omega⟩
              · have hx : Hid (true = (nameOk f && !decide (f.data.toList ∈ seenF a.feats (k + 1)))) := by
                  show _ = _
                  have := HBV.out
                  have he' : ¬ f.data.toList = g.data.toList := fun e => he (by rw [ByteArray.toList_eq, ByteArray.toList_eq, e])
                  rw [HMS.out, decide_eq_false he', Bool.false_or]
                  exact this.symm
                have he2 : (g.toList == f.toList) = false := by rw [beq_eq_false_iff_ne]; exact he
                go_wp2_with fail
                go_quiet (fail)
                go_wp2_with fail
                exact ⟨HFIN.out _ hx.out _, by simp [intOf]; omega⟩
          · obtain rfl : k = i := by omega
            cases hbv : (nameOk f && !decide (f.data.toList ∈ seenF a.feats k)) with
            | false =>
              have HF : Hid (alE a = 7) := by show _ = _; rw [HE.out, HNM.out, HS.out, hbv]; rfl
              clear HE HNM HS hbv HCS
              go_wp2_with fail
              go_ret
              exact ⟨by rw [HF.out]; rfl, hb⟩
            | true =>
              have hfin : RLoop1 a w (.slice (some ⟨b, off, none⟩) a.feats.length c1) (.slice A2 a.lets.length c2) (.int .i64 ((k + 1 : Nat) : Int)) wr := ⟨k + 1, by omega, rfl, by rw [HNM.out, HS.out, hbv, Bool.true_and], hr, hb⟩
              have HFIN := Lib.hid hfin
              clear HE HNM HS hbv HCS hfin
              go_wp2_with fail
              exact ⟨HFIN.out, by simp [intOf]; omega⟩
      · obtain rfl : i = a.feats.length := by omega
        have HT : Hid (namesOk [] a.feats = true) := by show _ = _; rw [HNM.out, List.drop_length]; rfl
        have HE2 : Hid (alE a = if letsOk a.feats.length [] a.lets = true then 0 else 7) := by show _ = _; rw [HE.out, HT.out, Bool.true_and]
        have HST := Lib.hid (show RLoop2 a w (.slice A1 a.feats.length c1) (.slice A2 a.lets.length c2) (.int .i64 0) wr from ⟨0, by omega, rfl, rfl, hr, hb⟩)
        clear HT HE HNM
        go_wp2_with fail
        clear hr hb hbs hrl q0 f0 q1 f1
        go_loopw [6] (fun i wr => RLoop2 a w (.slice A1 a.feats.length c1) (.slice A2 a.lets.length c2) i wr) (fun i _ => a.lets.length - (intOf i).toNat)
        case atStart => exact HST.out
        case round =>
          clear HST
          rename_i wr0 wr
          obtain ⟨i, hk, rfl, hnm, hr, hb⟩ := hrel
          have HNM := Lib.hid hnm
          clear hnm
          have hbs := hb.size
          have hrl := hr.lt
          obtain ⟨q0, f0⟩ := hr.cel (i := 0) rfl
          obtain ⟨q1, f1⟩ := hr.cel (i := 1) rfl
          by_cases hlt : i < a.lets.length
          · obtain ⟨b, off, rfl, _, hbb, ⟨x0, y0⟩, ⟨x1, y1⟩, ⟨x2, y2⟩, hrr, hpp, hmm'⟩ := lt_at (hin.l.below vLt_good hb (Nat.le_refl _)) hlt
            have hstep := letsOk_step a.feats.length (seenL a.lets i) a.lets i hlt
            have hss := seenL_succ a.lets i hlt
            rw [← hss] at hstep
            have hcs0 : ∀ (k : Nat) (hk : k < a.lets.length), w.cell? ⟨b, off + k * 3, none⟩ = some (.int .i32 a.lets[k].rune) := fun k hk => by
              obtain ⟨b', off', e, _, _, hcc, _⟩ := lt_at hin.l hk
              simp only [Option.some.injEq, Addr.mk.injEq, and_true] at e
              obtain ⟨rfl, rfl⟩ := e
              exact hcc.1
            generalize hf : a.lets[i] = l at *
            have HFE := Lib.hid hf
            have HS := Lib.hid hstep
            have HCS := Lib.hid hcs0
            clear hstep hss hcs0 hf
            have hcall := Lib.hid (fun w => rletter_any l.rune w hrr.1 hrr.2)
            have hwith := Lib.hid (fun w => may_any A1 (some ⟨b, off, none⟩) a.feats.length c1 a.lets.length c2 l.plus l.minus w h1 hpp hmm')
            have hal1 : Below wr.heap.size wr (wr.alloc (.cells #[.int .i32 l.rune, .int .u32 (l.plus : Int), .int .u32 (l.minus : Int)] 90)) := (Below.refl _ _).alloc (Nat.le_refl _) _
            have hr1 := hr.below hal1 hrl
            have hbA := hb.trans (hal1.mono hbs)
            have hrB := Row.new wr 90 [.int .i32 l.rune, .int .u32 (l.plus : Int), .int .u32 (l.minus : Int)]
            have hE0 : Hid (RIn2 a w (.slice A1 a.feats.length c1) (.slice (some ⟨b, off, none⟩) a.lets.length c2) l wr.heap.size i (.bool (letterOk l.rune && classOk a.feats.length l.plus l.minus)) (.int .i64 0) (wr.alloc (.cells #[.int .i32 l.rune, .int .u32 (l.plus : Int), .int .u32 (l.minus : Int)] 90)) ∧
                ∀ w2, Below (wr.alloc (.cells #[.int .i32 l.rune, .int .u32 (l.plus : Int), .int .u32 (l.minus : Int)] 90)).heap.size (wr.alloc (.cells #[.int .i32 l.rune, .int .u32 (l.plus : Int), .int .u32 (l.minus : Int)] 90)) w2 →
                  RIn2 a w (.slice A1 a.feats.length c1) (.slice (some ⟨b, off, none⟩) a.lets.length c2) l wr.heap.size i (.bool (letterOk l.rune && classOk a.feats.length l.plus l.minus)) (.int .i64 0) w2) := by
              refine ⟨⟨0, by omega, rfl, by simp [seenL], hr1, hrB, hbA⟩, fun w2 h2 => ⟨0, by omega, rfl, by simp [seenL], hr1.below h2 hr1.lt, hrB.below h2 hrB.lt, hbA.trans (h2.mono hbA.size)⟩⟩
            have hr0 := hr1
            clear hr
            go_upto_region 17 with (fail)
            go_cut [8] (fun ok wc => RIn2 a w (.slice A1 a.feats.length c1) (.slice (some ⟨b, off, none⟩) a.lets.length c2) l wr.heap.size i ok (.int .i64 0) wc)
            case first =>
              obtain ⟨x0', y0'⟩ := hrB.cel (i := 0) rfl
              cases hno : letterOk l.rune with
              | false =>
                rw [hno] at hcall
                have hfin := hE0.out.1
                rw [hno, Bool.false_and] at hfin
                have HFIN := Lib.hid hfin
                clear hno hfin hE0 hrB hr0 hr1
                go_wp2_with (go_at_call 83; refine (hcall.out _).mono ?_; rintro e w1 ⟨rfl, rfl⟩)
                go_meet
                case rel => exact HFIN.out
              | true =>
                rw [hno] at hcall
                have hfin := hE0.out.2
                rw [hno, Bool.true_and] at hfin
                have HFIN := Lib.hid hfin
                clear hno hfin hE0 hrB hr0 hr1
                go_wp2_with (go_at_call 83; refine (hcall.out _).mono ?_; rintro e w1 ⟨rfl, rfl⟩)
                refine (hwith.out _).mono ?_
                rintro e w2 ⟨rfl, hb2⟩
                go_wp2_with fail
                go_meet
                case rel => exact HFIN.out _ hb2
            case rest =>
            rename_i wc
            generalize wr.heap.size = bl at *
            clear hr1 hr0 hrB hbA hal1 hE0 hb hbs q0 f0 q1 f1 x0 y0 x1 y1 x2 y2 hcall hwith
            obtain ⟨k0, hk0, hkv, rfl, hr, hrB, hb⟩ := hcut
            have hk00 : k0 = 0 := by
              injection hkv with _ e
              omega
            subst hk00
            clear hkv
            have hrl := hr.lt
            have hbl := hrB.lt
            obtain ⟨wo, hwo⟩ : ∃ wo : World, wo = wc := ⟨_, rfl⟩
            subst hwo
            go_wp2_with fail
            go_loopw [8, 9] (fun ok kv wr => RIn2 a w (.slice A1 a.feats.length c1) (.slice (some ⟨b, off, none⟩) a.lets.length c2) l bl i ok kv wr) (fun _ kv _ => i - (intOf kv).toNat)
            case atStart => exact ⟨0, by omega, rfl, rfl, hr, hrB, hb⟩
            case round =>
              clear hr hb hrB
              obtain ⟨k, hk2, rfl, rfl, hr, hrB, hb⟩ := hrel
              obtain ⟨q1, f1⟩ := hr.cel (i := 1) rfl
              obtain ⟨p0, g0⟩ := hrB.cel (i := 0) rfl
              by_cases hkl : k < i
              · have hkn : k < a.lets.length := by omega
                have d1 : wr.cell? ⟨b, off + k * 3, none⟩ = some (.int .i32 a.lets[k].rune) := (hb.cell (p := ⟨b, off + k * 3, none⟩) hbb).trans (HCS.out k hkn)
                have hms := mem_seenL_succ a.lets k hkn l.rune
                generalize a.lets[k] = g at *
                have HMS := Lib.hid hms
                clear hms
                have hi0 : 0 ≤ (k : Int) := by omega
                have hi0' : (k : Int) < (a.lets.length : Int) := by omega
                generalize hbv : (letterOk l.rune && classOk a.feats.length l.plus l.minus && !decide (l.rune ∈ seenL a.lets k)) = bv at *
                have HBV := Lib.hid hbv
                clear hbv
                have hfin : ∀ x : Bool, x = (letterOk l.rune && classOk a.feats.length l.plus l.minus && !decide (l.rune ∈ seenL a.lets (k + 1))) → ∀ n, RIn2 a w (.slice A1 a.feats.length c1) (.slice (some ⟨b, off, none⟩) a.lets.length c2) l bl i (.bool x) (.int .i64 ((k + 1 : Nat) : Int)) (wr.drewN n) := fun x hx n => ⟨k + 1, by omega, rfl, by rw [hx], hr.drewN n, hrB.drewN n, below_drewN hb n⟩
                have HFIN := Lib.hid hfin
                clear hfin
                cases bv with
                | false =>
                  have hx : Hid (false = (letterOk l.rune && classOk a.feats.length l.plus l.minus && !decide (l.rune ∈ seenL a.lets (k + 1)))) := by
                    show _ = _
                    have := HBV.out
                    rw [HMS.out]
                    cases h1 : letterOk l.rune <;> cases h2 : classOk a.feats.length l.plus l.minus <;> cases h4 : decide (l.rune ∈ seenL a.lets k) <;> rw [h1, h2, h4] at this <;> simp at this ⊢
                  go_wp2_with fail
                  go_quiet (fail)
                  go_wp2_with fail
                  exact ⟨HFIN.out _ hx.out _, by simp [intOf]; omega⟩
                | true =>
                  by_cases he : g.rune = l.rune
                  · have hx : Hid (false = (letterOk l.rune && classOk a.feats.length l.plus l.minus && !decide (l.rune ∈ seenL a.lets (k + 1)))) := by
                      show _ = _
                      rw [HMS.out, decide_eq_true he.symm]
                      simp
                    have he2 : (g.rune != l.rune) = false := by rw [bne_eq_false_iff_eq]; exact he
                    have HE3 := Lib.hid he
                    clear he
                    go_wp2_with fail
                    go_quiet (fail)
                    go_wp2_with fail
                    exact ⟨HFIN.out _ hx.out _, by simp [intOf]; omega⟩
                  · have hx : Hid (true = (letterOk l.rune && classOk a.feats.length l.plus l.minus && !decide (l.rune ∈ seenL a.lets (k + 1)))) := by
                      show _ = _
                      have := HBV.out
                      rw [HMS.out, decide_eq_false (fun e => he e.symm), Bool.false_or]
                      exact this.symm
                    have he2 : (g.rune != l.rune) = true := by rw [bne_iff_ne]; exact he
                    go_wp2_with fail
                    go_quiet (fail)
                    go_wp2_with fail
                    exact ⟨HFIN.out _ hx.out _, by simp [intOf]; omega⟩
              · obtain rfl : k = i := by omega
                have hS2 : Hid (letsOk a.feats.length (seenL a.lets k) (a.lets.drop k) = (letterOk l.rune && classOk a.feats.length l.plus l.minus && !decide (l.rune ∈ seenL a.lets k) && letsOk a.feats.length (seenL a.lets (k + 1)) (a.lets.drop (k + 1)))) := by
                  show _ = _
                  rw [HS.out]
                  cases letterOk l.rune <;> cases classOk a.feats.length l.plus l.minus <;> cases decide (l.rune ∈ seenL a.lets k) <;> rfl
                cases hbv : (letterOk l.rune && classOk a.feats.length l.plus l.minus && !decide (l.rune ∈ seenL a.lets k)) with
                | false =>
                  have HF : Hid (alE a = 7) := by show _ = _; rw [HE2.out, HNM.out, hS2.out, hbv]; rfl
                  clear HE2 HNM HS hbv HCS hS2
                  go_wp2_with fail
                  go_ret
                  exact ⟨by rw [HF.out]; rfl, hb⟩
                | true =>
                  have hfin : RLoop2 a w (.slice A1 a.feats.length c1) (.slice (some ⟨b, off, none⟩) a.lets.length c2) (.int .i64 ((k + 1 : Nat) : Int)) wr := ⟨k + 1, by omega, rfl, by rw [HNM.out, hS2.out, hbv, Bool.true_and], hr, hb⟩
                  have HFIN := Lib.hid hfin
                  clear HE2 HNM HS hbv HCS hfin hS2
                  go_wp2_with fail
                  exact ⟨HFIN.out, by simp [intOf]; omega⟩
          · have HF : Hid (alE a = 0) := by
              show _ = _
              rw [HE2.out, HNM.out, List.drop_eq_nil_of_le (by omega)]
              rfl
            go_wp2_with fail
            go_ret
            exact ⟨by rw [HF.out]; rfl, hb⟩
  · have HF : Hid (alE a = 7) := alE_no hlen
    rcases (show 24 < a.feats.length ∨ (a.feats.length ≤ 24 ∧ a.lets.length < 1) ∨ (a.feats.length ≤ 24 ∧ 1 ≤ a.lets.length ∧ 128 < a.lets.length) by omega) with g | ⟨g, g2⟩ | ⟨g, g2, g3⟩
    all_goals
      clear hlen
      go_enter Tryz.func50, Tryz.ntmps50
      go_wp2_with fail
      go_ret
      exact ⟨by rw [HF.out]; rfl, hal⟩
end Go.Proofs.YtimhlnndobfehaaGreatDoor
