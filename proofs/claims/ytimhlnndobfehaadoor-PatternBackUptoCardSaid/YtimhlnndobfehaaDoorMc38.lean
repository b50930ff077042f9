/- MatchAll: the statement's walk. -/
import Derived.Test.YtimhlnndobfehaaDoorMc37
namespace Go.Proofs.YtimhlnndobfehaaDoor
open Go.RowKit
open Go.Lib (Utf8Tabs)
set_option linter.unusedVariables false

/-- What the law asks of each place: the spans from there on. -/
structure AllAt (E : Int → List Int × Int) (sp : Nat → List (Nat × Nat)) (n i : Nat) : Prop where
  e : (E (i : Int)).2 = 0
  el : (E (i : Int)).1.length ≤ n + 1
  em : ∀ x ∈ (E (i : Int)).1, ∃ k : Nat, x = (k : Int) ∧ k ≤ 64
  nil : (E (i : Int)).1.length = 0 → sp i = sp (i + 1)
  cons : (E (i : Int)).1.length ≠ 0 → ∃ t : Nat, (E (i : Int)).1[(E (i : Int)).1.length - 1]? = some (t : Int) ∧ t ≤ n ∧ sp i = (i, t) :: sp (max (i + 1) t)
theorem all_no {a : Al} {ns : List Nd} {s : ByteArray} (h : (allM a ns s).2 ≠ 0) : (allM a ns s).1 = [] ∧ firM a ns s = (none, (allM a ns s).2) := by
  unfold allM firM at *
  by_cases hb : begE a ns s = 0
  · rw [if_neg (by simp [hb])] at h; exact absurd rfl h
  · rw [if_pos hb, if_pos hb]; exact ⟨rfl, rfl⟩
theorem all_at {a : Al} {ns : List Nd} {s : ByteArray} (h : (allM a ns s).2 = 0) : (lettersS a s).2 = 0 ∧ (lettersS a s).1.length ≤ 64 ∧ firM a ns s = ((allM a ns s).1.head?, 0) ∧ (allM a ns s).1.length ≤ (lettersS a s).1.length + 1 ∧
    ∃ sp : Nat → List (Nat × Nat), (allM a ns s).1 = sp 0 ∧ (∀ i, (lettersS a s).1.length < i → sp i = []) ∧ ∀ i, i ≤ (lettersS a s).1.length → AllAt (endsS a ns s) sp (lettersS a s).1.length i := by
  have hb : begE a ns s = 0 := by
    unfold allM at h
    by_cases hb : begE a ns s = 0
    · exact hb
    · rw [if_pos hb] at h; exact h
  have hl := (beg_zero hb).2
  have hn := matW_len hl
  have hwl := matW_length a s
  have e1 : allM a ns s = (spanL ns (matW a s) 0, 0) := by unfold allM; rw [if_neg (by simp [hb])]
  have e2 : firM a ns s = ((spanL ns (matW a s) 0).head?, 0) := by unfold firM; rw [if_neg (by simp [hb])]
  rw [← hwl]
  refine ⟨hl, hn, by rw [e1, e2], by rw [e1]; exact span_len _ _ _ _, spanL ns (matW a s), by rw [e1], fun i hi => span_end hi, fun i hi => ?_⟩
  have he : endsS a ns s (i : Int) = (endsI ns (matW a s) 0 i, 0) := ends_ok hb hi
  refine ⟨by rw [he], by rw [he]; exact endsI_len _ _ _ _, ?_, ?_, ?_⟩
  · intro x hx
    rw [he] at hx
    obtain ⟨k, hk, rfl⟩ := mem_toI.1 hx
    have := ends_le hk
    exact ⟨k, rfl, by omega⟩
  · intro h0
    rw [he] at h0
    exact span_none hi (ends_nil h0)
  · intro h0
    rw [he] at h0 ⊢
    obtain ⟨t, h1, h2, h3⟩ := ends_last (Nat.pos_of_ne_zero h0)
    exact ⟨t, h2, h3, span_some hi h1⟩
theorem spanVs_at : ∀ {l : List (Nat × Nat)} {k : Nat} {x : Nat × Nat}, l[k]? = some x → (spanVs l)[k * 2]? = some (.int .i64 (x.1 : Int)) ∧ (spanVs l)[k * 2 + 1]? = some (.int .i64 (x.2 : Int))
  | [], k, x, h => by simp at h
  | y :: r, 0, x, h => by
    simp only [List.getElem?_cons_zero, Option.some.injEq] at h
    subst h
    exact ⟨rfl, rfl⟩
  | y :: r, k + 1, x, h => by
    rw [List.getElem?_cons_succ] at h
    have ih := spanVs_at h
    have e : spanVs (y :: r) = .int .i64 (y.1 : Int) :: .int .i64 (y.2 : Int) :: spanVs r := rfl
    rw [e, show (k + 1) * 2 = k * 2 + 1 + 1 by omega, show k * 2 + 1 + 1 + 1 = (k * 2 + 1) + 1 + 1 by omega]
    simpa only [List.getElem?_cons_succ] using ih
/-- Spans that stand in the heap. -/
structure Sps (A : Option Addr) (c : Nat) (l : List (Nat × Nat)) (w : World) : Prop where
  own : ∃ base, w.ownsRow base 62 2 (.slice A l.length c) l.length (spanVs l)
theorem Sps.on {A : Option Addr} {c : Nat} {l : List (Nat × Nat)} {w w' : World} (h : Sps A c l w) (hb : Below w.heap.size w w') : Sps A c l w' := by
  obtain ⟨b, h⟩ := h
  exact ⟨b, own_below h hb⟩
theorem Sps.at_ {A : Option Addr} {c : Nat} {l : List (Nat × Nat)} {w : World} (h : Sps A c l w) {k : Nat} {x : Nat × Nat} (hx : l[k]? = some x) :
    ∃ g, A = some ⟨g, 0, none⟩ ∧ g < w.heap.size ∧ w.cell? ⟨g, k * 2, none⟩ = some (.int .i64 (x.1 : Int)) ∧ w.cell? ⟨g, k * 2 + 1, none⟩ = some (.int .i64 (x.2 : Int)) := by
  obtain ⟨hk, _⟩ := List.getElem?_eq_some_iff.1 hx
  obtain ⟨b, h⟩ := h
  obtain ⟨g, c', e, _, _, _, h2⟩ := own_pos h (by omega)
  injection e with e1 _ e2
  subst e1 e2
  obtain ⟨h3, h4⟩ := spanVs_at hx
  exact ⟨g, rfl, h2, (own_cel h h3).1, (own_cel h h4).1⟩
set_option maxHeartbeats 8000000 in
set_option maxRecDepth 100000 in
theorem all_walk (A1 A2 An : Option Addr) (c1 c2 cn : Nat) (a : Al) (ns : List Nd) (s : ByteArray) (w : World) (hin : AlIn w 0 w.heap.size A1 A2 a) (hT : Utf8Tabs 0 1 w) (hns : Sl 5 vNd w 0 w.heap.size An ns) (hm : ns.length ≤ 9223372036854775807) (hs : s.size ≤ maxLen) :
    Calls Tryd.prog 8 #[.agg #[.slice A1 a.feats.length c1, .slice A2 a.lets.length c2], .agg #[.slice An ns.length cn], .string s] w fun e w' => e = .returned (.bool true) ∧ Below w.heap.size w w' := by
  have hs0 : M1St A1 A2 An c1 c2 cn a ns w _ := M1St.new hin hT hns
  have HAW := Lib.hid (fun (wx : World) (h : M1St A1 A2 An c1 c2 cn a ns w wx) => alive_any wx h.tabs)
  have HM := Lib.hid (fun (wx : World) => much_any An ns.length cn s wx hm hs)
  have HA := Lib.hid (fun (wx : World) (h : M1St A1 A2 An c1 c2 cn a ns w wx) => all_op A1 A2 An c1 c2 cn 0 a ns s wx h.al h.tabs h.l hm hs)
  have HFI := Lib.hid (fun (wx : World) (h : M1St A1 A2 An c1 c2 cn a ns w wx) => first_op A1 A2 An c1 c2 cn 0 a ns s wx h.al h.tabs h.l hm hs)
  have HLG := Lib.hid (fun (wx : World) (h : M1St A1 A2 An c1 c2 cn a ns w wx) => long_any A1 A2 c1 c2 0 a s wx h.al h.tabs hs)
  have HE := Lib.hid (fun (wx : World) (h : M1St A1 A2 An c1 c2 cn a ns w wx) (x : Int) => ends_op A1 A2 An c1 c2 cn 0 a ns s x wx h.al h.tabs h.l hm hs)
  have HNO := Lib.hid (@all_no a ns s)
  have HLAW : Hid ((allM a ns s).2 = 0 → longS a s = ((lettersS a s).1.length : Int) ∧ (lettersS a s).1.length ≤ 64 ∧ firM a ns s = ((allM a ns s).1.head?, 0) ∧ (allM a ns s).1.length ≤ (lettersS a s).1.length + 1 ∧
    ∃ sp : Nat → List (Nat × Nat), (allM a ns s).1 = sp 0 ∧ (∀ i, (lettersS a s).1.length < i → sp i = []) ∧ ∀ i, i ≤ (lettersS a s).1.length → AllAt (endsS a ns s) sp (lettersS a s).1.length i) := fun h => by
    obtain ⟨h1, h2⟩ := all_at h
    exact ⟨by unfold longS; rw [if_neg (by simp [h1])], h2⟩
  generalize allM a ns s = R at *
  generalize firM a ns s = F at *
  generalize endsS a ns s = EF at *
  generalize longS a s = LG at *
  generalize (lettersS a s).1.length = n at *
  obtain ⟨S, R2⟩ := R
  clear hin hT hns
  have haw := Lib.hid (HAW.out _ hs0)
  have HS0 := Lib.hid hs0
  clear hs0
  go_enter Tryd.func8, Tryd.ntmps8
  go_wp2_with fail
  refine haw.out.mono ?_
  rintro e0 w1 ⟨rfl, hb1⟩
  have hs1 := HS0.out.on hb1
  have HS1 := Lib.hid hs1
  obtain ⟨p1, _⟩ := hs1.r1.cel (i := 0) rfl
  have HBW1 := Lib.hid hs1.below
  clear HS0 haw HAW hb1 hs1
  have hm1 := Lib.hid (HM.out w1)
  cases h1 : muchB ns.length s.size with
  | true =>
    rw [h1] at hm1
    clear h1
    go_wp2_with fail
    refine hm1.out.mono ?_
    rintro e w2 ⟨rfl, hb2⟩
    have HF := Lib.hid (HBW1.out.trans (hb2.mono HBW1.out.size))
    clear hb2
    go_wp2_with fail
    go_ret
    exact ⟨rfl, HF.out⟩
  | false =>
    rw [h1] at hm1
    clear h1
    go_wp2_with fail
    refine hm1.out.mono ?_
    rintro e w2 ⟨rfl, hb2⟩
    have hs2 := HS1.out.on hb2
    have HS2 := Lib.hid hs2
    obtain ⟨a2, _⟩ := hs2.r0.cel (i := 0) rfl
    obtain ⟨d2, _⟩ := hs2.r0.cel (i := 1) rfl
    obtain ⟨p2, _⟩ := hs2.r1.cel (i := 0) rfl
    have l2 := hs2.r1.lt
    have HBW2 := Lib.hid hs2.below
    have hw2 := Lib.hid (HA.out w2 hs2)
    clear hs2 hb2 HS1 hm1 p1 HBW1
    by_cases h3 : 60 < ns.length
    · have h3' : (60 : Int) < (ns.length : Int) := by omega
      clear hw2
      go_wp2_with fail
      go_ret
      exact ⟨rfl, HBW2.out⟩
    have h3' : ¬ (60 : Int) < (ns.length : Int) := by omega
    go_wp2_with fail
    refine hw2.out.mono ?_
    rintro e w3 ⟨AS, cS, rfl, hz3, hb3⟩
    have hs3 := HS2.out.on hb3
    have HS3 := Lib.hid hs3
    have HZ3 : Hid (Sps AS cS S w3) := ⟨_, hz3⟩
    obtain ⟨a3, _⟩ := hs3.r0.cel (i := 0) rfl
    obtain ⟨d3, _⟩ := hs3.r0.cel (i := 1) rfl
    obtain ⟨p3, _⟩ := hs3.r1.cel (i := 0) rfl
    have l3 := hs3.r1.lt
    have hl3 := Lib.hid (HFI.out w3 hs3)
    clear hs3 hb3 HS2 hw2 a2 d2 p2 l2 HBW2 hz3
    by_cases hR : R2 = 0
    · subst hR
      obtain ⟨hLG, hn64, hF, hSn, sp, hS0, hend, HAT⟩ := HLAW.out rfl
      subst hLG
      clear HLAW HNO
      have HATH := Lib.hid HAT
      have HEND := Lib.hid hend
      have HS0 := Lib.hid hS0
      clear HAT hend hS0
      have hl4 := hl3.out
      unfold FirOut at hl4
      rw [hF] at hl4
      have hfa : (S.length = 0 → S.head?.isSome = false) ∧ ∀ x, S[0]? = some x → S.head?.isSome = true ∧ (S.head?.getD (0, 0)).1 = x.1 ∧ (S.head?.getD (0, 0)).2 = x.2 := by
        cases S with
        | nil => exact ⟨fun _ => rfl, fun x h => by simp at h⟩
        | cons y r =>
          refine ⟨fun h => by simp at h, fun x h => ?_⟩
          simp only [List.getElem?_cons_zero, Option.some.injEq] at h
          subst h
          exact ⟨rfl, rfl, rfl⟩
      simp only at hl4
      generalize S.head?.isSome = B at *
      generalize (S.head?.getD (0, 0)).1 = x1 at *
      generalize (S.head?.getD (0, 0)).2 = x2 at *
      have HL4 := Lib.hid hl4
      have HFA := Lib.hid hfa
      clear hl4 hfa hF hl3
      go_wp2_with fail
      refine HL4.out.mono ?_
      rintro e w4 ⟨rfl, hb4⟩
      have hs4 := HS3.out.on hb4
      have hz4 := HZ3.out.on hb4
      have hb45 : Below w4.heap.size w4 (w4.alloc (.cells #[.int .i64 (x1 : Int), .int .i64 (x2 : Int)] 62)) := (Below.refl _ _).alloc (Nat.le_refl _) _
      have hs5 := hs4.on hb45
      have hz5 := hz4.on hb45
      have hrow := Row.new w4 62 [.int .i64 (x1 : Int), .int .i64 (x2 : Int)]
      obtain ⟨r1, _⟩ := hrow.cel (i := 0) rfl
      obtain ⟨r2, _⟩ := hrow.cel (i := 1) rfl
      have HS5 := Lib.hid hs5
      have HZ5 := Lib.hid hz5
      clear hb4 HS3 HZ3 HL4 a3 d3 p3 l3 hs4 hz4 hb45 hs5 hrow
      rcases Nat.eq_zero_or_pos S.length with h0 | h0
      case' inl =>
        have k0 := HFA.out.1 h0
        subst k0
        have k1 : decide ((0 : Int) < (S.length : Int)) = false := by rw [decide_eq_false_iff_not]; omega
        have k2 : decide (0 < S.length) = false := by rw [decide_eq_false_iff_not]; omega
        clear HFA hz5 h0
        go_wp2_with fail
        go_big_quiet (fail)
      case' inr =>
        obtain ⟨k0, k3, k4⟩ := HFA.out.2 _ (List.getElem?_eq_getElem h0)
        obtain ⟨g, rfl, hg, y0, y1⟩ := hz5.at_ (List.getElem?_eq_getElem h0)
        rw [← k3] at y0
        rw [← k4] at y1
        rw [show 0 * 2 = 0 from rfl] at y0
        rw [show 0 * 2 + 1 = 1 from rfl] at y1
        subst k0
        have k1 : decide ((0 : Int) < (S.length : Int)) = true := by rw [decide_eq_true_eq]; omega
        have k2 : decide (0 < S.length) = true := by rw [decide_eq_true_eq]; omega
        have k5 : (0 : Int) < (S.length : Int) := by omega
        clear HFA hz5 k3 k4
        go_wp2_with fail
        go_big_quiet (fail)
      all_goals
        have hsq := HS5.out.on (below_drewN (Below.refl _ _) nq)
        have hzq := HZ5.out.on (below_drewN (Below.refl _ _) nq)
        clear r1 r2
        generalize HWQ : (w4.alloc (.cells #[.int .i64 (x1 : Int), .int .i64 (x2 : Int)] 62)).drewN nq = wq at *
        clear HWQ HS5 HZ5
        have hl6 := Lib.hid (HLG.out _ hsq)
        obtain ⟨a6, _⟩ := hsq.r0.cel (i := 0) rfl
        obtain ⟨d6, _⟩ := hsq.r0.cel (i := 1) rfl
        have hlt6 := hsq.r1.lt
        have HSQ := Lib.hid hsq
        have HZQ := Lib.hid hzq
        clear hsq hzq
        go_wp2_with fail
        refine hl6.out.mono ?_
        rintro e w6 ⟨rfl, hb6⟩
        have HS6 := Lib.hid (HSQ.out.on hb6)
        have HZ6 := Lib.hid (HZQ.out.on hb6)
        clear HSQ HZQ hb6 hl6 a6 d6 hlt6
        go_wp2_with fail
        go_loopw [14, 15] (fun x y wr => ∃ k i : Nat, x = .int .i64 (k : Int) ∧ y = .int .i64 (i : Int) ∧ i ≤ n + 1 ∧ k ≤ S.length ∧ Hid (S.drop k = sp i) ∧ Hid (M1St A1 A2 An c1 c2 cn a ns w wr) ∧ Hid (Sps _ cS S wr)) (fun x y _ => n + 1 - (intOf y).toNat)
        case atStart => exact ⟨0, 0, rfl, rfl, by omega, by omega, by show _ = _; rw [List.drop_zero]; exact HS0.out, HS6, HZ6⟩
        case round =>
          clear HS6 HZ6 HS0
          obtain ⟨k, i, rfl, rfl, hi, hk, hsp, hsk, hzk⟩ := hrel
          by_cases hlt : i ≤ n
          · have j1 : (i : Int) ≤ (n : Int) := by omega
            have AT := HATH.out i hlt
            have hsw := hsk.out
            obtain ⟨a5, _⟩ := hsw.r0.cel (i := 0) rfl
            obtain ⟨d5, _⟩ := hsw.r0.cel (i := 1) rfl
            obtain ⟨p5, _⟩ := hsw.r1.cel (i := 0) rfl
            have l5 := hsw.r1.lt
            have he5 := Lib.hid (HE.out wr hsw (i : Int))
            obtain ⟨hee, hel, hem, hnil, hcons⟩ := AT
            generalize EF (i : Int) = O at *
            obtain ⟨El, Ee⟩ := O
            simp only at hee hel hem hnil hcons
            subst hee
            have HEM := Lib.hid hem
            have HNIL := Lib.hid hnil
            have HCONS := Lib.hid hcons
            clear hem hnil hcons hsw
            by_cases h0 : El.length = 0
            · have h0' : ((El.length : Int) == 0) = true := by rw [beq_iff_eq]; omega
              have h0'' : (El.length : Int) = 0 := by omega
              have HSP : Hid (S.drop k = sp (i + 1)) := by show _ = _; rw [hsp.out, HNIL.out h0]
              clear hsp HNIL HCONS h0
              go_wp2_with fail
              refine he5.out.mono ?_
              rintro e w7 ⟨A7, c7, rfl, _, hb7⟩
              have HS7 := Lib.hid (hsk.out.on hb7)
              have HZ7 := Lib.hid (hzk.out.on hb7)
              clear hb7 hsk hzk he5 a5 d5 p5 l5
              go_wp2_with fail
              exact ⟨⟨k, i + 1, rfl, by simp, by omega, hk, HSP.out, HS7, HZ7⟩, by simp [intOf]; omega⟩
            · have h0' : ((El.length : Int) == 0) = false := by rw [beq_eq_false_iff_ne]; omega
              have h0'' : ¬ (El.length : Int) = 0 := by omega
              obtain ⟨t, ht, htn, hspi⟩ := HCONS.out h0
              have hdk : S.drop k = (i, t) :: sp (max (i + 1) t) := hsp.out.trans hspi
              have hkl : k < S.length := by
                have := congrArg List.length hdk
                rw [List.length_drop, List.length_cons] at this
                omega
              have hxk : S[k]? = some (i, t) := by
                have h1 : (S.drop k)[0]? = some (i, t) := by rw [hdk]; rfl
                rw [List.getElem?_drop] at h1
                exact h1
              have HSP : Hid (S.drop (k + 1) = sp (max (i + 1) t)) := by
                show _ = _
                have h1 : (S.drop k).drop 1 = sp (max (i + 1) t) := by rw [hdk]; rfl
                rw [List.drop_drop] at h1
                exact h1
              have HT := Lib.hid ht
              have HX := Lib.hid hxk
              clear hsp hdk hspi ht hxk HNIL HCONS
              go_wp2_with fail
              refine he5.out.mono ?_
              rintro e w7 ⟨A7, c7, rfl, hz7, hb7⟩
              have HS7 := Lib.hid (hsk.out.on hb7)
              have hz7' := hzk.out.on hb7
              have HZ7 := Lib.hid hz7'
              have hl7 := Lst.of (c := c7) hz7 HEM.out
              obtain ⟨g7, e7, hg7, y0, y1⟩ := hz7'.at_ HX.out
              first | subst e7 | (injection e7 with e7; injection e7 with e71; subst e71)
              obtain ⟨g8, o8, rfl, hg8, y2⟩ := hl7.at_ HT.out
              simp only at y0 y1
              have k1 : decide ((S.length : Int) ≤ (k : Int)) = false := by rw [decide_eq_false_iff_not]; omega
              have k2 : decide (S.length ≤ k) = false := by rw [decide_eq_false_iff_not]; omega
              have k3 : (k : Int) < (S.length : Int) := by omega
              have k4 : IntKind.i64.wrap ((El.length : Int) - 1) = ((El.length - 1 : Nat) : Int) := by rw [IntWalk.i64_in _ (by omega)]; omega
              have k5 : ((El.length - 1 : Nat) : Int) < (El.length : Int) := by omega
              generalize El.length - 1 = m at *
              clear hz7 hb7 hz7' hl7 hsk hzk he5 a5 d5 p5 l5 HT HX HEM
              go_wp2_with fail
              go_big_quiet (fail)
              go_wp2_with fail
              exact ⟨⟨k + 1, max (i + 1) t, by simp, by congr 1; omega, by omega, by omega, HSP.out, HS7.out.on (below_drewN (Below.refl _ _) nq), HZ7.out.on (below_drewN (Below.refl _ _) nq)⟩, by simp [intOf]; omega⟩
          · have j1 : ¬ (i : Int) ≤ (n : Int) := by omega
            have hkS : k = S.length := by
              have h1 := hsp.out
              rw [HEND.out i (by omega)] at h1
              have := congrArg List.length h1
              rw [List.length_drop, List.length_nil] at this
              omega
            subst hkS
            have HF := Lib.hid hsk.out.below
            clear hsk hzk hsp
            go_wp2_with fail
            go_ret
            exact ⟨by simp, HF.out⟩
    · have hne : (R2 != 0) = true := by rw [bne_iff_ne]; exact hR
      obtain ⟨hR1, hF⟩ := HNO.out hR
      subst hR1 hF
      clear HLAW HNO hR
      go_wp2_with fail
      refine hl3.out.mono ?_
      rintro e w4 ⟨rfl, hb4⟩
      have HF : Hid (Below w.heap.size w (w4.alloc (.cells #[.int .i64 0, .int .i64 0] 62))) := ((HS3.out.on hb4).below).alloc (HS3.out.on hb4).below.size _
      clear hb4 HS3 hl3 a3 d3 p3 l3
      go_wp2_with fail
      go_ret
      exact ⟨rfl, HF.out⟩
end Go.Proofs.YtimhlnndobfehaaDoor
