/- The document's Lies and Between. The document's Between. MatchBetween: the statement's walk. The alphabets that come in: what lies in their cells. -/
import Derived.Test.YtimhlnndobfehaaGreatDoorMd36
import Derived.Test.YtimhlnndobfehaaGreatDoorMd25
import Derived.Test.YtimhlnndobfehaaGreatDoorMd27
import Derived.Test.YtimhlnndobfehaaGreatDoorMd04
import Derived.Test.YtimhlnndobfehaaGreatDoorMd01
namespace Go.Proofs.YtimhlnndobfehaaGreatDoor
open Go.RowKit
open Go.Lib (Utf8Tabs)
set_option linter.unusedVariables false

theorem cnt_pos (S : List Bool) : 0 < cntS S ↔ ∃ j : Nat, S.getD j false = true := by
  unfold cntS
  rw [List.countP_pos_iff]
  constructor
  · rintro ⟨x, hx, h⟩
    obtain ⟨j, hj, rfl⟩ := List.getElem_of_mem hx
    exact ⟨j, by rw [List.getD_eq_getElem?_getD, List.getElem?_eq_getElem hj]; exact h⟩
  · rintro ⟨j, h⟩
    have hj := on_lt (on_getD.1 h)
    refine ⟨S[j], List.getElem_mem hj, ?_⟩
    rw [List.getD_eq_getElem?_getD, List.getElem?_eq_getElem hj] at h
    exact h
theorem cnt_ends (ns : List Nd) (L : List Lt) (i : Nat) : decide (0 < (endsI ns L 0 i).length) = decide (0 < cntS (fromS ns L i)) := by
  refine decide_eq_decide.2 ?_
  unfold endsI
  rw [toI_len, cnt_pos, List.length_pos_iff_exists_mem]
  exact exists_congr fun j => mem_from
theorem beg_step (ns : List Nd) (L : List Lt) (t j : Nat) : decide (0 < (begI ns L t (j + 1)).length) = (decide (0 < (begI ns L t j).length) || (fromS ns L j).getD t false) := by
  rw [begI_succ]
  by_cases h : t ∈ endsL ns L 0 j
  · rw [if_pos h, mem_from.1 h]
    simp
  · rw [if_neg h]
    have : (fromS ns L j).getD t false = false := by
      rw [← Bool.not_eq_true]
      exact fun e => h (mem_from.2 e)
    rw [this, Bool.or_false]
section
variable {A1 A2 An Am AD : Option Addr} {c1 c2 cn cm cl : Nat} {a : Al} {lo ro : List Nd} {ls : List Int}
set_option maxHeartbeats 4000000 in
set_option maxRecDepth 100000 in
theorem rlies_any (h1 : IsTree lo) (h2 : IsTree ro) {f t : Nat} (hf : f ≤ ls.length) (ht : t ≤ ls.length) {w : World} (hE1 : StE A1 A2 An AD a lo ls w) (hE2 : StE A1 A2 Am AD a ro ls w) :
    Calls Tryz.prog 69 #[.agg #[.slice A1 a.feats.length c1, .slice A2 a.lets.length c2], .agg #[.slice An lo.length cn], .agg #[.slice Am ro.length cm], .slice AD ls.length cl, .int .i64 (f : Int), .int .i64 (t : Int)] w
      fun e w' => e = .returned (.bool (decide (0 < (begI lo (matL a ls) f (f + 1)).length) && decide (0 < (endsI ro (matL a ls) 0 t).length))) ∧ Below w.heap.size w w' := by
  rw [cnt_ends]
  obtain ⟨W3, hW3⟩ : ∃ W3, W3 = ((w.alloc (.cells #[.slice A1 a.feats.length c1, .slice A2 a.lets.length c2] 25)).alloc (.cells #[.slice An lo.length cn] 28)).alloc (.cells #[.slice Am ro.length cm] 28) := ⟨_, rfl⟩
  have hal : Below w.heap.size w W3 := by rw [hW3]; exact (((Below.refl _ _).alloc (Nat.le_refl _) _).alloc (by simp) _).alloc (by simp; omega) _
  have hr0 : Row W3 w.heap.size 25 [.slice A1 a.feats.length c1, .slice A2 a.lets.length c2] := by rw [hW3]; exact ((Row.new w _ _).alloc _).alloc _
  have hr1 : Row W3 (w.heap.size + 1) 28 [.slice An lo.length cn] := by
    have h := (Row.new (w.alloc (.cells #[.slice A1 a.feats.length c1, .slice A2 a.lets.length c2] 25)) 28 [.slice An lo.length cn]).alloc (.cells #[.slice Am ro.length cm] 28)
    rw [hW3]
    simpa using h
  have hr2 : Row W3 (w.heap.size + 1 + 1) 28 [.slice Am ro.length cm] := by
    have h := Row.new ((w.alloc (.cells #[.slice A1 a.feats.length c1, .slice A2 a.lets.length c2] 25)).alloc (.cells #[.slice An lo.length cn] 28)) 28 [.slice Am ro.length cm]
    rw [hW3]
    simpa using h
  have HC := Lib.hid (fun (wx : World) (hx : Below W3.heap.size W3 wx) => And.intro (And.intro ((hr0.below hx hr0.lt).cel (i := 0) rfl).1 ((hr0.below hx hr0.lt).cel (i := 1) rfl).1) (And.intro ((hr1.below hx hr1.lt).cel (i := 0) rfl).1 ((hr2.below hx hr2.lt).cel (i := 0) rfl).1))
  have hl64 := hE1.len
  have HF1 := Lib.hid (fun (wx : World) (hx : Below w.heap.size w wx) (i : Nat) (hi : i ≤ ls.length) => rfrom_any (cn := cn) (c1 := c1) (c2 := c2) (cl := cl) (tree_nodes h1) h1.pos hi (hE1.on hx))
  have HF2 := Lib.hid (fun (wx : World) (hx : Below w.heap.size w wx) => rfrom_any (cn := cm) (c1 := c1) (c2 := c2) (cl := cl) (tree_nodes h2) h2.pos ht (hE2.on hx))
  have HLN := Lib.hid (fun i => show (fromS lo (matL a ls) i).length = ls.length + 1 by rw [fromS_len, matL_len])
  have HLM := Lib.hid (show (fromS ro (matL a ls) t).length = ls.length + 1 by rw [fromS_len, matL_len])
  have HBS := Lib.hid (beg_step lo (matL a ls) f)
  have HAL := Lib.hid hal
  have hB0 : w.heap.size < W3.heap.size := hr0.lt
  have hB2 : w.heap.size + 1 + 1 < W3.heap.size := hr2.lt
  have j0 : f < ls.length + 1 := by omega
  have j1 : (f : Int) < (ls.length : Int) + 1 := by omega
  have HX0 : Hid (∀ w5 g5, SetOut (ls.length + 1) (fromS lo (matL a ls) 0) w (.returned (.slice (some ⟨g5, 0, none⟩) (ls.length + 1) (ls.length + 1))) w5 → True) := fun _ _ _ => trivial
  clear HX0 hE1 hE2 hal hr0 hr1 hr2
  obtain ⟨n, hn⟩ : ∃ n, n = ls.length + 1 := ⟨_, rfl⟩
  have hn2 : n ≤ 65 := by omega
  have HN := Lib.hid hn
  rw [← hn] at HF1 HF2 HLN HLM j0
  have j2 : (f : Int) < (n : Int) := by omega
  clear hn j1
  have hz0 : decide (0 < (begI lo (matL a ls) f 0).length) = false := by simp [begI, toI]
  have HZ0 := Lib.hid hz0
  clear hz0
  go_enter Tryz.func69, Tryz.ntmps69
  go_wp2_with fail
  rw [← hW3]
  clear hW3
  go_loopw [13, 14] (fun v i wr => ∃ k : Nat, k ≤ f + 1 ∧ i = .int .i64 (k : Int) ∧ v = .bool (decide (0 < (begI lo (matL a ls) f k).length)) ∧ Hid (Below W3.heap.size W3 wr)) (fun _ i _ => f + 1 - (intOf i).toNat)
  case atStart => exact ⟨0, by omega, rfl, by rw [HZ0.out], Below.refl _ _⟩
  case round =>
    clear HZ0
    obtain ⟨k, hk, rfl, rfl, hB⟩ := hrel
    obtain ⟨⟨d0, d1⟩, d2, d3⟩ := HC.out wr hB.out
    have hsw := hB.out.size
    have hbw := HAL.out.trans (hB.out.mono HAL.out.size)
    by_cases hlt : k < f + 1
    · have hst := HBS.out k
      have hcall := Lib.hid (HF1.out wr hbw k (by omega))
      have hlen := HLN.out k
      generalize hx : decide (0 < (begI lo (matL a ls) f k).length) = x at *
      have HX := Lib.hid hx
      have HLN2 := Lib.hid hlen
      have HST := Lib.hid hst
      have j3 : (k : Int) ≤ (f : Int) := by omega
      clear hx hst hlen hbw
      cases x with
      | true =>
        have HS2 : Hid (decide (0 < (begI lo (matL a ls) f (k + 1)).length) = true) := by show _ = _; rw [HST.out]; rfl
        clear HST hcall
        go_wp2_with fail
        exact ⟨⟨k + 1, by omega, by go_num, by rw [HS2.out], hB⟩, by simp [intOf]; omega⟩
      | false =>
        have HS2 : Hid (decide (0 < (begI lo (matL a ls) f (k + 1)).length) = (fromS lo (matL a ls) k).getD f false) := by show _ = _; rw [HST.out, Bool.false_or]
        clear HST
        go_wp2_with fail
        refine hcall.out.mono ?_
        rintro e w5 ⟨g5, rfl, hg5, hrow5, hb5⟩
        have hc5 := (hrow5.cel (i := f) (by rw [HLN2.out]; exact j0)).1
        have hl5 := hrow5.lt
        have HB5 : Hid (Below W3.heap.size W3 w5) := hB.out.trans (hb5.mono hB.out.size)
        clear hrow5 hb5 hcall
        generalize (fromS lo (matL a ls) k).getD f false = y at *
        go_wp2_with fail
        exact ⟨⟨k + 1, by omega, by go_num, by rw [HS2.out], HB5⟩, by simp [intOf]; omega⟩
    · obtain rfl : k = f + 1 := by omega
      have j3 : ¬ ((f + 1 : Nat) : Int) ≤ (f : Int) := by omega
      have j4 : ¬ ((f : Int) + 1) ≤ (f : Int) := by omega
      have hcall := Lib.hid (HF2.out wr hbw)
      have HBW := Lib.hid hbw
      clear hbw HF1 HBS HLN
      generalize hx : decide (0 < (begI lo (matL a ls) f (f + 1)).length) = x at *
      have HX := Lib.hid hx
      clear hx
      cases x with
      | false =>
        go_wp2_with fail
        go_ret
        exact ⟨retb_of (by rw [HX.out]; rfl), HBW.out⟩
      | true =>
        have HQ := Lib.hid (fun (w5 : World) (g5 : Nat) (h : BRow w5 g5 (fromS ro (matL a ls) t)) => rcount_any n g5 (by omega) _ w5 HLM.out h)
        generalize hs2 : fromS ro (matL a ls) t = S2 at *
        have HS2 := Lib.hid hs2
        clear hs2
        go_wp2_with fail
        refine hcall.out.mono ?_
        rintro e w5 ⟨g5, rfl, hg5, hrow5, hb5⟩
        have HQ5 := Lib.hid (HQ.out w5 g5 hrow5)
        have HB5 := Lib.hid (HBW.out.trans (hb5.mono HBW.out.size))
        clear hrow5 hb5 hcall HQ
        generalize hqq : cntS S2 = q at *
        have HQE := Lib.hid hqq
        clear hqq
        by_cases hq : 0 < q
        · have hq2 : (0 : Int) < (q : Int) := by omega
          go_wp2_with fail
          refine HQ5.out.mono ?_
          rintro e w6 ⟨rfl, rfl⟩
          go_wp2_with fail
          go_ret
          exact ⟨retb_of (by rw [HX.out, HS2.out, HQE.out, decide_eq_true hq]; rfl), HB5.out⟩
        · obtain rfl : q = 0 := by omega
          go_wp2_with fail
          refine HQ5.out.mono ?_
          rintro e w6 ⟨rfl, rfl⟩
          go_wp2_with fail
          go_ret
          exact ⟨retb_of (by rw [HX.out, HS2.out, HQE.out]; rfl), HB5.out⟩
end
theorem own_runes {w : World} {base c : Nat} {A : Option Addr} {l : List Int} (h : w.ownsRow base 21 1 (.slice A l.length c) l.length (runeVs l)) (hk : ∀ x ∈ l, kin .i32 x) : Sl 1 (vInt .i32) w 0 w.heap.size A l := fun hn => by
  obtain ⟨g, c', e, _, _, h1, h2⟩ := own_pos h hn
  injection e with e1 _ e2
  subst e1 e2
  refine ⟨g, 0, rfl, Nat.zero_le _, h2, fun i x hx => ⟨[.int .i32 x], rfl, fun j v hj => ?_, rfl, hk x (List.mem_of_getElem? hx)⟩⟩
  match j, hj with
  | 0, hj =>
    simp only [List.getElem?_cons_zero, Option.some.injEq] at hj
    subst hj
    have := own_cel h (j := i) (u := .int .i32 x) (by unfold runeVs; rw [List.getElem?_map, hx]; rfl)
    simpa using this
/-- What stands once all may be: the search's state over the letters that were read. -/
theorem ask_state {A1 A2 An A : Option Addr} {a : Al} {ns : List Nd} {s : ByteArray} {w w' : World} {c : Nat} (hb : begE a ns s = 0) (hin : AlIn w 0 w.heap.size A1 A2 a) (hns : Sl 5 vNd w 0 w.heap.size An ns)
    (hbw : Below w.heap.size w w') {base : Nat} (hown : w'.ownsRow base 21 1 (.slice A (lettersS a s).1.length c) (lettersS a s).1.length (runeVs (lettersS a s).1)) : StE A1 A2 An A a ns (lettersS a s).1 w' := by
  have hp : patE a ns = 0 := by
    unfold begE at hb
    split at hb
    · contradiction
    · rename_i h; simpa using h
  have hl : (lettersS a s).2 = 0 := (beg_zero hb).2
  obtain ⟨hE, ht⟩ := pat_zero hp
  have hok := alE_zero.1 hE
  have hlets := hin.on hbw
  refine ⟨hlets, (hns.below vNd_good hbw (Nat.le_refl _)).wide vNd_good (Nat.le_refl _) hbw.size, own_runes hown (fun x hx => ?_), hok, fun x hx => (letters_isLet x hx).2, ?_, ht.max, ht.kids⟩
  · obtain ⟨k, hk, _, e, _⟩ := letter_at hok (letters_isLet x hx).2
    obtain ⟨_, _, _, _, _, _, _, _, h, _⟩ := lt_at hlets.l hk
    rw [← e]
    simpa [kin, Lit.wf, IntKind.min, IntKind.max, IntKind.signed, IntKind.bits] using h
  · have := matW_len hl
    unfold matW at this
    rwa [matL_len] at this
end Go.Proofs.YtimhlnndobfehaaGreatDoor
namespace Go.Proofs.YtimhlnndobfehaaGreatDoor
open Go.RowKit
open Go.Lib (Utf8Tabs)
set_option linter.unusedVariables false

set_option maxHeartbeats 8000000 in
set_option maxRecDepth 100000 in
theorem rbetween_any (A1 A2 An Am : Option Addr) (c1 c2 cn cm : Nat) (a : Al) (ls rs : List Nd) (s : ByteArray) (f t : Int) (w : World) (hin : AlIn w 0 w.heap.size A1 A2 a) (hT : Utf8Tabs 0 1 w) (hls : Sl 5 vNd w 0 w.heap.size An ls) (hrs : Sl 5 vNd w 0 w.heap.size Am rs) (hm : ls.length ≤ 9223372036854775807) (hm2 : rs.length ≤ 9223372036854775807) (hs : s.size ≤ maxLen) :
    Calls Tryz.prog 35 #[.agg #[.slice A1 a.feats.length c1, .slice A2 a.lets.length c2], .agg #[.slice An ls.length cn], .agg #[.slice Am rs.length cm], .string s, .int .i64 f, .int .i64 t] w (BoOut (betweenS a ls rs s f t) w) := by
  obtain ⟨W3, hW3⟩ : ∃ W3, W3 = ((w.alloc (.cells #[.slice A1 a.feats.length c1, .slice A2 a.lets.length c2] 25)).alloc (.cells #[.slice An ls.length cn] 28)).alloc (.cells #[.slice Am rs.length cm] 28) := ⟨_, rfl⟩
  have hal : Below w.heap.size w W3 := by rw [hW3]; exact (((Below.refl _ _).alloc (Nat.le_refl _) _).alloc (by simp) _).alloc (by simp; omega) _
  have hr0 : Row W3 w.heap.size 25 [.slice A1 a.feats.length c1, .slice A2 a.lets.length c2] := by rw [hW3]; exact ((Row.new w _ _).alloc _).alloc _
  have hr1 : Row W3 (w.heap.size + 1) 28 [.slice An ls.length cn] := by
    have h := (Row.new (w.alloc (.cells #[.slice A1 a.feats.length c1, .slice A2 a.lets.length c2] 25)) 28 [.slice An ls.length cn]).alloc (.cells #[.slice Am rs.length cm] 28)
    rw [hW3]
    simpa using h
  have hr2 : Row W3 (w.heap.size + 1 + 1) 28 [.slice Am rs.length cm] := by
    have h := Row.new ((w.alloc (.cells #[.slice A1 a.feats.length c1, .slice A2 a.lets.length c2] 25)).alloc (.cells #[.slice An ls.length cn] 28)) 28 [.slice Am rs.length cm]
    rw [hW3]
    simpa using h
  have HC := Lib.hid (fun (wx : World) (hx : Below W3.heap.size W3 wx) => And.intro (And.intro ((hr0.below hx hr0.lt).cel (i := 0) rfl).1 ((hr0.below hx hr0.lt).cel (i := 1) rfl).1) (And.intro (And.intro ((hr1.below hx hr1.lt).cel (i := 0) rfl).1 ((hr2.below hx hr2.lt).cel (i := 0) rfl).1) hx.size))
  have HCHK := Lib.hid (rcheck_any A1 A2 c1 c2 0 a _ (hin.on hal))
  have HPC := Lib.hid (fun (wx : World) (hb : Below w.heap.size w wx) => rcheck_pat A1 A2 An c1 c2 cn 0 a ls wx (hin.on hb) ((hls.below vNd_good hb (Nat.le_refl _)).wide vNd_good (Nat.le_refl _) hb.size) hm)
  have HAS := Lib.hid (fun (wx : World) (hb : Below w.heap.size w wx) => rasked_any A1 A2 Am c1 c2 cm 0 a rs s wx (hin.on hb) (Utf8Tabs_below hT hb) ((hrs.below vNd_good hb (Nat.le_refl _)).wide vNd_good (Nat.le_refl _) hb.size) hm2 hs)
  have HPE : Hid (patE a ls = if alE a ≠ 0 then alE a else if patOk a ls then 0 else 40) := rfl
  have HS : Hid (betweenS a ls rs s f t = if patE a ls ≠ 0 then (false, patE a ls) else if begE a rs s ≠ 0 then (false, begE a rs s) else if placeB (matW a s) f && placeB (matW a s) t then
    (decide (0 < (begI ls (matW a s) f.toNat (f.toNat + 1)).length) && decide (0 < (endsI rs (matW a s) 0 t.toNat).length), 0) else (false, 2)) := rfl
  have HIN := Lib.hid hin
  have HLS := Lib.hid hls
  have HRS := Lib.hid hrs
  have HAL := Lib.hid hal
  have hB0 : w.heap.size < W3.heap.size := hr0.lt
  have hB1 : w.heap.size + 1 < W3.heap.size := hr1.lt
  have hB2 : w.heap.size + 1 + 1 < W3.heap.size := hr2.lt
  clear hal hin hls hrs hT hr0 hr1 hr2
  generalize betweenS a ls rs s f t = R at *
  by_cases hE : alE a = 0
  · rw [hE] at HCHK
    by_cases hP : patE a ls = 0
    · have HP := Lib.hid hP
      have hE1 := hE
      rw [hP] at HPC
      clear hE HPE hP hE1
      have HSK := Lib.hid (askS_err a rs s)
      by_cases hb : begE a rs s = 0
      · have HBE := Lib.hid hb
        have haz : askS a rs s = ((lettersS a s).1, 0) := Prod.ext (askS_ok hb) ((askS_err a rs s).trans hb)
        rw [haz] at HAS
        have hpl : (matW a s).length = (lettersS a s).1.length := matL_len _ _
        have HML := Lib.hid (show matW a s = matL a (lettersS a s).1 from rfl)
        have hR : R = if placeB (matW a s) f && placeB (matW a s) t then (decide (0 < (begI ls (matW a s) f.toNat (f.toNat + 1)).length) && decide (0 < (endsI rs (matW a s) 0 t.toNat).length), 0) else (false, 2) := by rw [HS.out, if_neg (by simp [HP.out]), if_neg (by simp [hb])]
        have htl : IsTree ls := (pat_zero HP.out).2
        have htr : IsTree rs := (beg_zero hb).1
        have hLS : ∀ (w5 : World) (A : Option Addr) (c : Nat), Below w.heap.size w w5 → ∀ base, w5.ownsRow base 21 1 (.slice A (lettersS a s).1.length c) (lettersS a s).1.length (runeVs (lettersS a s).1) → StE A1 A2 Am A a rs (lettersS a s).1 w5 ∧ StE A1 A2 An A a ls (lettersS a s).1 w5 := fun w5 A c h5 base ho => by
          have h1 := ask_state hb HIN.out HRS.out h5 ho
          exact ⟨h1, ⟨h1.al, (HLS.out.below vNd_good h5 (Nat.le_refl _)).wide vNd_good (Nat.le_refl _) h5.size, h1.lets, h1.ok, h1.isl, h1.len, htl.max, htl.kids⟩⟩
        have HLST := Lib.hid hLS
        have HR := Lib.hid hR
        have HTL := Lib.hid htl
        have HTR := Lib.hid htr
        clear hb haz hR HS htl htr hLS HSK
        rw [HML.out] at hpl HR
        generalize hll : (lettersS a s).1 = ll at *
        clear hll
        have HPL : Hid (∀ x, placeB (matL a ll) x = decide (0 ≤ x ∧ x ≤ (ll.length : Int))) := fun x => by unfold placeB; rw [matL_len]
        go_enter Tryz.func35, Tryz.ntmps35
        go_wp2_with fail
        rw [← hW3]
        clear hW3
        refine HCHK.out.mono ?_
        rintro e w1 ⟨rfl, hb1⟩
        obtain ⟨⟨d0, d1⟩, ⟨d2, d3⟩, ds⟩ := HC.out w1 hb1
        have HB1 := Lib.hid hb1
        have HC2 := Lib.hid (HPC.out w1 (HAL.out.trans (hb1.mono HAL.out.size)))
        clear hb1 HCHK HPC
        go_wp2_with fail
        refine HC2.out.mono ?_
        rintro e w2 ⟨rfl, hb2⟩
        have HB2 := Lib.hid (HB1.out.trans (hb2.mono HB1.out.size))
        obtain ⟨⟨e0, e1⟩, ⟨e2, e3⟩, es⟩ := HC.out w2 HB2.out
        have HC3 := Lib.hid (HAS.out w2 (HAL.out.trans (HB2.out.mono HAL.out.size)))
        clear hb2 HC2 HAS d0 d1 d2 d3
        go_wp2_with fail
        refine HC3.out.mono ?_
        rintro e w3 ⟨A, c, rfl, hown, hb3⟩
        have HB3 := Lib.hid (HB2.out.trans (hb3.mono HB2.out.size))
        obtain ⟨⟨g0, g1⟩, ⟨g2, g3⟩, gs⟩ := HC.out w3 HB3.out
        have HBW := Lib.hid (HAL.out.trans (HB3.out.mono HAL.out.size))
        obtain ⟨hs1, hs2⟩ := HLST.out w3 A c HBW.out _ hown
        have hlie := fun (i j : Nat) (hi : i ≤ ll.length) (hj : j ≤ ll.length) => rlies_any (c1 := c1) (c2 := c2) (cn := cn) (cm := cm) (cl := c) HTL.out HTR.out hi hj hs2 hs1
        have HLI := Lib.hid hlie
        have hl64 := hs1.len
        clear hb3 hown HC3 HLST hs1 hs2 hlie e0 e1 e2 e3
        simp only
        by_cases hpf : 0 ≤ f ∧ f ≤ (ll.length : Int)
        · by_cases hpt : 0 ≤ t ∧ t ≤ (ll.length : Int)
          · obtain ⟨i, rfl⟩ := Int.eq_ofNat_of_zero_le hpf.1
            obtain ⟨j, rfl⟩ := Int.eq_ofNat_of_zero_le hpt.1
            have hR2 : R = (decide (0 < (begI ls (matL a ll) i (i + 1)).length) && decide (0 < (endsI rs (matL a ll) 0 j).length), 0) := by
              rw [HR.out, HPL.out, HPL.out, decide_eq_true hpf, decide_eq_true hpt]
              rfl
            have HR2 := Lib.hid hR2
            have HL2 := Lib.hid (HLI.out i j (by omega) (by omega))
            have n1 : ¬ (i : Int) < 0 := by omega
            have n2 : ¬ (ll.length : Int) < (i : Int) := by omega
            have n3 : ¬ (j : Int) < 0 := by omega
            have n4 : ¬ (ll.length : Int) < (j : Int) := by omega
            have n5 : i ≤ ll.length := by omega
            have n6 : j ≤ ll.length := by omega
            clear hR2 HLI HR hpf hpt HPL
            generalize (decide (0 < (begI ls (matL a ll) i (i + 1)).length) && decide (0 < (endsI rs (matL a ll) 0 j).length)) = x at *
            go_wp2_with fail
            refine HL2.out.mono ?_
            rintro e w4 ⟨rfl, hb4⟩
            have HFIN := Lib.hid (BoOut.mk' (W := w) HR2.out (HBW.out.trans (hb4.mono HBW.out.size)))
            clear hb4
            go_wp2_with fail
            go_ret2
            exact HFIN.out
          · have HFIN : Hid (BoOut R w (.returned (.tuple #[.bool false, .int .i64 2])) w3) := BoOut.mk' (by rw [HR.out, HPL.out t, decide_eq_false hpt, Bool.and_false]; rfl) HBW.out
            obtain ⟨i, rfl⟩ := Int.eq_ofNat_of_zero_le hpf.1
            have n1 : ¬ (i : Int) < 0 := by omega
            have n2 : ¬ (ll.length : Int) < (i : Int) := by omega
            have n5 : i ≤ ll.length := by omega
            clear HR HLI HPL
            by_cases ht0 : t < 0
            · go_wp2_with fail
              go_ret2
              exact HFIN.out
            · have ht1 : (ll.length : Int) < t := by omega
              go_wp2_with fail
              go_ret2
              exact HFIN.out
        · have HFIN : Hid (BoOut R w (.returned (.tuple #[.bool false, .int .i64 2])) w3) := BoOut.mk' (by rw [HR.out, HPL.out f, decide_eq_false hpf, Bool.false_and]; rfl) HBW.out
          clear HR HLI HPL
          by_cases ht0 : f < 0
          · go_wp2_with fail
            go_ret2
            exact HFIN.out
          · have ht1 : (ll.length : Int) < f := by omega
            go_wp2_with fail
            go_ret2
            exact HFIN.out
      · have hR : R = (false, begE a rs s) := by rw [HS.out, if_neg (by simp [HP.out]), if_pos hb]
        have HR := Lib.hid hR
        have hke := HSK.out
        clear HS hR HSK
        generalize askS a rs s = Z at *
        obtain ⟨zl, ze⟩ := Z
        simp only at hke
        subst hke
        generalize begE a rs s = E at *
        have hne : (E != 0) = true := by rw [bne_iff_ne]; exact hb
        clear hb
        go_enter Tryz.func35, Tryz.ntmps35
        go_wp2_with fail
        rw [← hW3]
        clear hW3
        refine HCHK.out.mono ?_
        rintro e w1 ⟨rfl, hb1⟩
        obtain ⟨⟨d0, d1⟩, ⟨d2, d3⟩, ds⟩ := HC.out w1 hb1
        have HB1 := Lib.hid hb1
        have HC2 := Lib.hid (HPC.out w1 (HAL.out.trans (hb1.mono HAL.out.size)))
        clear hb1 HCHK HPC
        go_wp2_with fail
        refine HC2.out.mono ?_
        rintro e w2 ⟨rfl, hb2⟩
        have HB2 := Lib.hid (HB1.out.trans (hb2.mono HB1.out.size))
        obtain ⟨⟨e0, e1⟩, ⟨e2, e3⟩, es⟩ := HC.out w2 HB2.out
        have HC3 := Lib.hid (HAS.out w2 (HAL.out.trans (HB2.out.mono HAL.out.size)))
        clear hb2 HC2 HAS d0 d1 d2 d3
        go_wp2_with fail
        refine HC3.out.mono ?_
        rintro e w3 ⟨A, c, rfl, hown, hb3⟩
        have HFIN := Lib.hid (BoOut.mk' (W := w) HR.out (HAL.out.trans ((HB2.out.trans (hb3.mono HB2.out.size)).mono HAL.out.size)))
        clear hown hb3 HC3
        go_wp2_with fail
        go_ret2
        exact HFIN.out
    · have hR : R = (false, patE a ls) := by rw [HS.out, if_pos hP]
      have HR := Lib.hid hR
      clear HS hR HAS hE HPE
      generalize patE a ls = E at *
      have hne : (E != 0) = true := by rw [bne_iff_ne]; exact hP
      clear hP
      go_enter Tryz.func35, Tryz.ntmps35
      go_wp2_with fail
      rw [← hW3]
      clear hW3
      refine HCHK.out.mono ?_
      rintro e w1 ⟨rfl, hb1⟩
      obtain ⟨⟨d0, d1⟩, ⟨d2, d3⟩, ds⟩ := HC.out w1 hb1
      have HB1 := Lib.hid hb1
      have HC2 := Lib.hid (HPC.out w1 (HAL.out.trans (hb1.mono HAL.out.size)))
      clear hb1 HCHK HPC
      go_wp2_with fail
      refine HC2.out.mono ?_
      rintro e w2 ⟨rfl, hb2⟩
      have HFIN := Lib.hid (BoOut.mk' (W := w) HR.out (HAL.out.trans ((HB1.out.trans (hb2.mono HB1.out.size)).mono HAL.out.size)))
      clear hb2 HC2
      go_wp2_with fail
      go_ret2
      exact HFIN.out
  · have hpe : patE a ls = alE a := by rw [HPE.out, if_pos hE]
    have hR : R = (false, alE a) := by rw [HS.out, if_pos (by rw [hpe]; exact hE), hpe]
    have HR := Lib.hid hR
    clear HS hR HPC HAS HPE hpe
    generalize alE a = E at *
    have hne : (E != 0) = true := by rw [bne_iff_ne]; exact hE
    clear hE
    go_enter Tryz.func35, Tryz.ntmps35
    go_wp2_with fail
    rw [← hW3]
    clear hW3
    refine HCHK.out.mono ?_
    rintro e w1 ⟨rfl, hb1⟩
    have HFIN := Lib.hid (BoOut.mk' (W := w) HR.out (HAL.out.trans (hb1.mono HAL.out.size)))
    clear hb1 HCHK
    go_wp2_with fail
    go_ret2
    exact HFIN.out
end Go.Proofs.YtimhlnndobfehaaGreatDoor
namespace Go.Proofs.YtimhlnndobfehaaGreatDoor
open Go.RowKit
open Go.Lib (Utf8Tabs)
set_option linter.unusedVariables false

set_option maxHeartbeats 8000000 in
set_option maxRecDepth 100000 in
theorem mbetween_walk (A1 A2 An Am : Option Addr) (c1 c2 cn cm : Nat) (a : Al) (ls rs : List Nd) (s : ByteArray) (f t : Int) (w : World) (hin : AlIn w 0 w.heap.size A1 A2 a) (hT : Utf8Tabs 0 1 w) (hls : Sl 5 vNd w 0 w.heap.size An ls) (hrs : Sl 5 vNd w 0 w.heap.size Am rs) (hm : ls.length ≤ 9223372036854775807) (hm2 : rs.length ≤ 9223372036854775807) (hs : s.size ≤ maxLen) :
    Calls Tryz.prog 6 #[.agg #[.slice A1 a.feats.length c1, .slice A2 a.lets.length c2], .agg #[.slice An ls.length cn], .agg #[.slice Am rs.length cm], .string s, .int .i64 f, .int .i64 t] w fun e w' => e = .returned (.bool true) ∧ Below w.heap.size w w' := by
  have hs0 : MSt A1 A2 An Am c1 c2 cn cm a ls rs w _ := MSt.new hin hT hls hrs
  have HAW := Lib.hid (fun (wx : World) (h : MSt A1 A2 An Am c1 c2 cn cm a ls rs w wx) => alive_any wx h.tabs)
  have HM1 := Lib.hid (fun (wx : World) => much_any An ls.length cn s wx hm hs)
  have HM2 := Lib.hid (fun (wx : World) => much_any Am rs.length cm s wx hm2 hs)
  have HB := Lib.hid (fun (wx : World) (h : MSt A1 A2 An Am c1 c2 cn cm a ls rs w wx) => between_any A1 A2 An Am c1 c2 cn cm 0 a ls rs s f t wx h.al h.tabs h.l h.r hm hm2 hs)
  have HR := Lib.hid (fun (wx : World) (h : MSt A1 A2 An Am c1 c2 cn cm a ls rs w wx) => rbetween_any A1 A2 An Am c1 c2 cn cm a ls rs s f t wx h.al h.tabs h.l h.r hm hm2 hs)
  generalize betweenS a ls rs s f t = B at *
  obtain ⟨B1, B2⟩ := B
  clear hin hT hls hrs
  have haw := Lib.hid (HAW.out _ hs0)
  have HS0 := Lib.hid hs0
  clear hs0
  go_enter Tryz.func6, Tryz.ntmps6
  go_wp2_with fail
  refine haw.out.mono ?_
  rintro e0 w1 ⟨rfl, hb1⟩
  have hs1 := HS0.out.on hb1
  have HS1 := Lib.hid hs1
  obtain ⟨a1, _⟩ := hs1.r0.cel (i := 0) rfl
  obtain ⟨d1, _⟩ := hs1.r0.cel (i := 1) rfl
  obtain ⟨p1, _⟩ := hs1.r1.cel (i := 0) rfl
  obtain ⟨q1, _⟩ := hs1.r2.cel (i := 0) rfl
  have l1 := hs1.r2.lt
  have HBW1 := Lib.hid hs1.below
  clear HS0 haw HAW hb1 hs1
  have hm1 := Lib.hid (HM1.out w1)
  cases h1 : muchB ls.length s.size with
  | true =>
    rw [h1] at hm1
    clear h1
    go_wp2_with fail
    refine hm1.out.mono ?_
    rintro e w2 ⟨rfl, hb2⟩
    have HF := Lib.hid (HBW1.out.trans (hb2.mono HBW1.out.size))
    clear hb2
    go_wp2_with fail
    go_ret
    exact ⟨rfl, HF.out⟩
  | false =>
    rw [h1] at hm1
    clear h1
    go_wp2_with fail
    refine hm1.out.mono ?_
    rintro e w2 ⟨rfl, hb2⟩
    have hs2 := HS1.out.on hb2
    have HS2 := Lib.hid hs2
    obtain ⟨a2, _⟩ := hs2.r0.cel (i := 0) rfl
    obtain ⟨d2, _⟩ := hs2.r0.cel (i := 1) rfl
    obtain ⟨p2, _⟩ := hs2.r1.cel (i := 0) rfl
    obtain ⟨q2, _⟩ := hs2.r2.cel (i := 0) rfl
    have l2 := hs2.r2.lt
    have HBW2 := Lib.hid hs2.below
    have hm2' := Lib.hid (HM2.out w2)
    clear hs2 hb2 HS1 hm1 a1 d1 p1 q1 l1 HBW1
    cases h2 : muchB rs.length s.size with
    | true =>
      rw [h2] at hm2'
      clear h2
      go_wp2_with fail
      refine hm2'.out.mono ?_
      rintro e w3 ⟨rfl, hb3⟩
      have HF := Lib.hid (HBW2.out.trans (hb3.mono HBW2.out.size))
      clear hb3
      go_wp2_with fail
      go_ret
      exact ⟨rfl, HF.out⟩
    | false =>
      rw [h2] at hm2'
      clear h2
      go_wp2_with fail
      refine hm2'.out.mono ?_
      rintro e w3 ⟨rfl, hb3⟩
      have hs3 := HS2.out.on hb3
      have HS3 := Lib.hid hs3
      obtain ⟨a3, _⟩ := hs3.r0.cel (i := 0) rfl
      obtain ⟨d3, _⟩ := hs3.r0.cel (i := 1) rfl
      obtain ⟨p3, _⟩ := hs3.r1.cel (i := 0) rfl
      obtain ⟨q3, _⟩ := hs3.r2.cel (i := 0) rfl
      have l3 := hs3.r2.lt
      have HBW3 := Lib.hid hs3.below
      have hb := Lib.hid (HB.out w3 hs3)
      clear hs3 hb3 HS2 hm2' a2 d2 p2 q2 l2 HBW2
      go_wp2_with fail
      refine hb.out.mono ?_
      rintro e w4 ⟨rfl, hb4⟩
      have hs4 := HS3.out.on hb4
      have HS4 := Lib.hid hs4
      obtain ⟨a4, _⟩ := hs4.r0.cel (i := 0) rfl
      obtain ⟨d4, _⟩ := hs4.r0.cel (i := 1) rfl
      obtain ⟨p4, _⟩ := hs4.r1.cel (i := 0) rfl
      obtain ⟨q4, _⟩ := hs4.r2.cel (i := 0) rfl
      have l4 := hs4.r2.lt
      have hr := Lib.hid (HR.out w4 hs4)
      simp only
      clear hs4 hb4 HS3 hb a3 d3 p3 q3 l3 HBW3
      go_wp2_with fail
      refine hr.out.mono ?_
      rintro e w5 ⟨rfl, hb5⟩
      have HF := Lib.hid ((HS4.out.on hb5).below)
      clear hb5 hr HS4
      simp only
      go_wp2_with fail
      go_ret
      exact ⟨retb_of (by simp), HF.out⟩
end Go.Proofs.YtimhlnndobfehaaGreatDoor
namespace Go.Proofs.YtimhlnndobfehaaGreatDoor
open Go.ChangeShapes Go.WideShapes Go.RowKit
set_option linter.unusedVariables false

def tLt : Ty Lt := ⟨3, vLt, fun _ => 4, fun _ => True⟩
set_option maxRecDepth 100000 in
theorem opens_Lt {H : Type} {enc : TypeId × Value → H} {w : World} : Opens enc Tryz.prog w 90 tLt := by
  refine ⟨by kernel_rfl, vLt_good, fun {fuel cs x ps} h hf => ?_⟩
  obtain ⟨ys, n, _, hx, hlen, hyl, hfs⟩ := DataW.trod_struct Tryz.underlying90 h
  have hlen' : cs.length = 3 := hlen.trans (by kernel_rfl)
  match cs, hlen', ys, hyl with
  | [c0, c1, c2], _, [y0, y1, y2], _ =>
    simp only [Prod.mk.injEq] at hx
    obtain ⟨rfl, rfl⟩ := hx
    have g0 := hfs 0 _ rfl
    have g1 := hfs 1 _ rfl
    have g2 := hfs 2 _ rfl
    have o0 := (opens_int Tryz.underlying21 (by kernel_rfl) : Opens enc Tryz.prog w _ _)
    have e0 : Tryz.prog.cellsOf _ = 1 := o0.size
    obtain ⟨a0, ⟨p0, k0⟩, _, m0, _⟩ := o0.cells (cs := [c0]) (x := y0.1) (ps := y0.2) (by simpa [e0] using g0) (fun b o hm => hf b o (List.mem_flatMap.2 ⟨y0, by simp, hm⟩))
    have o1 := (opens_int Tryz.underlying64 (by kernel_rfl) : Opens enc Tryz.prog w _ _)
    have e1 : Tryz.prog.cellsOf _ = 1 := o1.size
    obtain ⟨a1, ⟨p1, k1⟩, _, m1, _⟩ := o1.cells (cs := [c1]) (x := y1.1) (ps := y1.2) (by simpa [e1] using g1) (fun b o hm => hf b o (List.mem_flatMap.2 ⟨y1, by simp, hm⟩))
    obtain ⟨a2, ⟨p2, k2⟩, _, m2, _⟩ := o1.cells (cs := [c2]) (x := y2.1) (ps := y2.2) (by simpa [e1] using g2) (fun b o hm => hf b o (List.mem_flatMap.2 ⟨y2, by simp, hm⟩))
    have k1 := kin_u32 k1
    have k2 := kin_u32 k2
    have n1 : ((a1.toNat : Nat) : Int) = a1 := Int.toNat_of_nonneg k1.1
    have n2 : ((a2.toNat : Nat) : Int) = a2 := Int.toNat_of_nonneg k2.1
    simp only [List.cons.injEq, and_true] at p0 p1 p2
    refine ⟨⟨a0, a1.toNat, a2.toNat⟩, ⟨by rw [p0, p1, p2, n1, n2], k0, by show a1.toNat < _; omega, by show a2.toNat < _; omega⟩, rfl, ?_, fun _ => trivial⟩
    simp only [tLt, tInt, List.map_cons, List.map_nil, Rows.uptoBulk, Rows.uptoBulkAll] at m0 m1 m2 ⊢
    omega

def vAl : Rep Al := fun w lo hi cs x => ∃ c0 c1, cs = [c0, c1] ∧ vSl 1 vStr w lo hi [c0] x.feats ∧ vSl 3 vLt w lo hi [c1] x.lets
theorem vAl_good : vAl.Good :=
  ⟨fun k ⟨c0, c1, e, h0, h1⟩ => ⟨c0, c1, e, (vSl_good vStr_good).keep k h0, (vSl_good vLt_good).keep k h1⟩, fun a b ⟨c0, c1, e, h0, h1⟩ => ⟨c0, c1, e, (vSl_good vStr_good).wide a b h0, (vSl_good vLt_good).wide a b h1⟩⟩
def tAl : Ty Al := ⟨2, vAl, fun x => (tSl 16 tStr).m x.feats + (tSl 12 tLt).m x.lets + 1, fun x => (tSl 16 tStr).Q x.feats ∧ (tSl 12 tLt).Q x.lets⟩
set_option maxRecDepth 100000 in
theorem opens_Al {H : Type} {enc : TypeId × Value → H} {w : World} : Opens enc Tryz.prog w 25 tAl := by
  refine ⟨by kernel_rfl, vAl_good, fun {fuel cs x ps} h hf => ?_⟩
  obtain ⟨ys, n, _, hx, hlen, hyl, hfs⟩ := DataW.trod_struct Tryz.underlying25 h
  have hlen' : cs.length = 2 := hlen.trans (by kernel_rfl)
  match cs, hlen', ys, hyl with
  | [c0, c1], _, [y0, y1], _ =>
    simp only [Prod.mk.injEq] at hx
    obtain ⟨rfl, rfl⟩ := hx
    have g0 := hfs 0 _ rfl
    have g1 := hfs 1 _ rfl
    have o0 : Opens enc Tryz.prog w _ (tSl 16 tStr) := opens_slice Tryz.underlying22 (by kernel_rfl) (by kernel_rfl) (by decide) (opens_str Tryz.underlying9 (by kernel_rfl))
    have e0 : Tryz.prog.cellsOf _ = 1 := o0.size
    obtain ⟨a0, p0, _, m0, q0⟩ := o0.cells (cs := [c0]) (x := y0.1) (ps := y0.2) (by simpa [e0] using g0) (fun b o hm => hf b o (List.mem_flatMap.2 ⟨y0, by simp, hm⟩))
    have o1 : Opens enc Tryz.prog w _ (tSl 12 tLt) := opens_slice Tryz.underlying23 (by kernel_rfl) (by kernel_rfl) (by decide) opens_Lt
    have e1 : Tryz.prog.cellsOf _ = 1 := o1.size
    obtain ⟨a1, p1, _, m1, q1⟩ := o1.cells (cs := [c1]) (x := y1.1) (ps := y1.2) (by simpa [e1] using g1) (fun b o hm => hf b o (List.mem_flatMap.2 ⟨y1, by simp, hm⟩))
    refine ⟨⟨a0, a1⟩, ⟨c0, c1, rfl, p0, p1⟩, rfl, ?_, fun hq => ⟨q0 fun n hn => hq n (by simp only [DataW.weights, Tryz.underlying25]; exact weights_each 0 rfl rfl hn), q1 fun n hn => hq n (by simp only [DataW.weights, Tryz.underlying25]; exact weights_each 1 rfl rfl hn)⟩⟩
    simp only [tAl, List.map_cons, List.map_nil, Rows.uptoBulk, Rows.uptoBulkAll]
    omega
theorem al_cells {w : World} {lo hi : Nat} {cs : List Value} {x : Al} (h : vAl w lo hi cs x) :
    ∃ A1 c1 A2 c2, cs = [.slice A1 x.feats.length c1, .slice A2 x.lets.length c2] ∧ AlIn w lo hi A1 A2 x := by
  obtain ⟨s0, s1, rfl, ⟨A1, c1, e1, h1, h2, h3⟩, ⟨A2, c2, e2, h4, h5, h6⟩⟩ := h
  simp only [List.cons.injEq, and_true] at e1 e2
  unfold maxLen at h2 h5
  exact ⟨A1, c1, A2, c2, by rw [e1, e2], h3, h6, by omega, by omega⟩
end Go.Proofs.YtimhlnndobfehaaGreatDoor
