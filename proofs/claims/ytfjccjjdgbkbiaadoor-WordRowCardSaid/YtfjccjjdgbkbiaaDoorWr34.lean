/- word.Sort: the walk. The document's Row. -/
import Derived.Test.YtfjccjjdgbkbiaaDoorWr33
import Derived.Test.YtfjccjjdgbkbiaaDoorWr26
import Derived.Test.YtfjccjjdgbkbiaaDoorWr25
import Derived.Test.YtfjccjjdgbkbiaaDoorWr24
namespace Go.Proofs.YtfjccjjdgbkbiaaDoor
open Go.RowKit
open Go.Lib (Utf8Tabs)
set_option linter.unusedVariables false

def StrSt (R : List (List Int)) (g : Nat) (W : World) (i : Value) (wr : World) : Prop :=
  ∃ (k : Nat) (cs : List Value), i = .int .i64 (k : Int) ∧ k ≤ R.length ∧ wr.ownsRow W.heap.size 9 1 (.slice (some ⟨g, 0, none⟩) R.length R.length) R.length cs ∧ Hid (cs.take k = strVs ((R.take k).map encR)) ∧ Below W.heap.size W wr
set_option maxHeartbeats 8000000 in
set_option maxRecDepth 100000 in
theorem sort_any (A1 A2 AL : Option Addr) (c1 c2 cl lo : Nat) (a : Al) (l : List ByteArray) (w : World) (hin : AlIn w lo w.heap.size A1 A2 a) (hT : Utf8Tabs 0 1 w) (hsl : Sl 1 vStr w lo w.heap.size AL l) (hn : l.length ≤ 9223372036854775807) :
    Calls Tryd.prog 31 #[.agg #[.slice A1 a.feats.length c1, .slice A2 a.lets.length c2], .slice AL l.length cl] w (StrsOut ((sortS a l).1.map encR, (sortS a l).2) w) := by
  obtain ⟨i1, hi1, hy0, hy1, hy2⟩ := info_parts string_info
  have hal : Below w.heap.size w (w.alloc (.cells #[.slice A1 a.feats.length c1, .slice A2 a.lets.length c2] 25)) := (Below.refl _ _).alloc (Nat.le_refl _) _
  have hcall := Lib.hid (all_words A1 A2 AL c1 c2 cl lo a l _ (hin.on hal) (Utf8Tabs_below hT hal) ((hsl.below vStr_good hal (Nat.le_refl _)).wide vStr_good (Nat.le_refl _) hal.size) hn)
  have HS : Hid (sortS a l = if (allS a l).2 ≠ 0 then ([], (allS a l).2) else (rowR (rkA a) (allS a l).1, 0)) := rfl
  have hlet := allS_letters a l
  have hmany := allS_many a l
  generalize allS a l = R at *
  generalize sortS a l = J at *
  obtain ⟨ls, E⟩ := R
  simp only at hlet hmany
  have HLET := Lib.hid hlet
  clear hlet
  go_enter Tryd.func31, Tryd.ntmps31
  go_wp2_with fail
  refine hcall.out.mono ?_
  rintro e w1 ⟨mv, v, vs, rfl, hown1, hrows, hmp, hb1⟩
  have hbw := hal.trans (hb1.mono (by simp))
  have hz := hbw.size
  clear hcall hb1
  simp only at hown1 hrows hmp
  by_cases hE : E = 0
  · subst hE
    obtain ⟨⟨bm, n, rfl, hbm, hmap⟩, g, cap, rfl⟩ := hmp rfl
    have hown2 : w1.ownsRow w.heap.size 26 1 (.slice (some ⟨g, 0, none⟩) ls.length cap) ls.length vs := own_low hown1 (by simp)
    have hrows2 : RowsAt w1 w.heap.size vs ls := hrows.low (by simp)
    have hgl := hown2.lt g rfl
    have hA : Below w1.heap.size w1 (w1.alloc (.cells #[.map (some bm)] 65)) := (Below.refl _ _).alloc (Nat.le_refl _) _
    have hkin : ∀ x ∈ ls, ∀ y ∈ x, kin .i32 y := fun x hx y hy => by
      obtain ⟨s, _, rfl⟩ := HLET.out x hx
      exact letters_kin a s y hy
    have hl64 : ∀ x ∈ ls, x.length ≤ 64 := fun x hx => by
      obtain ⟨s, _, rfl⟩ := HLET.out x hx
      exact letters_len a s
    have hbmg : bm ≠ g := fun h => by
      obtain ⟨D, ⟨es, clock, h1, _⟩, _⟩ := hmap
      rcases hown2.2 with ⟨hv, _⟩ | ⟨g', cap', cur, hv, _, hgg, _⟩
      · cases hv
      · injection hv with hv1
        injection hv1 with hv1
        injection hv1 with hv1
        subst hv1
        rw [h, hgg] at h1
        simp at h1
    have hsort := Lib.hid (sortRows g w1.heap.size bm n cap w.heap.size _ vs ls (w1.alloc (.cells #[.map (some bm)] 65)) (own_below hown2 hA) (hrows2.below hA) (by simp) (by omega)
      ⟨((Row.new w1 65 [.map (some bm)]).cel (i := 0) rfl).1, hmap.below hA hmap.lt⟩ hbmg hkin hl64 hmany)
    have hcz : ∀ x ∈ ls, ∀ y ∈ ls, cmpL (rkA a) x y = 0 → x = y := fun x hx y hy h => by
      obtain ⟨s, _, rfl⟩ := HLET.out x hx
      obtain ⟨t, _, rfl⟩ := HLET.out y hy
      by_cases hx0 : (lettersS a s).1 = []
      · by_cases hy0 : (lettersS a t).1 = []
        · rw [hx0, hy0]
        · obtain ⟨z, hz⟩ := List.exists_mem_of_ne_nil _ hy0
          exact cmpA_zero (letters_isLet z hz).1 (fun q hq => (letters_isLet q hq).2) (fun q hq => (letters_isLet q hq).2) h
      · obtain ⟨z, hz⟩ := List.exists_mem_of_ne_nil _ hx0
        exact cmpA_zero (letters_isLet z hz).1 (fun q hq => (letters_isLet q hq).2) (fun q hq => (letters_isLet q hq).2) h
    have HJ : Hid (J = (rowR (rkA a) ls, 0)) := by show _ = _; rw [HS.out]; simp
    have HCZ := Lib.hid hcz
    have HL64 := Lib.hid hl64
    have HFR0 := Lib.hid hA
    clear HS hmp hmap hkin hl64 hcz hbmg hrows hown1 hrows2 hown2 HLET hA
    simp only
    go_wp2_with fail
    refine hsort.out.mono ?_
    rintro e w3 ⟨rfl, vs', ls', hown3, hrows3, hperm, hpw, hfr3⟩
    have hl3 : ls'.length = ls.length := hperm.length_eq
    rw [← hl3] at hown3
    have hcomp := Lib.hid (compact_any w.heap.size g cap vs' ls' w3 hown3 hrows3 (fun x hx => HL64.out x (hperm.mem_iff.1 hx)) (by omega))
    have hrow := row_is (rkA a) hperm hpw HCZ.out
    rw [hl3] at hcomp
    have hl64' : ∀ x ∈ onceL ls', x.length ≤ 64 := fun x hx => HL64.out x (hperm.mem_iff.1 ((onceL_mem _ _).1 hx))
    have hol := onceL_len ls'
    clear hown3 hrows3 hperm hpw hsort HCZ HL64
    have HFR3 := Lib.hid hfr3
    clear hfr3
    simp only
    go_wp2_with fail
    refine hcomp.out.mono ?_
    rintro e w4 ⟨vs4, rfl, hown4, hrows4, hfr4⟩
    rw [hrow] at hown4 hrows4 hl64' hol
    rw [hrow]
    have hgw : ∀ k, k = g → w.heap.size ≤ k := fun k hk => by subst hk; exact hgl.1
    have hb4 : Below w.heap.size w w4 := hbw.trans ((HFR0.out.mono hz).trans ((HFR3.out.below hgw (by have := HFR0.out.size; omega)).trans (hfr4.below hgw (by have := HFR0.out.size; have := HFR3.out.size; omega))))
    have hz4 := hb4.size
    generalize rowR (rkA a) ls = R at *
    have hm1 : i1.bytes * R.length ≤ 281474976710656 := by rw [hy2]; omega
    have hm2 : R.length ≤ maxLen := by unfold maxLen; omega
    have hR4 : R.length ≤ 4096 := by omega
    have hg4 := (hown4.lt g rfl).2
    have HOWN4 := Lib.hid hown4
    have HROWS4 := Lib.hid hrows4
    have HL4 := Lib.hid hl64'
    clear hcomp hown4 hrows4 hl64' hol hrow hfr4 hgw HFR0 HFR3 hbw
    go_wp2_with (refine wpList_make_full _ rfl (.tmp 28) (.tmp 28) 22 rfl w4.heap.size 9 i1 (.string ⟨#[]⟩) 1 Tryd.underlying22 hi1 hy0 hy1 .i64 .i64 (R.length : Int) (R.length : Int) R.length rfl rfl rfl rfl hm1 hm2 (by simp) ?_)
    intro w5 hown5 hgr5
    have hb5 : Below w4.heap.size w4 w5 := (Below.refl _ _).grown hgr5 (by simp) (by simp)
    generalize (madeCells #[Value.string ⟨#[]⟩] R.length).toList = cells0 at *
    have hst : StrSt R w4.heap.size w4 (.int .i64 0) w5 := ⟨0, cells0, rfl, by omega, hown5, rfl, hb5⟩
    have HST := Lib.hid hst
    have HB4 := Lib.hid hb4
    clear hst hown5 hgr5 hb5 hb4 hm1 hm2 hbm
    generalize hg9 : w4.heap.size = g9 at *
    go_wp2_with fail
    go_loopw [32] (fun i wr => StrSt R g9 w4 i wr) (fun i _ => R.length - (intOf i).toNat)
    case atStart => exact HST.out
    case round =>
      clear HST
      obtain ⟨k, cs, rfl, hk, hown, hcs, hb⟩ := hrel
      have hbs := hb.size
      rw [hg9] at hown hb hbs
      by_cases hlt : k < R.length
      · have hg4' : g < g9 := by omega
        have hownr : wr.ownsRow w.heap.size 26 1 (.slice (some ⟨g, 0, none⟩) R.length cap) R.length vs4 := own_below HOWN4.out (by rw [hg9]; exact hb)
        have hrowsr : RowsAt wr w.heap.size vs4 R := HROWS4.out.below (by rw [hg9]; exact hb)
        obtain ⟨A, c, e, ra, ro⟩ := hrowsr.rat hlt
        obtain ⟨z0, z1⟩ := own_cel hownr e
        have hconv := conv_runes (P := Tryd.prog) (src := 26) (dst := 9) (n := R[k].length) (c := c) Tryd.underlying26 Tryd.underlying21 Tryd.underlying9 (runes_own ro) rfl
        have hcl : cs.length = R.length := by have := hown.1; omega
        obtain ⟨y0, y1⟩ := own_cel hown (j := k) (u := cs[k]) (List.getElem?_eq_getElem (by omega))
        have hset := own_set hown (g := g9) rfl (j := k) (by omega) (.string (encR R[k]))
        have htk : (cs.set k (.string (encR R[k]))).take (k + 1) = strVs ((R.take (k + 1)).map encR) := by
          rw [List.take_succ_eq_append_getElem (by rw [List.length_set]; omega), List.getElem_set_self, List.take_set_of_le (Nat.le_refl _), hcs.out, List.take_succ_eq_append_getElem hlt]
          unfold strVs
          rw [List.map_append, List.map_append]
          rfl
        have hfin : StrSt R g9 w4 (.int .i64 ((k : Int) + 1)) (wr.setCell ⟨g9, k, none⟩ (.string (encR R[k]))) :=
          ⟨k + 1, _, by simp, by omega, by rw [hg9]; exact hset, htk, by rw [hg9]; exact hb.setCell (by simp) _⟩
        have HFIN := Lib.hid hfin
        have j1 : (k : Int) < (R.length : Int) := by omega
        have j2 : 0 ≤ (k : Int) := by omega
        generalize encR R[k] = X at *
        generalize cs[k] = cv at *
        generalize R[k].length = len at *
        clear hfin hset htk hown hownr hrowsr ra ro e hcs hb
        go_wp2_with fail
        exact ⟨HFIN.out, by simp [intOf]; omega⟩
      · obtain rfl : k = R.length := by omega
        have hcl : cs.length = R.length := by have := hown.1; omega
        have hce : cs = strVs (R.map encR) := by
          have := hcs.out
          rwa [List.take_of_length_le (by omega), List.take_length] at this
        have hfin : StrsOut (J.1.map encR, J.2) w (.returned (.tuple #[.slice (some ⟨g9, 0, none⟩) R.length R.length, .int .i64 0])) wr := by
          rw [HJ.out]
          refine ⟨some ⟨g9, 0, none⟩, R.length, by simp only [List.length_map], ?_, HB4.out.trans (hb.mono hz4)⟩
          simp only [List.length_map]
          rw [← hce]
          exact own_low hown hz4
        have HFIN := Lib.hid hfin
        clear hfin hce hown hcs hb
        go_wp2_with fail
        go_ret2
        exact HFIN.out
  · have hne : (E != 0) = true := by rw [bne_iff_ne]; exact hE
    have HFIN := Lib.hid (StrsOut.no (show (J.1.map encR, J.2) = ([], E) by rw [HS.out, if_pos hE]; rfl) (hbw.alloc hz (.cells #[.map mv] 65)))
    clear hown1 hrows hbw HS hE hmp
    simp only
    go_wp2_with fail
    go_ret2
    exact HFIN.out
end Go.Proofs.YtfjccjjdgbkbiaaDoor
namespace Go.Proofs.YtfjccjjdgbkbiaaDoor
open Go.RowKit
open Go.Lib (Utf8Tabs)
set_option linter.unusedVariables false

/-- []rune(s): a word's letters in memory of their own. -/
theorem conv_word {a : Al} (hok : alOk a = true) {X : List Int} (hX : Lets a X) : ∃ (C : World → Nat) (O : World → Obj), (∀ wx, (convert 9 26 (.string (encR X))).run Tryd.prog wx = .ok (.slice (some ⟨wx.heap.size, 0, none⟩) X.length (C wx)) (wx.drew.alloc (O wx))) ∧
    ∀ wx : World, RAt (wx.drew.alloc (O wx)) (some ⟨wx.heap.size, 0, none⟩) X := by
  have hp := pcs_back (encR X) X 0 (Nat.zero_le _) (by rw [List.drop_zero, encR_enc]) (fun x hx => isLet_ok hok (hX.1 x hx))
  have hr : (pcs (encR X)).map (·.rune) = X := by
    have := congrArg (List.map Prod.fst) hp
    rw [List.map_map, List.map_map] at this
    have e : (Prod.fst ∘ fun x : Int => (x, false)) = id := rfl
    rw [e, List.map_id] at this
    exact this
  have hcells : Conv.runesFrom (encR X) (encR X).size 0 #[] = (runeVs X).toArray := by
    rw [runes_all]
    conv => rhs; rw [← hr]
    unfold runeVs
    rw [List.map_map]
    rfl
  have hlen : (runeVs X).toArray.size = X.length := by unfold runeVs; simp
  refine ⟨fun wx => grownCap wx X.length 0 21, fun wx => .cells ((runeVs X).toArray ++ Array.replicate (grownCap wx X.length 0 21 - X.length) (.int .i32 0)) 21, fun wx => ?_, fun wx hn => ?_⟩
  · have h := run_runes_of_string (P := Tryd.prog) wx 9 26 21 (encR X) Tryd.underlying9 Tryd.underlying26 Tryd.underlying21 (by rw [hcells, hlen]; have := hX.2; omega)
    rw [hcells, hlen] at h
    exact h
  · refine ⟨wx.heap.size, rfl, by simp, fun j x hx => ?_⟩
    have hj : j < X.length := (List.getElem?_eq_some_iff.1 hx).1
    have hrow := (Row.new wx.drew 21 (((runeVs X).toArray ++ Array.replicate (grownCap wx X.length 0 21 - X.length) (Value.int .i32 0)).toList))
    rw [Array.toArray_toList] at hrow
    exact hrow.cel (i := j) (v := .int .i32 x) (by
      rw [Array.toList_append, List.getElem?_append_left (by unfold runeVs; simpa using hj)]
      unfold runeVs
      simp [hx])
theorem insert_rows {rk : Int → Int} {L : List (List Int)} {X : List Int} {k : Nat} (hL : Rows rk L) (hk : k ≤ L.length) (h1 : ∀ j (hj : j < L.length), j < k → cmpL rk L[j] X = -1) (h2 : ∀ h : k < L.length, cmpL rk L[k] X = 1) : Rows rk (L.take k ++ [X] ++ L.drop k) := by
  have hi := List.pairwise_iff_getElem.1 hL
  unfold Rows
  rw [List.append_assoc]
  refine List.pairwise_append.2 ⟨hL.sublist (List.take_sublist _ _), ?_, fun x hx y hy => ?_⟩
  · refine List.pairwise_append.2 ⟨List.pairwise_singleton _ _, hL.sublist (List.drop_sublist _ _), fun x hx y hy => ?_⟩
    rw [List.mem_singleton.1 hx]
    obtain ⟨j, hj, rfl⟩ := List.getElem_of_mem hy
    rw [List.length_drop] at hj
    rw [List.getElem_drop]
    have hk' : k < L.length := by omega
    have f := cmpL_flip rk L[k] X
    have g := h2 hk'
    by_cases h0 : j = 0
    · subst h0
      simp only [Nat.add_zero]
      omega
    · exact cmpL_trans rk (by omega) (hi k (k + j) hk' (by omega) (by omega))
  · obtain ⟨j, hj, rfl⟩ := List.getElem_of_mem hx
    rw [List.length_take] at hj
    rw [List.getElem_take]
    have hjx := h1 j (by omega) (by omega)
    rcases List.mem_append.1 hy with hy | hy
    · rw [List.mem_singleton.1 hy]; exact hjx
    · obtain ⟨q, hq, rfl⟩ := List.getElem_of_mem hy
      rw [List.length_drop] at hq
      rw [List.getElem_drop]
      exact hi j (k + q) (by omega) (by omega) (by omega)
theorem insert_mem {L : List (List Int)} {X z : List Int} {k : Nat} : z ∈ L.take k ++ [X] ++ L.drop k ↔ z = X ∨ z ∈ L := by
  rw [List.mem_append, List.mem_append, List.mem_singleton]
  conv => rhs; rw [← List.take_append_drop k L, List.mem_append]
  constructor
  · rintro ((h | h) | h)
    · exact .inr (.inl h)
    · exact .inl h
    · exact .inr (.inr h)
  · rintro (h | h | h)
    · exact .inl (.inr h)
    · exact .inl (.inl h)
    · exact .inr h
end Go.Proofs.YtfjccjjdgbkbiaaDoor
