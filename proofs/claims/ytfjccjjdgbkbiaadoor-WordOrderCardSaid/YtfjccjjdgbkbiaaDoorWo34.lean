/- word.Sort. word.Sort: the walk. Is a word in a list; rows of strings. -/
import Derived.Test.YtfjccjjdgbkbiaaDoorWo33
import Derived.Test.YtfjccjjdgbkbiaaDoorWo29
import Derived.Test.YtfjccjjdgbkbiaaDoorWo31
namespace Go.Proofs.YtfjccjjdgbkbiaaDoor
open Go.RowKit
open Go.Lib (Utf8Tabs)
set_option linter.unusedVariables false

def insR (rk : Int → Int) (x : List Int) : List (List Int) → List (List Int)
  | [] => [x]
  | y :: r => if cmpL rk x y = -1 then x :: y :: r else if cmpL rk x y = 0 then y :: r else y :: insR rk x r
def rowR (rk : Int → Int) (ls : List (List Int)) : List (List Int) := ls.foldr (insR rk) []
theorem insR_mem (rk : Int → Int) (x : List Int) : ∀ (l : List (List Int)), (∀ y ∈ l, cmpL rk x y = 0 → x = y) → ∀ z, z ∈ insR rk x l ↔ z = x ∨ z ∈ l
  | [], _, z => by simp [insR]
  | y :: r, h, z => by
    have ih := insR_mem rk x r (fun y hy => h y (List.mem_cons_of_mem _ hy)) z
    unfold insR
    split
    · rw [List.mem_cons]
    · split
      · rename_i h0
        have := h y (List.mem_cons_self ..) h0
        subst this
        constructor
        · exact fun h => .inr h
        · rintro (rfl | h)
          · exact List.mem_cons_self ..
          · exact h
      · rw [List.mem_cons, ih, List.mem_cons]
        constructor
        · rintro (h | h | h)
          · exact .inr (.inl h)
          · exact .inl h
          · exact .inr (.inr h)
        · rintro (h | h | h)
          · exact .inr (.inl h)
          · exact .inl h
          · exact .inr (.inr h)
theorem insR_sub (rk : Int → Int) (x : List Int) : ∀ (l : List (List Int)) (z : List Int), z ∈ insR rk x l → z = x ∨ z ∈ l
  | [], z, h => by simp [insR] at h; exact .inl h
  | y :: r, z, h => by
    unfold insR at h
    split at h
    · exact List.mem_cons.1 h
    · split at h
      · exact .inr h
      · rcases List.mem_cons.1 h with h | h
        · exact .inr (List.mem_cons.2 (.inl h))
        · exact (insR_sub rk x r z h).elim .inl (fun h => .inr (List.mem_cons_of_mem _ h))
theorem insR_rows (rk : Int → Int) (x : List Int) : ∀ (l : List (List Int)), Rows rk l → Rows rk (insR rk x l)
  | [], _ => List.pairwise_singleton _ _
  | y :: r, h => by
    obtain ⟨h1, h2⟩ := List.pairwise_cons.1 h
    unfold insR
    split
    · rename_i hx
      refine List.pairwise_cons.2 ⟨fun z hz => ?_, h⟩
      rcases List.mem_cons.1 hz with rfl | hz
      · exact hx
      · exact cmpL_trans rk hx (h1 z hz)
    · split
      · exact h
      · rename_i a b
        have c := cmpL_three rk x y
        have d := cmpL_flip rk x y
        refine List.pairwise_cons.2 ⟨fun z hz => ?_, insR_rows rk x r h2⟩
        rcases insR_sub rk x r z hz with rfl | hz
        · omega
        · exact h1 z hz
theorem rowR_rows (rk : Int → Int) : ∀ ls : List (List Int), Rows rk (rowR rk ls)
  | [] => List.Pairwise.nil
  | x :: ls => insR_rows rk x _ (rowR_rows rk ls)
theorem rowR_mem (rk : Int → Int) : ∀ ls : List (List Int), (∀ x ∈ ls, ∀ y ∈ ls, cmpL rk x y = 0 → x = y) → ∀ z, z ∈ rowR rk ls ↔ z ∈ ls
  | [], _, z => Iff.rfl
  | x :: ls, h, z => by
    have ih := rowR_mem rk ls fun a ha b hb => h a (List.mem_cons_of_mem _ ha) b (List.mem_cons_of_mem _ hb)
    show z ∈ insR rk x (rowR rk ls) ↔ _
    rw [insR_mem rk x _ (fun y hy => h x (List.mem_cons_self ..) y (List.mem_cons_of_mem _ ((ih y).1 hy))), ih, List.mem_cons]
/-- What is sorted and taken once is the row. -/
theorem row_is (rk : Int → Int) {ls ls' : List (List Int)} (hp : ls'.Perm ls) (hs : ls'.Pairwise fun x y => cmpL rk x y ≤ 0) (hz : ∀ x ∈ ls, ∀ y ∈ ls, cmpL rk x y = 0 → x = y) : onceL ls' = rowR rk ls :=
  rows_unique rk _ _ (onceL_rows rk ls' hs fun x hx y hy => hz x (hp.mem_iff.1 hx) y (hp.mem_iff.1 hy)) (rowR_rows rk ls) fun x => by rw [onceL_mem, rowR_mem rk ls hz, hp.mem_iff]

theorem rkA_at {a : Al} (hok : alOk a = true) {x : Int} {k : Nat} (h : num a x = some k) : rkA a x = (k : Int) := by
  unfold rkA rkF
  rw [rank_num a hok, h]
  rfl
theorem rkA_inj {a : Al} (hok : alOk a = true) {x y : Int} (hx : isLet a x = true) (hy : isLet a y = true) (h : rkA a x = rkA a y) : x = y := by
  unfold isLet num at hx hy
  obtain ⟨n, hn⟩ := Option.isSome_iff_exists.1 hx
  obtain ⟨m, hm⟩ := Option.isSome_iff_exists.1 hy
  have e1 := rkA_at hok (show num a x = some n from hn)
  have e2 := rkA_at hok (show num a y = some m from hm)
  have : n = m := by omega
  subst this
  obtain ⟨k, hk, h1, h2⟩ := numF_at _ _ _ _ hn
  obtain ⟨k', hk', h3, h4⟩ := numF_at _ _ _ _ hm
  have : k = k' := by omega
  subst this
  rw [← h2, ← h4]
theorem cmpA_zero {a : Al} (hok : alOk a = true) : ∀ {l k : List Int}, (∀ x ∈ l, isLet a x = true) → (∀ x ∈ k, isLet a x = true) → cmpL (rkA a) l k = 0 → l = k := by
  intro l k hl hk h
  rw [cmpL_map, cmpZ_zero] at h
  induction l generalizing k with
  | nil => cases k with
    | nil => rfl
    | cons y k => simp at h
  | cons x l ih =>
    cases k with
    | nil => simp at h
    | cons y k =>
      simp only [List.map_cons, List.cons.injEq] at h
      rw [rkA_inj hok (hl x (List.mem_cons_self ..)) (hk y (List.mem_cons_self ..)) h.1, ih (fun z hz => hl z (List.mem_cons_of_mem _ hz)) (fun z hz => hk z (List.mem_cons_of_mem _ hz)) h.2]
theorem allF_letters (a : Al) : ∀ l : List ByteArray, ∀ x ∈ (allF a l).1, ∃ s ∈ l, x = (lettersS a s).1
  | [], x, hx => by simp [allF] at hx
  | s :: r, x, hx => by
    unfold allF at hx
    split at hx
    · simp at hx
    · split at hx
      · simp at hx
      · rcases List.mem_cons.1 hx with rfl | hx
        · exact ⟨s, List.mem_cons_self .., rfl⟩
        · obtain ⟨t, ht, e⟩ := allF_letters a r x hx
          exact ⟨t, List.mem_cons_of_mem _ ht, e⟩
theorem allS_letters (a : Al) (l : List ByteArray) : ∀ x ∈ (allS a l).1, ∃ s ∈ l, x = (lettersS a s).1 := by
  unfold allS
  split
  · intro x hx; simp at hx
  · split
    · intro x hx; simp at hx
    · exact allF_letters a l
theorem allS_many (a : Al) (l : List ByteArray) : (allS a l).1.length ≤ 4096 := by
  unfold allS
  split
  · simp
  · split
    · simp
    · have key : ∀ l : List ByteArray, (allF a l).1.length ≤ l.length := by
        intro l
        induction l with
        | nil => simp [allF]
        | cons s r ih =>
          unfold allF
          split
          · simp
          · split
            · simp
            · simp only [List.length_cons]; omega
      have := key l
      omega
theorem onceL_len : ∀ l : List (List Int), (onceL l).length ≤ l.length
  | [] => Nat.le_refl _
  | [x] => Nat.le_refl _
  | x :: y :: l => by
    have := onceL_len (y :: l)
    unfold onceL
    split
    · simp only [List.length_cons] at this ⊢; omega
    · simp only [List.length_cons] at this ⊢; omega
/-- A list's words in their row, and the error. -/
noncomputable def sortS (a : Al) (l : List ByteArray) : List (List Int) × Int := if (allS a l).2 ≠ 0 then ([], (allS a l).2) else (rowR (rkA a) (allS a l).1, 0)
def strVs (l : List ByteArray) : List Value := l.map Value.string
def StrsOut (r : List ByteArray × Int) (W : World) (e : Ending) (w' : World) : Prop :=
  ∃ A c, e = .returned (.tuple #[.slice A r.1.length c, .int .i64 r.2]) ∧ w'.ownsRow W.heap.size 9 1 (.slice A r.1.length c) r.1.length (strVs r.1) ∧ Below W.heap.size W w'
theorem StrsOut.no {r : List ByteArray × Int} {E : Int} {W w' : World} (h : r = ([], E)) (hb : Below W.heap.size W w') : StrsOut r W (.returned (.tuple #[.slice none 0 0, .int .i64 E])) w' := by
  subst h
  exact ⟨none, 0, rfl, World.ownsRow_nil _ _ _ _, hb⟩
end Go.Proofs.YtfjccjjdgbkbiaaDoor
namespace Go.Proofs.YtfjccjjdgbkbiaaDoor
open Go.RowKit
open Go.Lib (Utf8Tabs)
set_option linter.unusedVariables false

theorem string_info : (Tryd.prog.info? 9).map (fun i => (i.zero, i.size, i.bytes)) = some (some (.string ⟨#[]⟩), 1, 16) := by kernel_rfl
def StrSt (R : List (List Int)) (g : Nat) (W : World) (i : Value) (wr : World) : Prop :=
  ∃ (k : Nat) (cs : List Value), i = .int .i64 (k : Int) ∧ k ≤ R.length ∧ wr.ownsRow W.heap.size 9 1 (.slice (some ⟨g, 0, none⟩) R.length R.length) R.length cs ∧ Hid (cs.take k = strVs ((R.take k).map encR)) ∧ Below W.heap.size W wr
set_option maxHeartbeats 8000000 in
set_option maxRecDepth 100000 in
theorem sort_any (A1 A2 AL : Option Addr) (c1 c2 cl lo : Nat) (a : Al) (l : List ByteArray) (w : World) (hin : AlIn w lo w.heap.size A1 A2 a) (hT : Utf8Tabs 0 1 w) (hsl : Sl 1 vStr w lo w.heap.size AL l) (hn : l.length ≤ 9223372036854775807) :
    Calls Tryd.prog 31 #[.agg #[.slice A1 a.feats.length c1, .slice A2 a.lets.length c2], .slice AL l.length cl] w (StrsOut ((sortS a l).1.map encR, (sortS a l).2) w) := by
  obtain ⟨i1, hi1, hy0, hy1, hy2⟩ := info_parts string_info
  have hal : Below w.heap.size w (w.alloc (.cells #[.slice A1 a.feats.length c1, .slice A2 a.lets.length c2] 25)) := (Below.refl _ _).alloc (Nat.le_refl _) _
  have hcall := Lib.hid (all_words A1 A2 AL c1 c2 cl lo a l _ (hin.on hal) (Utf8Tabs_below hT hal) ((hsl.below vStr_good hal (Nat.le_refl _)).wide vStr_good (Nat.le_refl _) hal.size) hn)
  have HS : Hid (sortS a l = if (allS a l).2 ≠ 0 then ([], (allS a l).2) else (rowR (rkA a) (allS a l).1, 0)) := rfl
  have hlet := allS_letters a l
  have hmany := allS_many a l
  generalize allS a l = R at *
  generalize sortS a l = J at *
  obtain ⟨ls, E⟩ := R
  simp only at hlet hmany
  have HLET := Lib.hid hlet
  clear hlet
  go_enter Tryd.func31, Tryd.ntmps31
  go_wp2_with fail
  refine hcall.out.mono ?_
  rintro e w1 ⟨mv, v, vs, rfl, hown1, hrows, hmp, hb1⟩
  have hbw := hal.trans (hb1.mono (by simp))
  have hz := hbw.size
  clear hcall hb1
  simp only at hown1 hrows hmp
  by_cases hE : E = 0
  · subst hE
    obtain ⟨⟨bm, n, rfl, hbm, hmap⟩, g, cap, rfl⟩ := hmp rfl
    have hown2 : w1.ownsRow w.heap.size 26 1 (.slice (some ⟨g, 0, none⟩) ls.length cap) ls.length vs := own_low hown1 (by simp)
    have hrows2 : RowsAt w1 w.heap.size vs ls := hrows.low (by simp)
    have hgl := hown2.lt g rfl
    have hA : Below w1.heap.size w1 (w1.alloc (.cells #[.map (some bm)] 65)) := (Below.refl _ _).alloc (Nat.le_refl _) _
    have hkin : ∀ x ∈ ls, ∀ y ∈ x, kin .i32 y := fun x hx y hy => by
      obtain ⟨s, _, rfl⟩ := HLET.out x hx
      exact letters_kin a s y hy
    have hl64 : ∀ x ∈ ls, x.length ≤ 64 := fun x hx => by
      obtain ⟨s, _, rfl⟩ := HLET.out x hx
      exact letters_len a s
    have hbmg : bm ≠ g := fun h => by
      obtain ⟨D, ⟨es, clock, h1, _⟩, _⟩ := hmap
      rcases hown2.2 with ⟨hv, _⟩ | ⟨g', cap', cur, hv, _, hgg, _⟩
      · cases hv
      · injection hv with hv1
        injection hv1 with hv1
        injection hv1 with hv1
        subst hv1
        rw [h, hgg] at h1
        simp at h1
    have hsort := Lib.hid (sortRows g w1.heap.size bm n cap w.heap.size _ vs ls (w1.alloc (.cells #[.map (some bm)] 65)) (own_below hown2 hA) (hrows2.below hA) (by simp) (by omega)
      ⟨((Row.new w1 65 [.map (some bm)]).cel (i := 0) rfl).1, hmap.below hA hmap.lt⟩ hbmg hkin hl64 hmany)
    have hcz : ∀ x ∈ ls, ∀ y ∈ ls, cmpL (rkA a) x y = 0 → x = y := fun x hx y hy h => by
      obtain ⟨s, _, rfl⟩ := HLET.out x hx
      obtain ⟨t, _, rfl⟩ := HLET.out y hy
      by_cases hx0 : (lettersS a s).1 = []
      · by_cases hy0 : (lettersS a t).1 = []
        · rw [hx0, hy0]
        · obtain ⟨z, hz⟩ := List.exists_mem_of_ne_nil _ hy0
          exact cmpA_zero (letters_isLet z hz).1 (fun q hq => (letters_isLet q hq).2) (fun q hq => (letters_isLet q hq).2) h
      · obtain ⟨z, hz⟩ := List.exists_mem_of_ne_nil _ hx0
        exact cmpA_zero (letters_isLet z hz).1 (fun q hq => (letters_isLet q hq).2) (fun q hq => (letters_isLet q hq).2) h
    have HJ : Hid (J = (rowR (rkA a) ls, 0)) := by show _ = _; rw [HS.out]; simp
    have HCZ := Lib.hid hcz
    have HL64 := Lib.hid hl64
    have HFR0 := Lib.hid hA
    clear HS hmp hmap hkin hl64 hcz hbmg hrows hown1 hrows2 hown2 HLET hA
    simp only
    go_wp2_with fail
    refine hsort.out.mono ?_
    rintro e w3 ⟨rfl, vs', ls', hown3, hrows3, hperm, hpw, hfr3⟩
    have hl3 : ls'.length = ls.length := hperm.length_eq
    rw [← hl3] at hown3
    have hcomp := Lib.hid (compact_any w.heap.size g cap vs' ls' w3 hown3 hrows3 (fun x hx => HL64.out x (hperm.mem_iff.1 hx)) (by omega))
    have hrow := row_is (rkA a) hperm hpw HCZ.out
    rw [hl3] at hcomp
    have hl64' : ∀ x ∈ onceL ls', x.length ≤ 64 := fun x hx => HL64.out x (hperm.mem_iff.1 ((onceL_mem _ _).1 hx))
    have hol := onceL_len ls'
    clear hown3 hrows3 hperm hpw hsort HCZ HL64
    have HFR3 := Lib.hid hfr3
    clear hfr3
    simp only
    go_wp2_with fail
    refine hcomp.out.mono ?_
    rintro e w4 ⟨vs4, rfl, hown4, hrows4, hfr4⟩
    rw [hrow] at hown4 hrows4 hl64' hol
    rw [hrow]
    have hgw : ∀ k, k = g → w.heap.size ≤ k := fun k hk => by subst hk; exact hgl.1
    have hb4 : Below w.heap.size w w4 := hbw.trans ((HFR0.out.mono hz).trans ((HFR3.out.below hgw (by have := HFR0.out.size; omega)).trans (hfr4.below hgw (by have := HFR0.out.size; have := HFR3.out.size; omega))))
    have hz4 := hb4.size
    generalize rowR (rkA a) ls = R at *
    have hm1 : i1.bytes * R.length ≤ 281474976710656 := by rw [hy2]; omega
    have hm2 : R.length ≤ maxLen := by unfold maxLen; omega
    have hR4 : R.length ≤ 4096 := by omega
    have hg4 := (hown4.lt g rfl).2
    have HOWN4 := Lib.hid hown4
    have HROWS4 := Lib.hid hrows4
    have HL4 := Lib.hid hl64'
    clear hcomp hown4 hrows4 hl64' hol hrow hfr4 hgw HFR0 HFR3 hbw
    go_wp2_with (refine wpList_make_full _ rfl (.tmp 28) (.tmp 28) 22 rfl w4.heap.size 9 i1 (.string ⟨#[]⟩) 1 Tryd.underlying22 hi1 hy0 hy1 .i64 .i64 (R.length : Int) (R.length : Int) R.length rfl rfl rfl rfl hm1 hm2 (by simp) ?_)
    intro w5 hown5 hgr5
    have hb5 : Below w4.heap.size w4 w5 := (Below.refl _ _).grown hgr5 (by simp) (by simp)
    generalize (madeCells #[Value.string ⟨#[]⟩] R.length).toList = cells0 at *
    have hst : StrSt R w4.heap.size w4 (.int .i64 0) w5 := ⟨0, cells0, rfl, by omega, hown5, rfl, hb5⟩
    have HST := Lib.hid hst
    have HB4 := Lib.hid hb4
    clear hst hown5 hgr5 hb5 hb4 hm1 hm2 hbm
    generalize hg9 : w4.heap.size = g9 at *
    go_wp2_with fail
    go_loopw [32] (fun i wr => StrSt R g9 w4 i wr) (fun i _ => R.length - (intOf i).toNat)
    case atStart => exact HST.out
    case round =>
      clear HST
      obtain ⟨k, cs, rfl, hk, hown, hcs, hb⟩ := hrel
      have hbs := hb.size
      rw [hg9] at hown hb hbs
      by_cases hlt : k < R.length
      · have hg4' : g < g9 := by omega
        have hownr : wr.ownsRow w.heap.size 26 1 (.slice (some ⟨g, 0, none⟩) R.length cap) R.length vs4 := own_below HOWN4.out (by rw [hg9]; exact hb)
        have hrowsr : RowsAt wr w.heap.size vs4 R := HROWS4.out.below (by rw [hg9]; exact hb)
        obtain ⟨A, c, e, ra, ro⟩ := hrowsr.rat hlt
        obtain ⟨z0, z1⟩ := own_cel hownr e
        have hconv := conv_runes (P := Tryd.prog) (src := 26) (dst := 9) (n := R[k].length) (c := c) Tryd.underlying26 Tryd.underlying21 Tryd.underlying9 (runes_own ro) rfl
        have hcl : cs.length = R.length := by have := hown.1; omega
        obtain ⟨y0, y1⟩ := own_cel hown (j := k) (u := cs[k]) (List.getElem?_eq_getElem (by omega))
        have hset := own_set hown (g := g9) rfl (j := k) (by omega) (.string (encR R[k]))
        have htk : (cs.set k (.string (encR R[k]))).take (k + 1) = strVs ((R.take (k + 1)).map encR) := by
          rw [List.take_succ_eq_append_getElem (by rw [List.length_set]; omega), List.getElem_set_self, List.take_set_of_le (Nat.le_refl _), hcs.out, List.take_succ_eq_append_getElem hlt]
          unfold strVs
          rw [List.map_append, List.map_append]
          rfl
        have hfin : StrSt R g9 w4 (.int .i64 ((k : Int) + 1)) (wr.setCell ⟨g9, k, none⟩ (.string (encR R[k]))) :=
          ⟨k + 1, _, by simp, by omega, by rw [hg9]; exact hset, htk, by rw [hg9]; exact hb.setCell (by simp) _⟩
        have HFIN := Lib.hid hfin
        have j1 : (k : Int) < (R.length : Int) := by omega
        have j2 : 0 ≤ (k : Int) := by omega
        generalize encR R[k] = X at *
        generalize cs[k] = cv at *
        generalize R[k].length = len at *
        clear hfin hset htk hown hownr hrowsr ra ro e hcs hb
        go_wp2_with fail
        exact ⟨HFIN.out, by simp [intOf]; omega⟩
      · obtain rfl : k = R.length := by omega
        have hcl : cs.length = R.length := by have := hown.1; omega
        have hce : cs = strVs (R.map encR) := by
          have := hcs.out
          rwa [List.take_of_length_le (by omega), List.take_length] at this
        have hfin : StrsOut (J.1.map encR, J.2) w (.returned (.tuple #[.slice (some ⟨g9, 0, none⟩) R.length R.length, .int .i64 0])) wr := by
          rw [HJ.out]
          refine ⟨some ⟨g9, 0, none⟩, R.length, by simp only [List.length_map], ?_, HB4.out.trans (hb.mono hz4)⟩
          simp only [List.length_map]
          rw [← hce]
          exact own_low hown hz4
        have HFIN := Lib.hid hfin
        clear hfin hce hown hcs hb
        go_wp2_with fail
        go_ret2
        exact HFIN.out
  · have hne : (E != 0) = true := by rw [bne_iff_ne]; exact hE
    have HFIN := Lib.hid (StrsOut.no (show (J.1.map encR, J.2) = ([], E) by rw [HS.out, if_pos hE]; rfl) (hbw.alloc hz (.cells #[.map mv] 65)))
    clear hown1 hrows hbw HS hE hmp
    simp only
    go_wp2_with fail
    go_ret2
    exact HFIN.out
end Go.Proofs.YtfjccjjdgbkbiaaDoor
namespace Go.Proofs.YtfjccjjdgbkbiaaDoor
open Go.RowKit
set_option linter.unusedVariables false

theorem str_ne {x y : ByteArray} (h : x ≠ y) : (x.toList == y.toList) = false := by
  rw [beq_eq_false_iff_ne]
  intro e
  rw [ByteArray.toList_eq, ByteArray.toList_eq] at e
  exact h (ByteArray.ext (Array.toList_inj.1 e))
/-- Strings that a call owns, as a slice of strings. -/
theorem strs_slice {w : World} {base : Nat} {A : Option Addr} {c : Nat} {l : List ByteArray} (h : w.ownsRow base 9 1 (.slice A l.length c) l.length (strVs l)) (hk : ∀ x ∈ l, x.size ≤ maxLen) : Sl 1 vStr w base w.heap.size A l := fun hn => by
  obtain ⟨g, c', e, _, _, h1, h2⟩ := own_pos h hn
  injection e with e1 _ e2
  subst e1 e2
  refine ⟨g, 0, rfl, h1, h2, fun i x hx => ⟨[.string x], rfl, fun j v hj => ?_, rfl, hk x (List.mem_of_getElem? hx)⟩⟩
  match j, hj with
  | 0, hj =>
    simp only [List.getElem?_cons_zero, Option.some.injEq] at hj
    subst hj
    have := own_cel h (j := i) (u := .string x) (by unfold strVs; rw [List.getElem?_map, hx]; rfl)
    simpa using this
set_option maxHeartbeats 4000000 in
theorem among_yes (A : Option Addr) (c lo hi : Nat) (l : List ByteArray) (s : ByteArray) (w : World) (hsl : Sl 1 vStr w lo hi A l) (hn : l.length ≤ 9223372036854775807) (hs : s ∈ l) :
    Calls Tryd.prog 32 #[.slice A l.length c, .string s] w fun e w' => e = .returned (.bool true) ∧ w = w' := by
  have hst0 : Hid (s ∈ l.drop 0) := by show s ∈ l.drop 0; rw [List.drop_zero]; exact hs
  clear hs
  go_enter Tryd.func32, Tryd.ntmps32
  go_wp2_with fail
  go_loop [5] (fun i => ∃ k : Nat, k ≤ l.length ∧ i = .int .i64 (k : Int) ∧ Hid (s ∈ l.drop k)) (fun i => l.length - (intOf i).toNat)
  case atStart => exact ⟨0, by omega, rfl, hst0⟩
  case round =>
    clear hst0
    obtain ⟨k, hk, rfl, hc⟩ := hrel
    by_cases hlt : k < l.length
    · obtain ⟨b, off, rfl, _, _, ⟨x0, y0⟩, _⟩ := strs_at hsl hlt
      have hst := hc.out
      rw [List.drop_eq_getElem_cons hlt] at hst
      have j1 : (k : Int) < (l.length : Int) := by omega
      have j2 : 0 ≤ (k : Int) := by omega
      generalize l[k] = x at *
      clear hsl hc
      by_cases he : x = s
      · have hd : (x.toList == s.toList) = true := by rw [he]; simp
        clear hst he
        go_wp2_with fail
        go_ret
        exact ⟨rfl, rfl⟩
      · have HN : Hid (s ∈ l.drop (k + 1)) := (List.mem_cons.1 hst).resolve_left fun h => he h.symm
        have hd : (x.toList == s.toList) = false := by exact str_ne he
        clear hst he
        go_wp2_with fail
        exact ⟨⟨k + 1, by omega, by go_num, HN⟩, by simp [intOf]; omega⟩
    · obtain rfl : k = l.length := by omega
      have := hc.out
      rw [List.drop_length] at this
      simp at this
end Go.Proofs.YtfjccjjdgbkbiaaDoor
