/- The document's Has and Peaks. -/
import Derived.Test.YtfjccjjdgbkbiaaDoorWr19
import Derived.Test.YtfjccjjdgbkbiaaDoorWr20
import Derived.Test.YtfjccjjdgbkbiaaDoorWr14
import Derived.BigRegion
import Derived.Deep.DeepCutAuto
import Derived.Deep.CutBlock
namespace Go.Proofs.YtfjccjjdgbkbiaaDoor
open Go.RowKit
open Go.Lib (Utf8Tabs)
set_option linter.unusedVariables false

theorem numF_at : ∀ (l : List Lt) (i : Nat) (x : Int) (n : Nat), numF l i x = some n → ∃ k, ∃ hk : k < l.length, n = i + k ∧ l[k].rune = x
  | [], i, x, n, h => by simp [numF] at h
  | y :: r, i, x, n, h => by
    unfold numF at h
    by_cases e : y.rune = x
    · rw [if_pos e] at h
      injection h with h
      exact ⟨0, by simp, by omega, e⟩
    · rw [if_neg e] at h
      obtain ⟨k, hk, h1, h2⟩ := numF_at r (i + 1) x n h
      exact ⟨k + 1, by simpa using hk, by omega, by simpa using h2⟩
theorem isLet_at {a : Al} {x : Int} (h : isLet a x = true) : ∃ k, ∃ hk : k < a.lets.length, numI a x = (k : Int) ∧ a.lets[k].rune = x := by
  unfold isLet num at h
  obtain ⟨n, hn⟩ := Option.isSome_iff_exists.1 h
  obtain ⟨k, hk, h1, h2⟩ := numF_at _ _ _ _ hn
  refine ⟨k, hk, ?_, h2⟩
  unfold numI num
  rw [hn]
  simp only
  omega
theorem cls_like {a : Al} (hok : alOk a = true) {k : Nat} (hk : k < a.lets.length) (p m : Nat) : (clsL a.lets p m).contains a.lets[k].rune = likeL a.lets[k] p m := by
  have hd := alOk_distinct hok
  rw [Bool.eq_iff_iff, List.contains_iff_mem]
  unfold clsL
  rw [List.mem_map]
  constructor
  · rintro ⟨y, hy, e⟩
    obtain ⟨hy1, hy2⟩ := List.mem_filter.1 hy
    obtain ⟨j, hj, rfl⟩ := List.getElem_of_mem hy1
    rcases Nat.lt_trichotomy j k with h | h | h
    · exact absurd e (List.pairwise_iff_getElem.1 hd j k hj hk h)
    · subst h; exact hy2
    · exact absurd e.symm (List.pairwise_iff_getElem.1 hd k j hk hj h)
  · intro h
    exact ⟨a.lets[k], List.mem_filter.2 ⟨List.getElem_mem hk, h⟩, rfl⟩
theorem readP_lets (isL : Int → Bool) (most : Nat) : ∀ (l : List Pc) (acc : List Int), (∀ x ∈ acc, isL x = true) → ∀ x ∈ (readP isL most l acc).1, isL x = true
  | [], acc, h => h
  | y :: r, acc, h => by
    unfold readP
    split
    · intro x hx; simp at hx
    · split
      · intro x hx; simp at hx
      · split
        · intro x hx; simp at hx
        · rename_i h1 h2 h3
          refine readP_lets isL most r (acc ++ [y.rune]) fun x hx => ?_
          rcases List.mem_append.1 hx with hx | hx
          · exact h x hx
          · rw [List.mem_singleton.1 hx]
            simpa using h2
theorem letters_isLet {a : Al} {s : ByteArray} : ∀ x ∈ (lettersS a s).1, alOk a = true ∧ isLet a x = true := by
  unfold lettersS
  by_cases h : alOk a = true
  · rw [if_pos h]
    exact fun x hx => ⟨h, readP_lets (isLet a) 64 (pcs s) [] (fun x hx => by simp at hx) x hx⟩
  · rw [if_neg h]
    intro x hx
    simp at hx

set_option maxHeartbeats 4000000 in
theorem rhas_any (A1 A2 : Option Addr) (c1 c2 lo : Nat) (a : Al) (r : Int) (p m : Nat) (w : World) (hin : AlIn w lo w.heap.size A1 A2 a) (hr : -2147483648 ≤ r ∧ r ≤ 2147483647) (hok : alOk a = true) (hisl : isLet a r = true) (hp : p < 4294967296) (hm : m < 4294967296) :
    Calls Tryd.prog 50 #[.agg #[.slice A1 a.feats.length c1, .slice A2 a.lets.length c2], .int .i32 r, .int .u32 (p : Int), .int .u32 (m : Int)] w fun e w' => e = .returned (.bool ((clsL a.lets p m).contains r)) ∧ Below w.heap.size w w' := by
  have hal : Below w.heap.size w (w.alloc (.cells #[.slice A1 a.feats.length c1, .slice A2 a.lets.length c2] 25)) := (Below.refl _ _).alloc (Nat.le_refl _) _
  have hr0 := Row.new w 25 [.slice A1 a.feats.length c1, .slice A2 a.lets.length c2]
  have hcall := Lib.hid (number_any A1 A2 c1 c2 lo a r _ (hin.on hal) hr)
  obtain ⟨k, hk, hnum, hru⟩ := isLet_at hisl
  have hcl := cls_like hok hk p m
  rw [hru] at hcl
  rw [hcl]
  rw [hnum] at hcall
  obtain ⟨X, hX⟩ : ∃ X, likeL a.lets[k] p m = X := ⟨_, rfl⟩
  rw [hX]
  have hn2 := hin.n2
  go_enter Tryd.func50, Tryd.ntmps50
  go_wp2_with fail
  refine hcall.out.mono ?_
  rintro e w1 ⟨rfl, hb1⟩
  have hr1 := hr0.below hb1 hr0.lt
  have hbw1 := hal.trans (hb1.mono (by simp))
  have hl1 := hr1.lt
  obtain ⟨q1, f1⟩ := hr1.cel (i := 1) rfl
  obtain ⟨b, off, rfl, _, hbb, ⟨x0, y0⟩, ⟨x1, y1⟩, ⟨x2, y2⟩, hrr, hpp, hmm'⟩ := lt_at (hin.l.below vLt_good hbw1 (Nat.le_refl _)) hk
  have hbl : b < w1.heap.size := by have := hbw1.size; omega
  have HL : Hid (X = (decide (a.lets[k].plus &&& p = p) && decide (a.lets[k].minus &&& m = m))) := hX.symm
  clear hX hcl
  obtain ⟨q, b1, b2, b3⟩ := bits_has hp hpp
  obtain ⟨r', d1, d2, d3⟩ := bits_has hm hmm'
  generalize a.lets[k] = l at *
  clear hcall hb1 hal hr0 hr1 hru hnum hisl hok hin
  have hkk : (k : Int) < (a.lets.length : Int) := by omega
  have hk0 : 0 ≤ (k : Int) := by omega
  have HB := Lib.hid hbw1
  clear hbw1
  cases hq : decide (l.plus &&& p = p) with
  | true =>
    rw [hq] at b2
    have HL2 : Hid (X = decide (l.minus &&& m = m)) := by show _ = _; rw [HL.out, hq, Bool.true_and]
    cases hr2 : decide (l.minus &&& m = m) with
    | true =>
      rw [hr2] at d2
      have HF : Hid (X = true) := by show _ = _; rw [HL2.out]; assumption
      clear hq hr2 HL
      go_wp2_with fail
      go_ret
      exact ⟨retb_of (by rw [HF.out]), HB.out⟩
    | false =>
      rw [hr2] at d2
      have HF : Hid (X = false) := by show _ = _; rw [HL2.out]; assumption
      clear hq hr2 HL
      go_wp2_with fail
      go_ret
      exact ⟨retb_of (by rw [HF.out]), HB.out⟩
  | false =>
    rw [hq] at b2
    have HF : Hid (X = false) := by show _ = _; rw [HL.out, hq]; rfl
    clear hq HL
    go_wp2_with fail
    go_ret
    exact ⟨retb_of (by rw [HF.out]), HB.out⟩

set_option maxHeartbeats 4000000 in
set_option maxRecDepth 100000 in
theorem rpeaks_any (A1 A2 : Option Addr) (c1 c2 lo : Nat) (a : Al) (s : ByteArray) (p m : Nat) (w : World) (hin : AlIn w lo w.heap.size A1 A2 a) (hT : Utf8Tabs 0 1 w) (hs : s.size ≤ maxLen) (hp : p < 4294967296) (hm : m < 4294967296) :
    Calls Tryd.prog 22 #[.agg #[.slice A1 a.feats.length c1, .slice A2 a.lets.length c2], .string s, .int .u32 (p : Int), .int .u32 (m : Int)] w (IntsOut (peaksS a s p m) w) := by
  obtain ⟨i1, hi1, hy0, hy1, hy2⟩ := info_parts int_info
  have hal : Below w.heap.size w (w.alloc (.cells #[.slice A1 a.feats.length c1, .slice A2 a.lets.length c2] 25)) := (Below.refl _ _).alloc (Nat.le_refl _) _
  have hr0 := Row.new w 25 [.slice A1 a.feats.length c1, .slice A2 a.lets.length c2]
  have hcall := Lib.hid (rletters_any A1 A2 c1 c2 lo a s _ (hin.on hal) (Utf8Tabs_below hT hal) hs)
  have hclass := Lib.hid (fun w' (h : Below w.heap.size w w') => rclass_any A1 A2 c1 c2 lo a p m w' (hin.on h) hp hm)
  have HT : Hid (peaksS a s p m = if (lettersS a s).2 ≠ 0 then ([], (lettersS a s).2) else if (classS a p m).2 ≠ 0 then ([], (classS a p m).2) else (placesOf (fun x => (classS a p m).1.contains x) (lettersS a s).1, 0)) := rfl
  have hlen := letters_len a s
  have herr := letters_err a s
  have hcer := class_err a p m
  have hlets := @letters_isLet a s
  have hcls : (classS a p m).2 = 0 → alOk a = true → (classS a p m).1 = clsL a.lets p m := by
    intro h1 h2
    unfold classS at h1 ⊢
    rw [if_neg (by rw [h2]; simp)] at h1 ⊢
    by_cases h3 : classOk a.feats.length p m = true
    · rw [if_pos h3]
    · rw [if_neg h3] at h1; simp at h1
  generalize lettersS a s = R at *
  generalize classS a p m = C at *
  obtain ⟨l, E⟩ := R
  obtain ⟨cl, F⟩ := C
  simp only at *
  rcases herr with h0 | ⟨h1, h2, h3⟩
  · subst h0
    rcases hcer with ⟨h0, hcl⟩ | ⟨⟨h1, h2⟩, h3⟩
    · subst h0
      have HF : Hid (peaksS a s p m = (placesOf (fun x => cl.contains x) l, 0)) := by show _ = _; rw [HT.out]; simp
      clear HT
      have HH := Lib.hid (fun w' (h : Below w.heap.size w w') (x : Int) (hx : x ∈ l) (hr : -2147483648 ≤ x ∧ x ≤ 2147483647) => by
        have h3 := hlets x hx
        have h4 := rhas_any A1 A2 c1 c2 lo a x p m w' (hin.on h) hr h3.1 h3.2 hp hm
        rw [← hcls rfl h3.1] at h4
        exact h4)
      have HI := Lib.hid (fun (x : Int) (hx : x ∈ l) => (show -2147483648 ≤ x ∧ x ≤ 2147483647 from by
        have h3 := (hlets x hx).2
        obtain ⟨k, hk, _, e⟩ := isLet_at h3
        rw [← e]
        exact (lt_at hin.l hk).choose_spec.choose_spec.2.2.2.2.2.2.1))
      clear hlets hcls
      go_enter Tryd.func22, Tryd.ntmps22
      go_wp2_with fail
      refine hcall.out.mono ?_
      rintro e w1 ⟨Al, cl1, rfl, hown1, hb1⟩
      have hr1 := hr0.below hb1 hr0.lt
      have hbw1 := hal.trans (hb1.mono (by simp))
      have hl1 := hr1.lt
      have hz1 := hbw1.size
      obtain ⟨q0, f0⟩ := hr1.cel (i := 0) rfl
      obtain ⟨q1, f1⟩ := hr1.cel (i := 1) rfl
      clear hcall hb1
      go_wp2_with fail
      refine (hclass.out _ hbw1).mono ?_
      rintro e w2 ⟨Ac, cc, rfl, hown2, hb2⟩
      have hbw2 := hbw1.trans (hb2.mono hz1)
      have hz2 := hbw2.size
      have hown1' := own_below hown1 hb2
      have hr2 := hr1.below hb2 hl1
      have hst : PeakSt (fun x => cl.contains x) l w2 (.slice none 0 0) (.int .i64 0) w2 := ⟨0, [], none, 0, rfl, rfl, by omega, rfl, World.ownsRow_nil _ _ _ _, Below.refl _ _⟩
      have HST := Lib.hid hst
      clear hst hclass hr1 q0 q1 f0 f1 hown1 hr0 hb2 hal hown2
      go_wp2_with fail
      go_loopw [12, 13] (fun v i wr => PeakSt (fun x => cl.contains x) l w2 v i wr) (fun _ i _ => l.length - (intOf i).toNat)
      case atStart => exact HST.out
      case round =>
        clear HST
        obtain ⟨k, acc, Av, cv, rfl, rfl, hk, hacc, hown, hb⟩ := hrel
        have hbs := hb.size
        by_cases hlt : k < l.length
        · have hr3 := hr2.below hb hr2.lt
          obtain ⟨g, rfl, _, hg, ⟨x0, y0⟩⟩ := own_rune (own_below hown1' hb) hlt
          have hsn := placesOf_snoc (f := fun x => cl.contains x) hlt
          have hacl : acc.length ≤ 64 := by
            have h1 := placesOf_len (fun x => cl.contains x) (l.take k)
            rw [← hacc, List.length_take] at h1
            omega
          rw [← hacc] at hsn
          have hbw := hbw2.trans (hb.mono hz2)
          have hmem : l[k] ∈ l := List.getElem_mem hlt
          have hca : ∀ wx, Below wr.heap.size wr wx → Calls Tryd.prog 50 #[.agg #[.slice A1 a.feats.length c1, .slice A2 a.lets.length c2], .int .i32 l[k], .int .u32 (p : Int), .int .u32 (m : Int)] wx fun e w' => e = .returned (.bool (cl.contains l[k])) ∧ Below wr.heap.size wr w' := fun wx hx => by
            refine (HH.out wx (hbw.trans (hx.mono hbw.size)) l[k] hmem (HI.out _ hmem)).mono ?_
            rintro e w' ⟨rfl, hy⟩
            exact ⟨rfl, hx.trans (hy.mono hx.size)⟩
          have hc : ∀ wx, Below wr.heap.size wr wx → wx.cell? ⟨g, k, none⟩ = some (.int .i32 l[k]) ∧ wx.cell? ⟨w.heap.size, 0, none⟩ = some (.slice A1 a.feats.length c1) ∧ wx.cell? ⟨w.heap.size, 1, none⟩ = some (.slice A2 a.lets.length c2) := fun wx hx =>
            ⟨(Cel.keep (Kp.of_below hx) (Nat.zero_le _) hg ⟨x0, y0⟩).1, ((hr3.below hx hr3.lt).cel (i := 0) rfl).1, ((hr3.below hx hr3.lt).cel (i := 1) rfl).1⟩
          generalize l[k] = x at *
          have hSN := Lib.hid hsn
          have HCA := Lib.hid hca
          have HC := Lib.hid hc
          have hd : Below wr.heap.size wr wr.drew := below_drewN (Below.refl _ _) 1
          have j0 : 0 ≤ (k : Int) := by omega
          have j1 : (k : Int) < (l.length : Int) := by omega
          have hl3 := hr3.lt
          clear hsn hacc hca hc hr3
          cases hL : cl.contains x with
          | false =>
            simp only [hL] at hSN
            rw [hL] at HCA
            have hfin : ∀ w5, Below wr.heap.size wr w5 → PeakSt (fun x => cl.contains x) l w2 (.slice Av acc.length cv) (.int .i64 ((k + 1 : Nat) : Int)) w5 := fun w5 h5 => ⟨k + 1, acc, Av, cv, rfl, rfl, by omega, by rw [hSN.out]; rfl, own_below hown h5, hb.trans (h5.mono hbs)⟩
            have HF3 := Lib.hid hfin
            clear hfin hown hSN
            go_upto_region 11 with (fail)
            refine wp_region_class (fun wx => Below wr.heap.size wr wx) (by kernel_rfl) (by kernel_rfl) hd ?_
            repeat (first
              | go_big_quiet_skip
              | (go_big_quiet_want; go_big_quiet_op; first
                  | go_big_quiet_on
                  | (apply Exists.intro
                     refine ⟨fun wx hx => ?_, ?_⟩
                     · (first
                        | exact rfl
                        | (have e1 := (HC.out wx hx).1; simp only [e1, Result.andThen]; exact ⟨trivial, rfl⟩)
                        | (have e1 := (HC.out wx hx).2.1; have e2 := (HC.out wx hx).2.2; simp only [e1, e2, Result.andThen]; exact ⟨trivial, rfl⟩)
                        | (go_at_call 50; with_reducible exact HCA.out wx hx))
                     go_big_quiet_on)))
            refine wpQuiet_nil ?_
            intro w5 hq
            have HF4 := Lib.hid (HF3.out w5 hq)
            clear HC HCA HF3
            go_wp2_with fail
            exact ⟨HF4.out, by simp [intOf]; omega⟩
          | true =>
            simp only [hL] at hSN
            rw [hL] at HCA
            go_upto_region 11 with (fail)
            refine wp_region_class (fun wx => Below wr.heap.size wr wx) (by kernel_rfl) (by kernel_rfl) hd ?_
            repeat (first
              | go_big_quiet_skip
              | (go_big_quiet_want; go_big_quiet_op; first
                  | go_big_quiet_on
                  | (apply Exists.intro
                     refine ⟨fun wx hx => ?_, ?_⟩
                     · (first
                        | exact rfl
                        | (have e1 := (HC.out wx hx).1; simp only [e1, Result.andThen]; exact ⟨trivial, rfl⟩)
                        | (have e1 := (HC.out wx hx).2.1; have e2 := (HC.out wx hx).2.2; simp only [e1, e2, Result.andThen]; exact ⟨trivial, rfl⟩)
                        | (go_at_call 50; with_reducible exact HCA.out wx hx))
                     go_big_quiet_on)))
            refine wpQuiet_nil ?_
            intro w4 hq
            have hb4 := hb.trans (hq.mono hbs)
            have hown4 := own_below hown hq
            have hal2 : Below w4.heap.size w4 (w4.alloc (.cells #[.int .i64 (k : Int)] 3)) := (Below.refl _ _).alloc (Nat.le_refl _) _
            have hownB := own_below hown4 hal2
            have hrN := Row.new w4 3 [.int .i64 (k : Int)]
            have hnews := hrN.news
            have hone : ∀ u ∈ [Value.int .i64 (k : Int)], u.oneCell' = true := by intro u hu; rw [List.mem_singleton.1 hu]; rfl
            have h63 : acc.length + 1 ≤ maxLen := by unfold maxLen; omega
            have hby : (acc.length + 1) * 8 ≤ 140737488355328 := by omega
            have hlo : w2.heap.size ≤ (w4.alloc (.cells #[.int .i64 (k : Int)] 3)).heap.size := by have := hal2.size; have := hb4.size; omega
            have hbB : Below w2.heap.size w2 (w4.alloc (.cells #[.int .i64 (k : Int)] 3)) := hb4.trans (hal2.mono hb4.size)
            have hge := fun j hj => (hown4.lt j hj).1
            clear hrN hal2 hown hown4 HC HCA x0 y0 hq hd
            go_wp2_with (at_builtin; refine wpList_append_lies _ rfl _ _ 39 rfl w2.heap.size 3 i1 (.int .i64 0) 1 8 Tryd.underlying39 hi1 hy0 hy1 hy2 rfl (by decide) (.slice Av acc.length cv) acc.length (intVs acc) rfl hownB ⟨w4.heap.size, 0, none⟩ 1 1 [.int .i64 (k : Int)] rfl rfl hnews hone (by decide) h63 hby hlo _ rfl ?_)
            intro g5 cap w5 hown5 hgr5 hat5 hlt5
            have hb5 : Below w2.heap.size w2 w5 := hbB.grown hgr5 hlo hge
            have e1 : acc.length + 1 = (acc ++ [k]).length := by simp
            have e2 : intVs acc ++ [.int .i64 (k : Int)] = intVs (acc ++ [k]) := by unfold intVs; simp
            rw [e1, e2] at hown5
            rw [e1]
            have hfin : PeakSt (fun x => cl.contains x) l w2 (.slice (some ⟨g5, 0, none⟩) (acc ++ [k]).length cap) (.int .i64 ((k + 1 : Nat) : Int)) w5 := ⟨k + 1, acc ++ [k], _, _, rfl, rfl, by omega, by rw [hSN.out]; rfl, hown5, hb5⟩
            have HF3 := Lib.hid hfin
            clear hfin hown5 hgr5 hat5 hownB hnews hone e1 e2 hSN
            go_wp2_with fail
            exact ⟨HF3.out, by simp [intOf]; omega⟩
        · obtain rfl : k = l.length := by omega
          have hfin : IntsOut (peaksS a s p m) w (.returned (.tuple #[.slice Av acc.length cv, .int .i64 0])) wr := by
            rw [show peaksS a s p m = (acc, 0) by rw [HF.out, hacc, List.take_length]]
            exact ⟨Av, cv, rfl, own_low hown hz2, hbw2.trans (hb.mono hz2)⟩
          have HF3 := Lib.hid hfin
          clear hfin hown hacc
          go_wp2_with fail
          go_ret2
          exact HF3.out
    · subst h2
      have hne : (F != 0) = true := by rw [bne_iff_ne]; exact h1
      have HF : Hid (peaksS a s p m = ([], F)) := by show _ = _; rw [HT.out, if_neg (by simp), if_pos h1]
      clear HT h1 hlets hcls
      go_enter Tryd.func22, Tryd.ntmps22
      go_wp2_with fail
      refine hcall.out.mono ?_
      rintro e w1 ⟨Al, cl1, rfl, hown1, hb1⟩
      have hr1 := hr0.below hb1 hr0.lt
      have hbw1 := hal.trans (hb1.mono (by simp))
      have hl1 := hr1.lt
      obtain ⟨q0, f0⟩ := hr1.cel (i := 0) rfl
      obtain ⟨q1, f1⟩ := hr1.cel (i := 1) rfl
      clear hcall hb1
      go_wp2_with fail
      refine (hclass.out _ hbw1).mono ?_
      rintro e w2 ⟨Ac, cc, rfl, hown2, hb2⟩
      have HF2 := Lib.hid (IntsOut.no (W := w) HF.out (hbw1.trans (hb2.mono hbw1.size)))
      clear hb2 hr1 q0 f0 q1 f1 hbw1 hr0 hown2 hown1
      go_wp2_with fail
      go_ret2
      exact HF2.out
  · subst h3
    have hne : (E != 0) = true := by rw [bne_iff_ne]; omega
    have HF : Hid (peaksS a s p m = ([], E)) := by show _ = _; rw [HT.out, if_pos (by omega)]
    clear HT hlets hcls
    go_enter Tryd.func22, Tryd.ntmps22
    go_wp2_with fail
    refine hcall.out.mono ?_
    rintro e w1 ⟨Al, cl1, rfl, hown1, hb1⟩
    have HF2 := Lib.hid (IntsOut.no (W := w) HF.out (hal.trans (hb1.mono (by simp))))
    clear hb1 hr0 hown1 hcall
    go_wp2_with fail
    go_ret2
    exact HF2.out
end Go.Proofs.YtfjccjjdgbkbiaaDoor
