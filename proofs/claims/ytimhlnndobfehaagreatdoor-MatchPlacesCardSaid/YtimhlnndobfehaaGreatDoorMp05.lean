/- The document's Begins. -/
import Derived.Test.YtimhlnndobfehaaGreatDoorMp04
namespace Go.Proofs.YtimhlnndobfehaaGreatDoor
open Go.RowKit
open Go.Lib (Utf8Tabs)
set_option linter.unusedVariables false

set_option maxHeartbeats 8000000 in
set_option maxRecDepth 100000 in
theorem rbegins_any (A1 A2 An : Option Addr) (c1 c2 cn : Nat) (a : Al) (ns : List Nd) (s : ByteArray) (f : Int) (w : World) (hin : AlIn w 0 w.heap.size A1 A2 a) (hT : Utf8Tabs 0 1 w) (hns : Sl 5 vNd w 0 w.heap.size An ns) (hm : ns.length ≤ 9223372036854775807) (hs : s.size ≤ maxLen) :
    Calls Tryz.prog 26 #[.agg #[.slice A1 a.feats.length c1, .slice A2 a.lets.length c2], .agg #[.slice An ns.length cn], .string s, .int .i64 f] w (LiOut (beginsS a ns s f) w) := by
  obtain ⟨W2, hW2⟩ : ∃ W2, W2 = (w.alloc (.cells #[.slice A1 a.feats.length c1, .slice A2 a.lets.length c2] 25)).alloc (.cells #[.slice An ns.length cn] 28) := ⟨_, rfl⟩
  have hal : Below w.heap.size w W2 := by rw [hW2]; exact ((Below.refl _ _).alloc (Nat.le_refl _) _).alloc (by simp) _
  have hr0 : Row W2 w.heap.size 25 [.slice A1 a.feats.length c1, .slice A2 a.lets.length c2] := by rw [hW2]; exact (Row.new w _ _).alloc _
  have hr1 : Row W2 (w.heap.size + 1) 28 [.slice An ns.length cn] := by
    have h := Row.new (w.alloc (.cells #[.slice A1 a.feats.length c1, .slice A2 a.lets.length c2] 25)) 28 [.slice An ns.length cn]
    rw [hW2]
    simpa using h
  have HC := Lib.hid (fun (wx : World) (hx : Below W2.heap.size W2 wx) => And.intro (And.intro ((hr0.below hx hr0.lt).cel (i := 0) rfl).1 ((hr0.below hx hr0.lt).cel (i := 1) rfl).1) (And.intro ((hr1.below hx hr1.lt).cel (i := 0) rfl).1 hx.size))
  have HAS := Lib.hid (rasked_any A1 A2 An c1 c2 cn 0 a ns s W2 (hin.on hal) (Utf8Tabs_below hT hal) ((hns.below vNd_good hal (Nat.le_refl _)).wide vNd_good (Nat.le_refl _) hal.size) hm hs)
  have HS : Hid (beginsS a ns s f = if begE a ns s ≠ 0 then ([], begE a ns s) else if placeB (matW a s) f then (begI ns (matW a s) f.toNat (f.toNat + 1), 0) else ([], 2)) := rfl
  have HSK := Lib.hid (askS_err a ns s)
  have HAL := Lib.hid hal
  have HIN := Lib.hid hin
  have HNS := Lib.hid hns
  have hB0 : w.heap.size < W2.heap.size := hr0.lt
  have hB1 : w.heap.size + 1 < W2.heap.size := hr1.lt
  clear hal hr0 hr1 hin hns hT
  generalize beginsS a ns s f = R at *
  by_cases hb : begE a ns s = 0
  · have haz : askS a ns s = ((lettersS a s).1, 0) := Prod.ext (askS_ok hb) ((askS_err a ns s).trans hb)
    rw [haz] at HAS
    have htree : IsTree ns := (beg_zero hb).1
    have hml : matW a s = matL a (lettersS a s).1 := rfl
    have hR : R = if placeB (matW a s) f then (begI ns (matW a s) f.toNat (f.toNat + 1), 0) else ([], 2) := by rw [HS.out, if_neg (by simp [hb])]
    have hLS : ∀ (w5 : World) (A : Option Addr) (c : Nat), Below w.heap.size w w5 → ∀ base, w5.ownsRow base 21 1 (.slice A (lettersS a s).1.length c) (lettersS a s).1.length (runeVs (lettersS a s).1) → StE A1 A2 An A a ns (lettersS a s).1 w5 := fun w5 A c h5 base ho => ask_state hb HIN.out HNS.out h5 ho
    have HLST := Lib.hid hLS
    rw [hml] at hR
    have HR := Lib.hid hR
    have HTR := Lib.hid htree
    clear hb haz hR HS htree hLS HSK hml
    generalize hll : (lettersS a s).1 = ll at *
    clear hll
    go_enter Tryz.func26, Tryz.ntmps26
    go_wp2_with fail
    rw [← hW2]
    clear hW2
    refine HAS.out.mono ?_
    rintro e w1 ⟨A, c, rfl, hown, hb1⟩
    have HB1 := Lib.hid hb1
    obtain ⟨⟨d0, d1⟩, d2, ds⟩ := HC.out w1 hb1
    have HBW := Lib.hid (HAL.out.trans (hb1.mono HAL.out.size))
    have hE := HLST.out w1 A c HBW.out _ hown
    have HE := Lib.hid hE
    have hl64 := hE.len
    clear hb1 hown HAS HLST hE
    simp only
    have HPL : Hid (placeB (matL a ll) f = decide (0 ≤ f ∧ f ≤ (ll.length : Int))) := by show _ = _; unfold placeB; rw [matL_len]
    by_cases hpf : 0 ≤ f ∧ f ≤ (ll.length : Int)
    · obtain ⟨i1, hi1, hy0, hy1, hy2⟩ := info_parts mint_info
      obtain ⟨t, rfl⟩ := Int.eq_ofNat_of_zero_le hpf.1
      have hR2 : R = (begI ns (matL a ll) t (t + 1), 0) := by
        rw [HR.out, HPL.out, decide_eq_true hpf]
        rfl
      have n1 : ¬ (t : Int) < 0 := by omega
      have n2 : ¬ (ll.length : Int) < (t : Int) := by omega
      have n5 : t ≤ ll.length := by omega
      have HF := Lib.hid (fun (k : Nat) (hk : k ≤ ll.length) (wx : World) (hx : Below w1.heap.size w1 wx) => rfrom_any (cn := cn) (c1 := c1) (c2 := c2) (cl := c) (tree_nodes HTR.out) HTR.out.pos hk (HE.out.on hx))
      have HLN := Lib.hid (fun k => show (fromS ns (matL a ll) k).length = ll.length + 1 by rw [fromS_len, matL_len])
      have HSU := Lib.hid (fun k => begI_succ ns (matL a ll) t k)
      have HMF := Lib.hid (fun k => mem_from (ns := ns) (L := matL a ll) (i := k) (j := t))
      have HBL := Lib.hid (begI_len ns (matL a ll) t)
      have HR2 := Lib.hid hR2
      have HCX := Lib.hid (fun (wx : World) (hx : Below w1.heap.size w1 wx) => HC.out wx (HB1.out.trans (hx.mono HB1.out.size)))
      clear hR2 HR hpf HPL d0 d1 d2
      have HST : Hid (LsSt (begI ns (matL a ll) t) (t + 1) w1 (.slice none 0 0) (.int .i64 0) w1) := LsSt.new rfl
      obtain ⟨n, hn⟩ : ∃ n, n = ll.length + 1 := ⟨_, rfl⟩
      have hn2 : t < n := by omega
      rw [← hn] at HF HLN
      have HN := Lib.hid hn
      clear hn
      go_wp2_with fail
      go_loopw [12, 13] (fun v x wr => LsSt (begI ns (matL a ll) t) (t + 1) w1 v x wr) (fun _ x _ => t + 1 - (intOf x).toNat)
      case atStart => exact HST.out
      case round =>
        clear HST
        obtain ⟨k, A5, c5, rfl, rfl, hk, hown, hbw⟩ := hrel
        have hpl := HBL.out k
        by_cases hlt : k < t + 1
        · obtain ⟨⟨d0, d1⟩, d2, ds⟩ := HCX.out wr hbw
          have hcall := Lib.hid (HF.out k (by omega) wr hbw)
          have hln := HLN.out k
          have hmf := HMF.out k
          have hsu := HSU.out k
          have j1 : (k : Int) ≤ (t : Int) := by omega
          have HOWN := Lib.hid hown
          have HBK := Lib.hid hbw
          have HLN2 := Lib.hid hln
          generalize fromS ns (matL a ll) k = S at *
          clear hown hbw hln
          have jt : (t : Int) < (n : Int) := by omega
          cases hx : S.getD t false with
          | true =>
            rw [if_pos (hmf.2 hx)] at hsu
            have HX := Lib.hid hx
            have HSU2 := Lib.hid hsu
            clear hx hmf hsu
            go_wp2_with fail
            refine hcall.out.mono ?_
            rintro e w5 ⟨g, rfl, hg, hrow, hb5⟩
            have hck := (hrow.cel (i := t) (by rw [HLN2.out]; exact hn2)).1
            rw [HX.out] at hck
            have hgl := hrow.lt
            have hown := own_below HOWN.out hb5
            have hbw := HBK.out.trans (hb5.mono HBK.out.size)
            obtain ⟨hq4, hown3⟩ := one_more (k := k) (by omega) hown
            have h63 : (begI ns (matL a ll) t k).length + [(k : Int)].length ≤ maxLen := by unfold maxLen; simp; omega
            have h8 : ((begI ns (matL a ll) t k).length + [(k : Int)].length) * 8 ≤ 140737488355328 := by simp; omega
            have hbs3 : w1.heap.size ≤ (w5.alloc (.cells #[.int .i64 (k : Int)] 3)).heap.size := by have := hbw.size; simp; omega
            have HFI := Lib.hid (fun A6 c6 w6 h6 hf6 => LsSt.push (W := w1) (A6 := A6) (c6 := c6) (w6 := w6) hlt HSU2.out hbw hown h6 hf6)
            clear hbw hown hrow hb5 hcall HOWN HBK HSU2
            generalize begI ns (matL a ll) t k = P at *
            go_wp2_with (at_builtin; refine wpList_append_ints rfl _ _ 45 rfl 3 i1 8 Tryz.underlying45 hi1 hy0 hy1 hy2 rfl rfl hown3 hq4 h63 h8 hbs3 ?_)
            intro A6 c6 w6 hown6 hfr6 _
            have HFIN := Lib.hid (HFI.out A6 c6 w6 (by simpa using hown6) hfr6)
            clear hown6 hfr6 HFI hown3 hq4
            go_wp2_with fail
            exact ⟨HFIN.out, by simp [intOf]; omega⟩
          | false =>
            rw [if_neg (fun h => by rw [hmf.1 h] at hx; cases hx)] at hsu
            have HX := Lib.hid hx
            have HSU2 := Lib.hid hsu
            clear hx hmf hsu
            go_wp2_with fail
            refine hcall.out.mono ?_
            rintro e w5 ⟨g, rfl, hg, hrow, hb5⟩
            have hck := (hrow.cel (i := t) (by rw [HLN2.out]; exact hn2)).1
            rw [HX.out] at hck
            have hgl := hrow.lt
            have HFIN := Lib.hid (LsSt.skip (W := w1) hlt HSU2.out (HBK.out.trans (hb5.mono HBK.out.size)) (own_below HOWN.out hb5))
            clear hrow hb5 hcall HOWN HBK HSU2
            generalize begI ns (matL a ll) t k = P at *
            go_wp2_with fail
            exact ⟨HFIN.out, by simp [intOf]; omega⟩
        · obtain rfl : k = t + 1 := by omega
          have j1 : ¬ ((t + 1 : Nat) : Int) ≤ (t : Int) := by omega
          have HFIN : Hid (LiOut R w (.returned (.tuple #[.slice A5 (begI ns (matL a ll) t (t + 1)).length c5, .int .i64 0])) wr) := by
            rw [HR2.out]
            exact ⟨A5, c5, rfl, own_low hown HBW.out.size, HBW.out.trans (hbw.mono HBW.out.size)⟩
          clear hown hbw
          go_wp2_with fail
          go_ret2
          exact HFIN.out
    · have HFIN : Hid (LiOut R w (.returned (.tuple #[.slice none 0 0, .int .i64 2])) w1) := LiOut.no (by rw [HR.out, HPL.out, decide_eq_false hpf]; rfl) HBW.out
      clear HR HPL
      by_cases ht0 : f < 0
      · go_wp2_with fail
        go_ret2
        exact HFIN.out
      · have ht1 : (ll.length : Int) < f := by omega
        go_wp2_with fail
        go_ret2
        exact HFIN.out
  · have hR : R = _ := HS.out.trans (if_pos hb)
    have HR := Lib.hid hR
    have hke := HSK.out
    clear HS hR HSK
    generalize askS a ns s = Z at *
    obtain ⟨zl, ze⟩ := Z
    simp only at hke
    subst hke
    generalize begE a ns s = E at *
    have hne : (E != 0) = true := by rw [bne_iff_ne]; exact hb
    clear hb
    go_enter Tryz.func26, Tryz.ntmps26
    go_wp2_with fail
    rw [← hW2]
    clear hW2
    refine HAS.out.mono ?_
    rintro e w1 ⟨A, c, rfl, hown, hb1⟩
    have HFIN := Lib.hid (LiOut.no (W := w) HR.out (HAL.out.trans (hb1.mono HAL.out.size)))
    clear hown hb1 HAS
    go_wp2_with fail
    go_ret2
    exact HFIN.out
end Go.Proofs.YtimhlnndobfehaaGreatDoor
