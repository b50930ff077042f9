/- The document's Whole. Lists of places under construction; the document's Ends. -/
import Derived.Test.YtimhlnndobfehaaGreatDoorMd37
import Derived.Test.YtimhlnndobfehaaGreatDoorMd06
namespace Go.Proofs.YtimhlnndobfehaaGreatDoor
open Go.RowKit
open Go.Lib (Utf8Tabs)
set_option linter.unusedVariables false

/-- The members of a set among the first k places. -/
def pickI (S : List Bool) (k : Nat) : List Int := toI ((List.range k).filter fun j => S.getD j false)
theorem pickI_succ (S : List Bool) (k : Nat) : pickI S (k + 1) = if S.getD k false = true then pickI S k ++ [(k : Int)] else pickI S k := by
  unfold pickI toI
  rw [List.range_succ, List.filter_append]
  by_cases h : S.getD k false = true
  · rw [if_pos h]
    simp only [List.filter_cons, List.filter_nil, h, if_true]
    rw [List.map_append]
    rfl
  · rw [if_neg h]
    have h2 : S.getD k false = false := by rwa [Bool.not_eq_true] at h
    simp only [List.filter_cons, List.filter_nil, h2]
    simp
theorem pickI_len (S : List Bool) (k : Nat) : (pickI S k).length ≤ k := by
  unfold pickI
  rw [toI_len]
  have := List.length_filter_le (fun j => S.getD j false) (List.range k)
  rwa [List.length_range] at this
theorem pickI_all (ns : List Nd) (L : List Lt) (i : Nat) : pickI (fromS ns L i) (L.length + 1) = endsI ns L 0 i := by
  unfold pickI endsI endsL
  congr 1
  refine List.filter_congr fun j _ => ?_
  rw [Bool.eq_iff_iff, decide_eq_true_eq, on_getD]
  exact Iff.rfl
theorem from_whole (ns : List Nd) (L : List Lt) : decide ((L.length : Int) ∈ endsI ns L 0 0) = (fromS ns L 0).getD L.length false := by
  rw [Bool.eq_iff_iff, decide_eq_true_eq]
  unfold endsI
  rw [toI_mem]
  constructor
  · rintro ⟨n, e, h⟩
    obtain rfl : L.length = n := by omega
    exact mem_from.1 h
  · exact fun h => ⟨_, rfl, mem_from.2 h⟩
set_option maxHeartbeats 8000000 in
set_option maxRecDepth 100000 in
theorem rwhole_any (A1 A2 An : Option Addr) (c1 c2 cn : Nat) (a : Al) (ns : List Nd) (s : ByteArray) (w : World) (hin : AlIn w 0 w.heap.size A1 A2 a) (hT : Utf8Tabs 0 1 w) (hns : Sl 5 vNd w 0 w.heap.size An ns) (hm : ns.length ≤ 9223372036854775807) (hs : s.size ≤ maxLen) :
    Calls Tryz.prog 24 #[.agg #[.slice A1 a.feats.length c1, .slice A2 a.lets.length c2], .agg #[.slice An ns.length cn], .string s] w (BoOut (wholeS a ns s) w) := by
  obtain ⟨W2, hW2⟩ : ∃ W2, W2 = (w.alloc (.cells #[.slice A1 a.feats.length c1, .slice A2 a.lets.length c2] 25)).alloc (.cells #[.slice An ns.length cn] 28) := ⟨_, rfl⟩
  have hal : Below w.heap.size w W2 := by rw [hW2]; exact ((Below.refl _ _).alloc (Nat.le_refl _) _).alloc (by simp) _
  have hr0 : Row W2 w.heap.size 25 [.slice A1 a.feats.length c1, .slice A2 a.lets.length c2] := by rw [hW2]; exact (Row.new w _ _).alloc _
  have hr1 : Row W2 (w.heap.size + 1) 28 [.slice An ns.length cn] := by
    have h := Row.new (w.alloc (.cells #[.slice A1 a.feats.length c1, .slice A2 a.lets.length c2] 25)) 28 [.slice An ns.length cn]
    rw [hW2]
    simpa using h
  have HC := Lib.hid (fun (wx : World) (hx : Below W2.heap.size W2 wx) => And.intro (And.intro ((hr0.below hx hr0.lt).cel (i := 0) rfl).1 ((hr0.below hx hr0.lt).cel (i := 1) rfl).1) (And.intro ((hr1.below hx hr1.lt).cel (i := 0) rfl).1 hx.size))
  have HAS := Lib.hid (rasked_any A1 A2 An c1 c2 cn 0 a ns s W2 (hin.on hal) (Utf8Tabs_below hT hal) ((hns.below vNd_good hal (Nat.le_refl _)).wide vNd_good (Nat.le_refl _) hal.size) hm hs)
  have HS : Hid (wholeS a ns s = if begE a ns s ≠ 0 then (false, begE a ns s) else (decide (((matW a s).length : Int) ∈ endsI ns (matW a s) 0 0), 0)) := rfl
  have HSK := Lib.hid (askS_err a ns s)
  have HAL := Lib.hid hal
  have HIN := Lib.hid hin
  have HNS := Lib.hid hns
  have hB0 : w.heap.size < W2.heap.size := hr0.lt
  have hB1 : w.heap.size + 1 < W2.heap.size := hr1.lt
  clear hal hr0 hr1 hin hns hT
  generalize wholeS a ns s = R at *
  by_cases hb : begE a ns s = 0
  · have haz : askS a ns s = ((lettersS a s).1, 0) := Prod.ext (askS_ok hb) ((askS_err a ns s).trans hb)
    rw [haz] at HAS
    have htree : IsTree ns := (beg_zero hb).1
    have hml : matW a s = matL a (lettersS a s).1 := rfl
    have hR : R = (decide (((matW a s).length : Int) ∈ endsI ns (matW a s) 0 0), 0) := by rw [HS.out, if_neg (by simp [hb])]
    have hLS : ∀ (w5 : World) (A : Option Addr) (c : Nat), Below w.heap.size w w5 → ∀ base, w5.ownsRow base 21 1 (.slice A (lettersS a s).1.length c) (lettersS a s).1.length (runeVs (lettersS a s).1) → StE A1 A2 An A a ns (lettersS a s).1 w5 := fun w5 A c h5 base ho => ask_state hb HIN.out HNS.out h5 ho
    have HLST := Lib.hid hLS
    rw [hml] at hR
    have HR := Lib.hid hR
    have HTR := Lib.hid htree
    clear hb haz hR HS htree hLS HSK hml
    generalize hll : (lettersS a s).1 = ll at *
    clear hll
    go_enter Tryz.func24, Tryz.ntmps24
    go_wp2_with fail
    rw [← hW2]
    clear hW2
    refine HAS.out.mono ?_
    rintro e w1 ⟨A, c, rfl, hown, hb1⟩
    have HB1 := Lib.hid hb1
    obtain ⟨⟨d0, d1⟩, d2, ds⟩ := HC.out w1 hb1
    have HBW := Lib.hid (HAL.out.trans (hb1.mono HAL.out.size))
    have hE := HLST.out w1 A c HBW.out _ hown
    have HE := Lib.hid hE
    have hl64 := hE.len
    have HF := Lib.hid (rfrom_any (cn := cn) (c1 := c1) (c2 := c2) (cl := c) (tree_nodes HTR.out) HTR.out.pos (Nat.zero_le _) hE)
    have HLN := Lib.hid (show (fromS ns (matL a ll) 0).length = ll.length + 1 by rw [fromS_len, matL_len])
    have hR2 := HR.out
    rw [from_whole, matL_len] at hR2
    have HR2 := Lib.hid hR2
    clear hb1 hown HAS HLST hE hR2 HR
    simp only
    have j0 : ll.length < ll.length + 1 := by omega
    go_wp2_with fail
    refine HF.out.mono ?_
    rintro e w2 ⟨g, rfl, hg, hrow, hb2⟩
    have hc2 := (hrow.cel (i := ll.length) (by rw [HLN.out]; exact j0)).1
    have hgl := hrow.lt
    have HB2 := Lib.hid (HBW.out.trans (hb2.mono HBW.out.size))
    clear hrow hb2 HF
    generalize (fromS ns (matL a ll) 0).getD ll.length false = x at *
    go_wp2_with fail
    go_ret2
    exact BoOut.mk' HR2.out HB2.out
  · have hR : R = _ := HS.out.trans (if_pos hb)
    have HR := Lib.hid hR
    have hke := HSK.out
    clear HS hR HSK
    generalize askS a ns s = Z at *
    obtain ⟨zl, ze⟩ := Z
    simp only at hke
    subst hke
    generalize begE a ns s = E at *
    have hne : (E != 0) = true := by rw [bne_iff_ne]; exact hb
    clear hb
    go_enter Tryz.func24, Tryz.ntmps24
    go_wp2_with fail
    rw [← hW2]
    clear hW2
    refine HAS.out.mono ?_
    rintro e w1 ⟨A, c, rfl, hown, hb1⟩
    have HFIN := Lib.hid (BoOut.mk' (W := w) HR.out (HAL.out.trans (hb1.mono HAL.out.size)))
    clear hown hb1 HAS
    go_wp2_with fail
    go_ret2
    exact HFIN.out
end Go.Proofs.YtimhlnndobfehaaGreatDoor
namespace Go.Proofs.YtimhlnndobfehaaGreatDoor
open Go.RowKit
open Go.Lib (Utf8Tabs)
set_option linter.unusedVariables false

/-- A list of places of the call's own, after k rounds. -/
def LsSt (f : Nat → List Int) (n : Nat) (W : World) (v x : Value) (wr : World) : Prop :=
  ∃ (k : Nat) (A : Option Addr) (c : Nat), v = .slice A (f k).length c ∧ x = .int .i64 (k : Int) ∧ k ≤ n ∧ wr.ownsRow W.heap.size 3 1 (.slice A (f k).length c) (f k).length ((f k).map (Value.int .i64)) ∧ Below W.heap.size W wr
theorem LsSt.new {f : Nat → List Int} {n : Nat} {W : World} (h : f 0 = []) : LsSt f n W (.slice none 0 0) (.int .i64 0) W := ⟨0, none, 0, by rw [h]; rfl, rfl, Nat.zero_le _, by rw [h]; exact World.ownsRow_nil _ _ _ _, Below.refl _ _⟩
/-- What the append of one more asks. -/
theorem one_more {w W : World} {A : Option Addr} {c k : Nat} {l : List Int} (hk : k ≤ 1000) (h : w.ownsRow W.heap.size 3 1 (.slice A l.length c) l.length (l.map (Value.int .i64))) :
    Sl 1 (vInt .i64) (w.alloc (.cells #[.int .i64 (k : Int)] 3)) w.heap.size (w.heap.size + 1) (some ⟨w.heap.size, 0, none⟩) [(k : Int)] ∧ (w.alloc (.cells #[.int .i64 (k : Int)] 3)).ownsRow W.heap.size 3 1 (.slice A l.length c) l.length (l.map (Value.int .i64)) := by
  refine ⟨(Row.new w 3 [.int .i64 (k : Int)]).sl rfl (Nat.le_refl _) (by omega) (fun i x v hx hv => ?_), own_below h ((Below.refl _ _).alloc (Nat.le_refl _) _)⟩
  match i, hx, hv with
  | 0, hx, hv =>
    simp at hx hv
    subst hx hv
    exact ⟨rfl, kin_mk64 (by omega)⟩
theorem LsSt.push {f : Nat → List Int} {n k : Nat} {W wr w6 : World} {A A6 : Option Addr} {c c6 : Nat} (hlt : k < n) (hf : f (k + 1) = f k ++ [(k : Int)]) (hb : Below W.heap.size W wr) (hown : wr.ownsRow W.heap.size 3 1 (.slice A (f k).length c) (f k).length ((f k).map (Value.int .i64)))
    (h : w6.ownsRow W.heap.size 3 1 (.slice A6 (f k ++ [(k : Int)]).length c6) (f k ++ [(k : Int)]).length ((f k ++ [(k : Int)]).map (Value.int .i64)))
    (hfr : Fr (fun g => (Value.slice A (f k).length c).ownBlock = some g) (wr.alloc (.cells #[.int .i64 (k : Int)] 3)) w6) : LsSt f n W (.slice A6 ((f k).length + 1) c6) (.int .i64 ((k : Int) + 1)) w6 := by
  rw [← hf] at h
  have hs := hb.size
  have ha : Below wr.heap.size wr (wr.alloc (.cells #[.int .i64 (k : Int)] 3)) := (Below.refl _ _).alloc (Nat.le_refl _) _
  refine ⟨k + 1, A6, c6, by rw [hf, List.length_append]; rfl, by simp, by omega, h, (hb.trans (ha.mono hs)).trans (hfr.below (fun g e => (hown.lt g e).1) ?_)⟩
  have := ha.size
  omega
theorem LsSt.skip {f : Nat → List Int} {n k : Nat} {W wr : World} {A : Option Addr} {c : Nat} (hlt : k < n) (hf : f (k + 1) = f k) (hb : Below W.heap.size W wr) (hown : wr.ownsRow W.heap.size 3 1 (.slice A (f k).length c) (f k).length ((f k).map (Value.int .i64))) : LsSt f n W (.slice A (f k).length c) (.int .i64 ((k : Int) + 1)) wr :=
  ⟨k + 1, A, c, by rw [hf], by simp, by omega, by rw [hf]; exact hown, hb⟩
set_option maxHeartbeats 8000000 in
set_option maxRecDepth 100000 in
theorem rends_any (A1 A2 An : Option Addr) (c1 c2 cn : Nat) (a : Al) (ns : List Nd) (s : ByteArray) (f : Int) (w : World) (hin : AlIn w 0 w.heap.size A1 A2 a) (hT : Utf8Tabs 0 1 w) (hns : Sl 5 vNd w 0 w.heap.size An ns) (hm : ns.length ≤ 9223372036854775807) (hs : s.size ≤ maxLen) :
    Calls Tryz.prog 25 #[.agg #[.slice A1 a.feats.length c1, .slice A2 a.lets.length c2], .agg #[.slice An ns.length cn], .string s, .int .i64 f] w (LiOut (endsS a ns s f) w) := by
  obtain ⟨W2, hW2⟩ : ∃ W2, W2 = (w.alloc (.cells #[.slice A1 a.feats.length c1, .slice A2 a.lets.length c2] 25)).alloc (.cells #[.slice An ns.length cn] 28) := ⟨_, rfl⟩
  have hal : Below w.heap.size w W2 := by rw [hW2]; exact ((Below.refl _ _).alloc (Nat.le_refl _) _).alloc (by simp) _
  have hr0 : Row W2 w.heap.size 25 [.slice A1 a.feats.length c1, .slice A2 a.lets.length c2] := by rw [hW2]; exact (Row.new w _ _).alloc _
  have hr1 : Row W2 (w.heap.size + 1) 28 [.slice An ns.length cn] := by
    have h := Row.new (w.alloc (.cells #[.slice A1 a.feats.length c1, .slice A2 a.lets.length c2] 25)) 28 [.slice An ns.length cn]
    rw [hW2]
    simpa using h
  have HC := Lib.hid (fun (wx : World) (hx : Below W2.heap.size W2 wx) => And.intro (And.intro ((hr0.below hx hr0.lt).cel (i := 0) rfl).1 ((hr0.below hx hr0.lt).cel (i := 1) rfl).1) (And.intro ((hr1.below hx hr1.lt).cel (i := 0) rfl).1 hx.size))
  have HAS := Lib.hid (rasked_any A1 A2 An c1 c2 cn 0 a ns s W2 (hin.on hal) (Utf8Tabs_below hT hal) ((hns.below vNd_good hal (Nat.le_refl _)).wide vNd_good (Nat.le_refl _) hal.size) hm hs)
  have HS : Hid (endsS a ns s f = if begE a ns s ≠ 0 then ([], begE a ns s) else if placeB (matW a s) f then (endsI ns (matW a s) 0 f.toNat, 0) else ([], 2)) := rfl
  have HSK := Lib.hid (askS_err a ns s)
  have HAL := Lib.hid hal
  have HIN := Lib.hid hin
  have HNS := Lib.hid hns
  have hB0 : w.heap.size < W2.heap.size := hr0.lt
  have hB1 : w.heap.size + 1 < W2.heap.size := hr1.lt
  clear hal hr0 hr1 hin hns hT
  generalize endsS a ns s f = R at *
  by_cases hb : begE a ns s = 0
  · have haz : askS a ns s = ((lettersS a s).1, 0) := Prod.ext (askS_ok hb) ((askS_err a ns s).trans hb)
    rw [haz] at HAS
    have htree : IsTree ns := (beg_zero hb).1
    have hml : matW a s = matL a (lettersS a s).1 := rfl
    have hR : R = if placeB (matW a s) f then (endsI ns (matW a s) 0 f.toNat, 0) else ([], 2) := by rw [HS.out, if_neg (by simp [hb])]
    have hLS : ∀ (w5 : World) (A : Option Addr) (c : Nat), Below w.heap.size w w5 → ∀ base, w5.ownsRow base 21 1 (.slice A (lettersS a s).1.length c) (lettersS a s).1.length (runeVs (lettersS a s).1) → StE A1 A2 An A a ns (lettersS a s).1 w5 := fun w5 A c h5 base ho => ask_state hb HIN.out HNS.out h5 ho
    have HLST := Lib.hid hLS
    rw [hml] at hR
    have HR := Lib.hid hR
    have HTR := Lib.hid htree
    clear hb haz hR HS htree hLS HSK hml
    generalize hll : (lettersS a s).1 = ll at *
    clear hll
    go_enter Tryz.func25, Tryz.ntmps25
    go_wp2_with fail
    rw [← hW2]
    clear hW2
    refine HAS.out.mono ?_
    rintro e w1 ⟨A, c, rfl, hown, hb1⟩
    have HB1 := Lib.hid hb1
    obtain ⟨⟨d0, d1⟩, d2, ds⟩ := HC.out w1 hb1
    have HBW := Lib.hid (HAL.out.trans (hb1.mono HAL.out.size))
    have hE := HLST.out w1 A c HBW.out _ hown
    have HE := Lib.hid hE
    have hl64 := hE.len
    clear hb1 hown HAS HLST hE
    simp only
    have HPL : Hid (placeB (matL a ll) f = decide (0 ≤ f ∧ f ≤ (ll.length : Int))) := by show _ = _; unfold placeB; rw [matL_len]
    by_cases hpf : 0 ≤ f ∧ f ≤ (ll.length : Int)
    · obtain ⟨i1, hi1, hy0, hy1, hy2⟩ := info_parts mint_info
      obtain ⟨i, rfl⟩ := Int.eq_ofNat_of_zero_le hpf.1
      have hR2 : R = (pickI (fromS ns (matL a ll) i) (ll.length + 1), 0) := by
        rw [HR.out, HPL.out, decide_eq_true hpf, ← matL_len a ll, pickI_all]
        rfl
      have n1 : ¬ (i : Int) < 0 := by omega
      have n2 : ¬ (ll.length : Int) < (i : Int) := by omega
      have n5 : i ≤ ll.length := by omega
      have HF := Lib.hid (rfrom_any (cn := cn) (c1 := c1) (c2 := c2) (cl := c) (tree_nodes HTR.out) HTR.out.pos n5 HE.out)
      have HLN := Lib.hid (show (fromS ns (matL a ll) i).length = ll.length + 1 by rw [fromS_len, matL_len])
      have HR2 := Lib.hid hR2
      clear hR2 HR hpf HPL
      generalize fromS ns (matL a ll) i = S at *
      obtain ⟨n, hn⟩ : ∃ n, n = ll.length + 1 := ⟨_, rfl⟩
      have hn2 : n ≤ 65 := by omega
      rw [← hn] at HF HR2 HLN
      have HN := Lib.hid hn
      clear hn
      go_wp2_with fail
      refine HF.out.mono ?_
      rintro e w2 ⟨g, rfl, hg, hrow, hb2⟩
      have HROW := Lib.hid hrow
      have hgl := hrow.lt
      have HB2 := Lib.hid (HBW.out.trans (hb2.mono HBW.out.size))
      have HST : Hid (LsSt (pickI S) n w2 (.slice none 0 0) (.int .i64 0) w2) := LsSt.new rfl
      clear hrow hb2 HF
      go_wp2_with fail
      go_loopw [13, 14] (fun v x wr => LsSt (pickI S) n w2 v x wr) (fun _ x _ => n - (intOf x).toNat)
      case atStart => exact HST.out
      case round =>
        clear HST
        obtain ⟨k, A5, c5, rfl, rfl, hk, hown, hbw⟩ := hrel
        have hpl := pickI_len S k
        by_cases hlt : k < n
        · have hck := ((HROW.out.below hbw).cel (i := k) (by rw [HLN.out]; exact hlt)).1
          have hgw : g < wr.heap.size := by have := hbw.size; omega
          have hsu := pickI_succ S k
          have j1 : (k : Int) < (n : Int) := by omega
          have j0 : 0 ≤ (k : Int) := by omega
          cases hx : S.getD k false with
          | true =>
            rw [hx] at hck
            rw [if_pos hx] at hsu
            obtain ⟨hq4, hown3⟩ := one_more (k := k) (by omega) hown
            have h63 : (pickI S k).length + [(k : Int)].length ≤ maxLen := by unfold maxLen; simp; omega
            have h8 : ((pickI S k).length + [(k : Int)].length) * 8 ≤ 140737488355328 := by simp; omega
            have hbs3 : w2.heap.size ≤ (wr.alloc (.cells #[.int .i64 (k : Int)] 3)).heap.size := by have := hbw.size; simp; omega
            have HFI := Lib.hid (fun A6 c6 w6 h6 hf6 => LsSt.push (W := w2) (A6 := A6) (c6 := c6) (w6 := w6) hlt hsu hbw hown h6 hf6)
            clear hx hsu hbw hown
            generalize pickI S k = P at *
            go_wp2_with (at_builtin; refine wpList_append_ints rfl _ _ 45 rfl 3 i1 8 Tryz.underlying45 hi1 hy0 hy1 hy2 rfl rfl hown3 hq4 h63 h8 hbs3 ?_)
            intro A6 c6 w6 hown6 hfr6 _
            have HFIN := Lib.hid (HFI.out A6 c6 w6 (by simpa using hown6) hfr6)
            clear hown6 hfr6 HFI hown3 hq4
            go_wp2_with fail
            exact ⟨HFIN.out, by simp [intOf]; omega⟩
          | false =>
            rw [hx] at hck
            rw [if_neg (by rw [hx]; simp)] at hsu
            have HFIN := Lib.hid (LsSt.skip (W := w2) hlt hsu hbw hown)
            clear hx hsu hbw hown
            generalize pickI S k = P at *
            go_wp2_with fail
            exact ⟨HFIN.out, by simp [intOf]; omega⟩
        · obtain rfl : k = n := by omega
          have HFIN : Hid (LiOut R w (.returned (.tuple #[.slice A5 (pickI S k).length c5, .int .i64 0])) wr) := by
            rw [HR2.out]
            exact ⟨A5, c5, rfl, own_low hown HB2.out.size, HB2.out.trans (hbw.mono HB2.out.size)⟩
          clear hown hbw
          go_wp2_with fail
          go_ret2
          exact HFIN.out
    · have HFIN : Hid (LiOut R w (.returned (.tuple #[.slice none 0 0, .int .i64 2])) w1) := LiOut.no (by rw [HR.out, HPL.out, decide_eq_false hpf]; rfl) HBW.out
      clear HR HPL
      by_cases ht0 : f < 0
      · go_wp2_with fail
        go_ret2
        exact HFIN.out
      · have ht1 : (ll.length : Int) < f := by omega
        go_wp2_with fail
        go_ret2
        exact HFIN.out
  · have hR : R = _ := HS.out.trans (if_pos hb)
    have HR := Lib.hid hR
    have hke := HSK.out
    clear HS hR HSK
    generalize askS a ns s = Z at *
    obtain ⟨zl, ze⟩ := Z
    simp only at hke
    subst hke
    generalize begE a ns s = E at *
    have hne : (E != 0) = true := by rw [bne_iff_ne]; exact hb
    clear hb
    go_enter Tryz.func25, Tryz.ntmps25
    go_wp2_with fail
    rw [← hW2]
    clear hW2
    refine HAS.out.mono ?_
    rintro e w1 ⟨A, c, rfl, hown, hb1⟩
    have HFIN := Lib.hid (LiOut.no (W := w) HR.out (HAL.out.trans (hb1.mono HAL.out.size)))
    clear hown hb1 HAS
    go_wp2_with fail
    go_ret2
    exact HFIN.out
end Go.Proofs.YtimhlnndobfehaaGreatDoor
