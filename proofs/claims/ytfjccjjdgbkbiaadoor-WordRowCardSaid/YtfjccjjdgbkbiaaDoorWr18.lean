/- Has a letter a class: the program's like, the document's Like. A class's letters: the program's Class. slices.Contains of letters, walked. -/
import Derived.Test.YtfjccjjdgbkbiaaDoorWr05
import Derived.Test.YtfjccjjdgbkbiaaDoorWr11
import Derived.Test.YtfjccjjdgbkbiaaDoorWr13
import Derived.Test.YtfjccjjdgbkbiaaDoorWr10
namespace Go.Proofs.YtfjccjjdgbkbiaaDoor
open Go.RowKit
set_option linter.unusedVariables false

/-- Has a letter a class? -/
def likeL (x : Lt) (p m : Nat) : Bool := decide (x.plus &&& p = p) && decide (x.minus &&& m = m)
theorem bits_andNot {x y : Nat} (hx : x < 4294967296) (hy : y < 4294967296) : ∃ q : Nat, bits .andNot .u32 (x : Int) (y : Int) = (q : Int) ∧ (((q : Int) == 0) = decide (y &&& x = x)) ∧ q < 4294967296 := by
  have hlt := (BitVec.ofNat 32 x &&& ~~~ BitVec.ofNat 32 y).isLt
  refine ⟨(BitVec.ofNat 32 x &&& ~~~ BitVec.ofNat 32 y).toNat, ?_, ?_, hlt⟩
  · show IntKind.u32.wrap ((BitVec.ofInt 32 (x : Int) &&& ~~~ BitVec.ofInt 32 (y : Int)).toNat : Int) = _
    rw [BitVec.ofInt_natCast, BitVec.ofInt_natCast]
    exact IntWalk.u32_in _ (by omega)
  · rw [Bool.eq_iff_iff, beq_iff_eq, decide_eq_true_eq]
    have key : (BitVec.ofNat 32 x &&& ~~~ BitVec.ofNat 32 y) = 0#32 ↔ BitVec.ofNat 32 y &&& BitVec.ofNat 32 x = BitVec.ofNat 32 x := by
      generalize BitVec.ofNat 32 x = a
      generalize BitVec.ofNat 32 y = b
      constructor
      · intro h
        apply BitVec.eq_of_getLsbD_eq
        intro i hi
        have := congrArg (fun v => v.getLsbD i) h
        simp [hi] at this ⊢
        cases h1 : a.getLsbD i <;> cases h2 : b.getLsbD i <;> simp_all
      · intro h
        apply BitVec.eq_of_getLsbD_eq
        intro i hi
        have := congrArg (fun v => v.getLsbD i) h
        simp [hi] at this ⊢
        cases h1 : a.getLsbD i <;> cases h2 : b.getLsbD i <;> simp_all
    have e1 : (BitVec.ofNat 32 x &&& ~~~ BitVec.ofNat 32 y) = 0#32 ↔ (((BitVec.ofNat 32 x &&& ~~~ BitVec.ofNat 32 y).toNat : Nat) : Int) = 0 := by
      rw [← BitVec.toNat_inj]
      simp only [BitVec.toNat_ofNat, Nat.zero_mod]
      omega
    have e2 : BitVec.ofNat 32 y &&& BitVec.ofNat 32 x = BitVec.ofNat 32 x ↔ y &&& x = x := by
      rw [← BitVec.toNat_inj, BitVec.toNat_and, BitVec.toNat_ofNat, BitVec.toNat_ofNat, Nat.mod_eq_of_lt hx, Nat.mod_eq_of_lt hy]
    rw [← e1, key, e2]
theorem bits_has {x y : Nat} (hx : x < 4294967296) (hy : y < 4294967296) : ∃ q : Nat, bits .and .u32 (y : Int) (x : Int) = (q : Int) ∧ (((q : Int) == (x : Int)) = decide (y &&& x = x)) ∧ q < 4294967296 := by
  refine ⟨y &&& x, bits_and hy hx, ?_, Nat.and_lt_two_pow (n := 32) y hx⟩
  rw [Bool.eq_iff_iff, beq_iff_eq, decide_eq_true_eq]
  omega
def LtOk (x : Lt) : Prop := (-2147483648 ≤ x.rune ∧ x.rune ≤ 2147483647) ∧ x.plus < 4294967296 ∧ x.minus < 4294967296
def ltV (x : Lt) : Value := .agg #[.int .i32 x.rune, .int .u32 (x.plus : Int), .int .u32 (x.minus : Int)]

set_option maxHeartbeats 2000000 in
theorem like_any (x : Lt) (p m : Nat) (w : World) (hx : LtOk x) (hp : p < 4294967296) (hm : m < 4294967296) :
    Calls Tryd.prog 56 #[.agg #[.int .i32 x.rune, .int .u32 (x.plus : Int), .int .u32 (x.minus : Int)], .int .u32 (p : Int), .int .u32 (m : Int)] w fun e w' => e = .returned (.bool (likeL x p m)) ∧ Below w.heap.size w w' := by
  obtain ⟨h0, h1, h2⟩ := hx
  obtain ⟨q, b1, b2, b3⟩ := bits_andNot hp h1
  obtain ⟨r, d1, d2, d3⟩ := bits_andNot hm h2
  have HL : Hid (likeL x p m = (decide (x.plus &&& p = p) && decide (x.minus &&& m = m))) := rfl
  obtain ⟨xr, xp, xm⟩ := x
  simp only at *
  cases hq : decide (xp &&& p = p) with
  | true =>
    rw [hq] at b2
    have HL2 : Hid (likeL ⟨xr, xp, xm⟩ p m = decide (xm &&& m = m)) := by show _ = _; rw [HL.out, hq, Bool.true_and]
    cases hr : decide (xm &&& m = m) with
    | true =>
      rw [hr] at d2
      have HF : Hid (likeL ⟨xr, xp, xm⟩ p m = true) := by show _ = _; rw [HL2.out]; assumption
      clear hq hr HL
      go_enter Tryd.func56, Tryd.ntmps56
      go_wp2_with fail
      go_ret
      exact ⟨retb_of (by rw [HF.out]), (Below.refl _ _).alloc (Nat.le_refl _) _⟩
    | false =>
      rw [hr] at d2
      have HF : Hid (likeL ⟨xr, xp, xm⟩ p m = false) := by show _ = _; rw [HL2.out]; assumption
      clear hq hr HL
      go_enter Tryd.func56, Tryd.ntmps56
      go_wp2_with fail
      go_ret
      exact ⟨retb_of (by rw [HF.out]), (Below.refl _ _).alloc (Nat.le_refl _) _⟩
  | false =>
    rw [hq] at b2
    have HF : Hid (likeL ⟨xr, xp, xm⟩ p m = false) := by show _ = _; rw [HL.out, hq]; rfl
    clear hq HL
    go_enter Tryd.func56, Tryd.ntmps56
    go_wp2_with fail
    go_ret
    exact ⟨retb_of (by rw [HF.out]), (Below.refl _ _).alloc (Nat.le_refl _) _⟩
set_option maxHeartbeats 2000000 in
theorem rlike_any (x : Lt) (p m : Nat) (w : World) (hx : LtOk x) (hp : p < 4294967296) (hm : m < 4294967296) :
    Calls Tryd.prog 75 #[.agg #[.int .i32 x.rune, .int .u32 (x.plus : Int), .int .u32 (x.minus : Int)], .int .u32 (p : Int), .int .u32 (m : Int)] w fun e w' => e = .returned (.bool (likeL x p m)) ∧ Below w.heap.size w w' := by
  obtain ⟨h0, h1, h2⟩ := hx
  obtain ⟨q, b1, b2, b3⟩ := bits_has hp h1
  obtain ⟨r, d1, d2, d3⟩ := bits_has hm h2
  have HL : Hid (likeL x p m = (decide (x.plus &&& p = p) && decide (x.minus &&& m = m))) := rfl
  obtain ⟨xr, xp, xm⟩ := x
  simp only at *
  cases hq : decide (xp &&& p = p) with
  | true =>
    rw [hq] at b2
    have HL2 : Hid (likeL ⟨xr, xp, xm⟩ p m = decide (xm &&& m = m)) := by show _ = _; rw [HL.out, hq, Bool.true_and]
    cases hr : decide (xm &&& m = m) with
    | true =>
      rw [hr] at d2
      have HF : Hid (likeL ⟨xr, xp, xm⟩ p m = true) := by show _ = _; rw [HL2.out]; assumption
      clear hq hr HL
      go_enter Tryd.func75, Tryd.ntmps75
      go_wp2_with fail
      go_ret
      exact ⟨retb_of (by rw [HF.out]), (Below.refl _ _).alloc (Nat.le_refl _) _⟩
    | false =>
      rw [hr] at d2
      have HF : Hid (likeL ⟨xr, xp, xm⟩ p m = false) := by show _ = _; rw [HL2.out]; assumption
      clear hq hr HL
      go_enter Tryd.func75, Tryd.ntmps75
      go_wp2_with fail
      go_ret
      exact ⟨retb_of (by rw [HF.out]), (Below.refl _ _).alloc (Nat.le_refl _) _⟩
  | false =>
    rw [hq] at b2
    have HF : Hid (likeL ⟨xr, xp, xm⟩ p m = false) := by show _ = _; rw [HL.out, hq]; rfl
    clear hq HL
    go_enter Tryd.func75, Tryd.ntmps75
    go_wp2_with fail
    go_ret
    exact ⟨retb_of (by rw [HF.out]), (Below.refl _ _).alloc (Nat.le_refl _) _⟩
end Go.Proofs.YtfjccjjdgbkbiaaDoor
namespace Go.Proofs.YtfjccjjdgbkbiaaDoor
open Go.RowKit
open Go.Lib (Utf8Tabs)
set_option linter.unusedVariables false

def clsL (l : List Lt) (p m : Nat) : List Int := (l.filter fun x => likeL x p m).map (·.rune)
/-- A class's letters, and the error. -/
def classS (a : Al) (p m : Nat) : List Int × Int := if alOk a = false then ([], 7) else if classOk a.feats.length p m then (clsL a.lets p m, 0) else ([], 20)
theorem clsL_snoc {l : List Lt} {p m k : Nat} (hk : k < l.length) : clsL (l.take (k + 1)) p m = if likeL l[k] p m then clsL (l.take k) p m ++ [l[k].rune] else clsL (l.take k) p m := by
  unfold clsL
  rw [List.take_succ_eq_append_getElem hk, List.filter_append, List.map_append]
  cases h : likeL l[k] p m <;> simp [h]
theorem clsL_len (l : List Lt) (p m : Nat) : (clsL l p m).length ≤ l.length := by
  unfold clsL
  rw [List.length_map]
  exact List.length_filter_le _ _

def ClassSt (l : List Lt) (p m : Nat) (W : World) (v i : Value) (wr : World) : Prop :=
  ∃ (k : Nat) (acc : List Int) (A : Option Addr) (c : Nat), v = .slice A acc.length c ∧ i = .int .i64 (k : Int) ∧ k ≤ l.length ∧ acc = clsL (l.take k) p m ∧ wr.ownsRow W.heap.size 21 1 (.slice A acc.length c) acc.length (runeVs acc) ∧ Below W.heap.size W wr

set_option maxHeartbeats 4000000 in
set_option maxRecDepth 100000 in
theorem class_any (A1 A2 : Option Addr) (c1 c2 lo : Nat) (a : Al) (p m : Nat) (w : World) (hin : AlIn w lo w.heap.size A1 A2 a) (hp : p < 4294967296) (hm : m < 4294967296) :
    Calls Tryd.prog 47 #[.agg #[.slice A1 a.feats.length c1, .slice A2 a.lets.length c2], .int .u32 (p : Int), .int .u32 (m : Int)] w (ReadOut (classS a p m) w) := by
  obtain ⟨i1, hi1, hy0, hy1, hy2⟩ := info_parts rune_info
  have hal : Below w.heap.size w (w.alloc (.cells #[.slice A1 a.feats.length c1, .slice A2 a.lets.length c2] 25)) := (Below.refl _ _).alloc (Nat.le_refl _) _
  have hr0 := Row.new w 25 [.slice A1 a.feats.length c1, .slice A2 a.lets.length c2]
  have hcall := Lib.hid (check_any A1 A2 c1 c2 lo a _ (hin.on hal))
  have HT : Hid (classS a p m = if alOk a = false then ([], 7) else if classOk a.feats.length p m then (clsL a.lets p m, 0) else ([], 20)) := rfl
  cases hok : alOk a with
  | false =>
    have he : alE a = 7 := by unfold alE; rw [hok]; rfl
    rw [he] at hcall
    have HF : Hid (classS a p m = ([], 7)) := by show _ = _; rw [HT.out, if_pos hok]
    clear hok he HT
    go_enter Tryd.func47, Tryd.ntmps47
    go_wp2_with fail
    refine hcall.out.mono ?_
    rintro e w1 ⟨rfl, hb1⟩
    go_wp2_with fail
    go_ret2
    exact ReadOut.no HF.out (hal.trans (hb1.mono (by simp)))
  | true =>
    have he : alE a = 0 := alE_zero.2 hok
    rw [he] at hcall
    have hsz := alOk_size hok
    have hwi := Lib.hid (fun w => within_any A1 A2 a.feats.length c1 a.lets.length c2 p m w hsz.1 hp hm)
    cases hcl : classOk a.feats.length p m with
    | false =>
      rw [hcl] at hwi
      have HF : Hid (classS a p m = ([], 20)) := by show _ = _; rw [HT.out, if_neg (by rw [hok]; simp), hcl]; rfl
      clear hok he HT hcl
      go_enter Tryd.func47, Tryd.ntmps47
      go_wp2_with fail
      refine hcall.out.mono ?_
      rintro e w1 ⟨rfl, hb1⟩
      have hr1 := hr0.below hb1 hr0.lt
      have hbw1 := hal.trans (hb1.mono (by simp))
      have hl1 := hr1.lt
      obtain ⟨q0, f0⟩ := hr1.cel (i := 0) rfl
      obtain ⟨q1, f1⟩ := hr1.cel (i := 1) rfl
      clear hcall hb1
      go_wp2_with fail
      refine (hwi.out _).mono ?_
      rintro e w2 ⟨rfl, hb2⟩
      have HF2 := Lib.hid (ReadOut.no (W := w) HF.out (hbw1.trans (hb2.mono hbw1.size)))
      clear hb2 hr1 q0 f0 q1 f1 hbw1 hr0
      go_wp2_with fail
      go_ret2
      exact HF2.out
    | true =>
      rw [hcl] at hwi
      have HF : Hid (classS a p m = (clsL a.lets p m, 0)) := by show _ = _; rw [HT.out, if_neg (by rw [hok]; simp), hcl]; rfl
      clear hok he HT hcl
      go_enter Tryd.func47, Tryd.ntmps47
      go_wp2_with fail
      refine hcall.out.mono ?_
      rintro e w1 ⟨rfl, hb1⟩
      have hr1 := hr0.below hb1 hr0.lt
      have hbw1 := hal.trans (hb1.mono (by simp))
      have hl1 := hr1.lt
      obtain ⟨q0, f0⟩ := hr1.cel (i := 0) rfl
      obtain ⟨q1, f1⟩ := hr1.cel (i := 1) rfl
      clear hcall hb1
      go_wp2_with fail
      refine (hwi.out _).mono ?_
      rintro e w2 ⟨rfl, hb2⟩
      have hr2 := hr1.below hb2 hl1
      have hbw2 := hbw1.trans (hb2.mono hbw1.size)
      have hl2 := hr2.lt
      have hz2 := hbw2.size
      clear q0 f0 q1 f1 hr0 hb2 hr1 hbw1 hal hwi
      obtain ⟨q1, f1⟩ := hr2.cel (i := 1) rfl
      have hst : ClassSt a.lets p m w2 (.slice none 0 0) (.int .i64 0) w2 := ⟨0, [], none, 0, rfl, rfl, by omega, rfl, World.ownsRow_nil _ _ _ _, Below.refl _ _⟩
      have HST := Lib.hid hst
      clear hst
      go_wp2_with fail
      go_loopw [9, 25] (fun v i wr => ClassSt a.lets p m w2 v i wr) (fun _ i _ => a.lets.length - (intOf i).toNat)
      case atStart => exact HST.out
      case round =>
        clear HST q1 f1 hr2
        obtain ⟨k, acc, Av, cv, rfl, rfl, hk, hacc, hown, hb⟩ := hrel
        have hbs := hb.size
        by_cases hlt : k < a.lets.length
        · have hlt0 := hlt
          obtain ⟨b, off, rfl, _, hbb, ⟨x0, y0⟩, ⟨x1, y1⟩, ⟨x2, y2⟩, hrr, hpp, hmm'⟩ := lt_at (hin.l.below vLt_good (hbw2.trans (hb.mono hz2)) (Nat.le_refl _)) hlt
          have hsn := clsL_snoc (p := p) (m := m) hlt
          have hacl : acc.length ≤ 128 := by
            have h1 := clsL_len (a.lets.take k) p m
            rw [← hacc, List.length_take] at h1
            omega
          rw [← hacc] at hsn
          have hlk := Lib.hid (fun w => like_any a.lets[k] p m w ⟨hrr, hpp, hmm'⟩ hp hm)
          generalize a.lets[k] = l at *
          have hal1 : Below wr.heap.size wr (wr.alloc (.cells #[.int .i32 l.rune, .int .u32 (l.plus : Int), .int .u32 (l.minus : Int)] 84)) := (Below.refl _ _).alloc (Nat.le_refl _) _
          have hrl := Row.new wr 84 [.int .i32 l.rune, .int .u32 (l.plus : Int), .int .u32 (l.minus : Int)]
          have hSN := Lib.hid hsn
          have hbA := hb.trans (hal1.mono hbs)
          clear hsn hacc
          go_wp2_with fail
          refine (hlk.out _).mono ?_
          rintro e w3 ⟨rfl, hb3⟩
          have hb3' : Below w2.heap.size w2 w3 := hbA.trans (hb3.mono hbA.size)
          have hown3 := own_below (own_below hown hal1) hb3
          have hrl3 := hrl.below hb3 hrl.lt
          have hll := hrl3.lt
          obtain ⟨z0, g0⟩ := hrl3.cel (i := 0) rfl
          clear x0 y0 x1 y1 x2 y2 hal1 hrl hb3 hbA hlk
          cases hL : likeL l p m with
          | false =>
            rw [hL] at hSN
            have hfin : ClassSt a.lets p m w2 (.slice Av acc.length cv) (.int .i64 ((k + 1 : Nat) : Int)) w3 := ⟨k + 1, acc, Av, cv, rfl, rfl, by omega, by rw [hSN.out]; rfl, hown3, hb3'⟩
            have HF3 := Lib.hid hfin
            clear hfin hown3 hown hb3' hSN
            go_wp2_with fail
            exact ⟨HF3.out, by simp [intOf]; omega⟩
          | true =>
            rw [hL] at hSN
            have hal2 : Below w3.heap.size w3 (w3.alloc (.cells #[.int .i32 l.rune] 21)) := (Below.refl _ _).alloc (Nat.le_refl _) _
            have hownB := own_below hown3 hal2
            have hrN := Row.new w3 21 [.int .i32 l.rune]
            have hnews := hrN.news
            have hone : ∀ u ∈ [Value.int .i32 l.rune], u.oneCell' = true := by intro u hu; rw [List.mem_singleton.1 hu]; rfl
            have h63 : acc.length + 1 ≤ maxLen := by unfold maxLen; omega
            have hby : (acc.length + 1) * 4 ≤ 140737488355328 := by omega
            have hlo : w2.heap.size ≤ (w3.alloc (.cells #[.int .i32 l.rune] 21)).heap.size := by have := hal2.size; have := hb3'.size; omega
            have hbB : Below w2.heap.size w2 (w3.alloc (.cells #[.int .i32 l.rune] 21)) := hb3'.trans (hal2.mono hb3'.size)
            have hge := fun j hj => (hown3.lt j hj).1
            clear hrN hal2 hown3 hown
            go_wp2_with (at_builtin; refine wpList_append_lies _ rfl _ _ 26 rfl w2.heap.size 21 i1 (.int .i32 0) 1 4 Tryd.underlying26 hi1 hy0 hy1 hy2 rfl (by decide) (.slice Av acc.length cv) acc.length (runeVs acc) rfl hownB ⟨w3.heap.size, 0, none⟩ 1 1 [.int .i32 l.rune] rfl rfl hnews hone (by decide) h63 hby hlo _ rfl ?_)
            intro g cap w5 hown5 hgr5 hat5 hlt5
            have hb5 : Below w2.heap.size w2 w5 := hbB.grown hgr5 hlo hge
            have e1 : acc.length + 1 = (acc ++ [l.rune]).length := by simp
            have e2 : runeVs acc ++ [.int .i32 l.rune] = runeVs (acc ++ [l.rune]) := by unfold runeVs; simp
            rw [e1, e2] at hown5
            rw [e1]
            have hfin : ClassSt a.lets p m w2 (.slice (some ⟨g, 0, none⟩) (acc ++ [l.rune]).length cap) (.int .i64 ((k + 1 : Nat) : Int)) w5 := ⟨k + 1, acc ++ [l.rune], _, _, rfl, rfl, by omega, by rw [hSN.out]; rfl, hown5, hb5⟩
            have HF3 := Lib.hid hfin
            clear hfin hown5 hgr5 hat5 hownB hnews hone e1 e2 hSN
            go_wp2_with fail
            exact ⟨HF3.out, by simp [intOf]; omega⟩
        · obtain rfl : k = a.lets.length := by omega
          have hRR : classS a p m = (acc, 0) := by rw [HF.out, hacc, List.take_length]
          have hfin : ReadOut (classS a p m) w (.returned (.tuple #[.slice Av acc.length cv, .int .i64 0])) wr := by
            rw [hRR]
            exact ⟨Av, cv, rfl, own_low hown hz2, hbw2.trans (hb.mono hz2)⟩
          have HF3 := Lib.hid hfin
          clear hfin hown hRR hacc
          go_wp2_with fail
          go_ret2
          exact HF3.out
end Go.Proofs.YtfjccjjdgbkbiaaDoor
namespace Go.Proofs.YtfjccjjdgbkbiaaDoor
open Go.RowKit
set_option linter.unusedVariables false

def idxR (v : Int) (l : List Int) : Int := if l.contains v then (l.findIdx (· == v) : Int) else -1
theorem idxR_hit {v : Int} {l : List Int} {k : Nat} (hk : k < l.length) (h1 : ∀ j, j < k → l[j]? ≠ some v) (h2 : l[k] = v) : idxR v l = k := by
  have hm : l.contains v = true := by
    rw [List.contains_iff_mem, ← h2]; exact List.getElem_mem hk
  unfold idxR
  rw [if_pos hm]
  have : l.findIdx (· == v) = k := by
    rw [List.findIdx_eq hk]
    refine ⟨by simp [h2], fun j hj => ?_⟩
    have := h1 j hj
    rw [List.getElem?_eq_getElem (by omega)] at this
    simpa using this
  rw [this]
theorem idxR_miss {v : Int} {l : List Int} (h1 : ∀ j, j < l.length → l[j]? ≠ some v) : idxR v l = -1 := by
  unfold idxR
  rw [if_neg]
  intro h
  rw [List.contains_iff_mem] at h
  obtain ⟨j, hj⟩ := List.mem_iff_getElem?.1 h
  exact h1 j (List.getElem?_eq_some_iff.1 hj).1 hj
theorem idxR_pos (v : Int) (l : List Int) : decide (0 ≤ idxR v l) = l.contains v := by
  unfold idxR
  by_cases h : l.contains v = true
  · rw [if_pos h, h]; simp
  · rw [if_neg h]
    have : l.contains v = false := by simpa using h
    rw [this]; rfl
/-- A letter of a row of the call's own. -/
theorem own_rune {w : World} {base c k : Nat} {A : Option Addr} {l : List Int} (h : w.ownsRow base 21 1 (.slice A l.length c) l.length (runeVs l)) (hk : k < l.length) :
    ∃ g, A = some ⟨g, 0, none⟩ ∧ base ≤ g ∧ g < w.heap.size ∧ Cel w g k (.int .i32 l[k]) := by
  obtain ⟨g, c', e, _, _, h1, h2⟩ := own_pos h (by omega)
  injection e with e1 _ e2
  subst e1 e2
  exact ⟨g, rfl, h1, h2, own_cel h (by unfold runeVs; rw [List.getElem?_map, List.getElem?_eq_getElem hk]; rfl)⟩

theorem index_rune (v : Int) (base : Nat) (A : Option Addr) (c : Nat) (l : List Int) (w : World) (h : w.ownsRow base 21 1 (.slice A l.length c) l.length (runeVs l)) (hm : l.length ≤ 4611686018427387904) :
    Calls Tryd.prog 73 #[.slice A l.length c, .int .i32 v] w fun e w' => e = .returned (.int .i64 (idxR v l)) ∧ w = w' := by
  go_enter Tryd.func73, Tryd.ntmps73
  go_wp2_with fail
  go_loop [8] (fun i => ∃ k : Nat, k ≤ l.length ∧ i = .int .i64 k ∧ Hid (∀ j, j < k → l[j]? ≠ some v)) (fun i => l.length - (intOf i).toNat)
  case atStart => exact ⟨0, by omega, rfl, fun j hj => absurd hj (by omega)⟩
  case round =>
    obtain ⟨k, hk, rfl, hno⟩ := hrel
    by_cases hlt : k < l.length
    · obtain ⟨g, rfl, _, hg, ⟨ck, fk⟩⟩ := own_rune h hlt
      cases hv : (v == l[k]) with
      | true =>
        have hF := Lib.hid (idxR_hit hlt hno.out (by simpa using (beq_iff_eq.1 hv).symm))
        go_wp2_with fail
        go_ret
        exact ⟨by rw [hF.out]; rfl, rfl⟩
      | false =>
        have hno2 : Hid (∀ j, j < k + 1 → l[j]? ≠ some v) := fun j hj => by
          by_cases e : j = k
          · subst e
            rw [List.getElem?_eq_getElem hlt]
            simp only [beq_eq_false_iff_ne] at hv
            exact fun h => hv (by simpa using h.symm)
          · exact hno.out j (by omega)
        go_wp2_with fail
        go_round
        case rel => exact ⟨k + 1, by omega, by go_num, hno2⟩
        case measure => simp [intOf]; omega
    · obtain rfl : k = l.length := by omega
      have hF := Lib.hid (idxR_miss hno.out)
      go_wp2_with fail
      go_ret
      exact ⟨by rw [hF.out]; rfl, rfl⟩

theorem contains_rune (v : Int) (base : Nat) (A : Option Addr) (c : Nat) (l : List Int) (w : World) (h : w.ownsRow base 21 1 (.slice A l.length c) l.length (runeVs l)) (hm : l.length ≤ 4611686018427387904) :
    Calls Tryd.prog 48 #[.slice A l.length c, .int .i32 v] w fun e w' => e = .returned (.bool (l.contains v)) ∧ w = w' := by
  have hp := Lib.hid (idxR_pos v l)
  go_enter Tryd.func48, Tryd.ntmps48
  go_wp2_with (go_at_call 73; refine (index_rune v base A c l _ h hm).mono ?_; rintro e w' ⟨rfl, rfl⟩)
  go_ret
  exact ⟨by rw [← hp.out]; rfl, rfl⟩
end Go.Proofs.YtfjccjjdgbkbiaaDoor
