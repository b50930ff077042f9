/- A class's text. feature.Of, feature.Has. -/
import Derived.Test.YtimhlnndobfehaaGreatDoorMd07
import Derived.Test.YtimhlnndobfehaaGreatDoorMd10
import Derived.Test.YtimhlnndobfehaaGreatDoorShelf
import Derived.Test.YtimhlnndobfehaaGreatDoorMd14
import Derived.Test.YtimhlnndobfehaaGreatDoorMd11
import Derived.Test.YtimhlnndobfehaaGreatDoorMd04
namespace Go.Proofs.YtimhlnndobfehaaGreatDoor
open Go.RowKit
set_option linter.unusedVariables false

def textL : Nat → List ByteArray → Nat → Nat → List UInt8
  | _, [], _, _ => []
  | i, f :: r, p, m => (if p / 2 ^ i % 2 = 1 then 43 :: f.data.toList else if m / 2 ^ i % 2 = 1 then 45 :: f.data.toList else []) ++ textL (i + 1) r p m
/-- A class's text, and the error. -/
def classT (a : Al) (p m : Nat) : ByteArray × Int :=
  if alE a ≠ 0 then (⟨#[]⟩, alE a) else if classOk a.feats.length p m then (⟨(textL 0 a.feats p m).toArray⟩, 0) else (⟨#[]⟩, 20)
theorem names_short : ∀ (l : List ByteArray) (seen : List (List UInt8)), namesOk seen l = true → ∀ f ∈ l, f.size ≤ 32
  | [], _, _, f, hf => by simp at hf
  | g :: r, seen, h, f, hf => by
    unfold namesOk at h
    simp only [Bool.and_eq_true] at h
    rcases List.mem_cons.1 hf with rfl | hf
    · have := h.1.1
      rw [nameOk_eq] at this
      simp only [Bool.and_eq_true, decide_eq_true_eq] at this
      exact this.1.2
    · exact names_short r _ h.2 f hf
theorem alE_parts {a : Al} (h : alE a = 0) : a.feats.length ≤ 24 ∧ 1 ≤ a.lets.length ∧ a.lets.length ≤ 128 ∧ namesOk [] a.feats = true ∧ letsOk a.feats.length [] a.lets = true := by
  unfold alE at h
  by_cases hok : alOk a = true
  · unfold alOk at hok
    simp only [Bool.and_eq_true, decide_eq_true_eq] at hok
    exact ⟨hok.1.1.1.1, hok.1.1.1.2, hok.1.1.2, hok.1.2, hok.2⟩
  · rw [if_neg hok] at h; omega
theorem bit_one {x i : Nat} (hx : x < 4294967296) : ∃ q : Nat, bits .and .u32 ((x : Int) / 2 ^ i) 1 = (q : Int) ∧ (((q : Int) == 1) = decide (x / 2 ^ i % 2 = 1)) := by
  have h1 : ((x : Int) / 2 ^ i) = ((x / 2 ^ i : Nat) : Int) := by
    rw [Int.natCast_ediv]
    simp
  have hle : x / 2 ^ i ≤ x := Nat.div_le_self _ _
  have h2 := bits_and (x := x / 2 ^ i) (y := 1) (by omega) (by omega)
  refine ⟨x / 2 ^ i % 2, ?_, ?_⟩
  · rw [h1, show (1 : Int) = ((1 : Nat) : Int) from rfl, h2, Nat.and_one_is_mod]
  · rw [Bool.eq_iff_iff, beq_iff_eq, decide_eq_true_eq]
    omega
def FtSt (a : Al) (p m b : Nat) (W : World) (x : Value) (wr : World) : Prop :=
  ∃ (k : Nat) (acc : List UInt8), x = .int .i64 (k : Int) ∧ k ≤ a.feats.length ∧ acc.length ≤ k * 33 ∧ Hid (textL 0 a.feats p m = acc ++ textL k (a.feats.drop k) p m) ∧ Bld b b acc wr ∧ Below b W wr
set_option maxHeartbeats 4000000 in
theorem ftext_any (A1 A2 : Option Addr) (c1 c2 lo : Nat) (a : Al) (p m : Nat) (w : World) (hin : AlIn w lo w.heap.size A1 A2 a) (hp : p < 4294967296) (hm : m < 4294967296) :
    Calls Tryz.prog 42 #[.agg #[.slice A1 a.feats.length c1, .slice A2 a.lets.length c2], .int .u32 (p : Int), .int .u32 (m : Int)] w (StrOut (classT a p m) w) := by
  have hal : Below w.heap.size w (w.alloc (.cells #[.slice A1 a.feats.length c1, .slice A2 a.lets.length c2] 25)) := (Below.refl _ _).alloc (Nat.le_refl _) _
  have hr0 := Row.new w 25 [.slice A1 a.feats.length c1, .slice A2 a.lets.length c2]
  have hcall := Lib.hid (check_any A1 A2 c1 c2 lo a _ (hin.on hal))
  have HS : Hid (classT a p m = if alE a ≠ 0 then (⟨#[]⟩, alE a) else if classOk a.feats.length p m then (⟨(textL 0 a.feats p m).toArray⟩, 0) else (⟨#[]⟩, 20)) := rfl
  have hz0 := alE_parts (a := a)
  generalize classT a p m = R at *
  by_cases hE : alE a = 0
  · obtain ⟨hf24, _, _, hnm, _⟩ := hz0 hE
    have hshort := Lib.hid (names_short a.feats [] hnm)
    have hwi := Lib.hid (fun wx => within_any A1 A2 a.feats.length c1 a.lets.length c2 p m wx hf24 hp hm)
    have HIN := Lib.hid (fun (wx : World) (hb : Below w.heap.size w wx) => hin.on hb)
    have hR : R = if classOk a.feats.length p m then (⟨(textL 0 a.feats p m).toArray⟩, 0) else (⟨#[]⟩, 20) := by rw [HS.out, if_neg (by simp [hE])]
    have HR := Lib.hid hR
    rw [hE] at hcall
    clear HS hR hE hnm hz0 hin
    go_enter Tryz.func42, Tryz.ntmps42
    go_wp2_with fail
    refine hcall.out.mono ?_
    rintro e w1 ⟨rfl, hb1⟩
    have hbw1 := hal.trans (hb1.mono (by simp))
    have hr1 := hr0.below hb1 hr0.lt
    obtain ⟨q0, _⟩ := hr1.cel (i := 0) rfl
    obtain ⟨q1, _⟩ := hr1.cel (i := 1) rfl
    have hl1 := hr1.lt
    clear hcall hal hb1 hr0
    go_wp2_with fail
    refine (hwi.out w1).mono ?_
    rintro e w2 ⟨rfl, hb2⟩
    have hbw2 := hbw1.trans (hb2.mono hbw1.size)
    have hr2 := hr1.below hb2 hr1.lt
    have HB2 := Lib.hid hbw2
    have HRW := Lib.hid hr2
    clear hr1 q0 q1 hb2 hbw1 hwi
    cases hc : classOk a.feats.length p m with
    | false =>
      have HFIN := Lib.hid (StrOut.mk' (show R = (⟨#[]⟩, 20) by rw [HR.out, hc]; rfl) HB2.out)
      clear hr2 hbw2 hc
      go_wp2_with fail
      go_ret2
      exact HFIN.out
    | true =>
      have HRT : Hid (R = (⟨(textL 0 a.feats p m).toArray⟩, 0)) := by show _ = _; rw [HR.out, hc]; rfl
      have hbf : Bld w2.heap.size w2.heap.size [] (w2.alloc (.cells #[.pointer none, .slice none 0 0] 70)) := Lib.fresh_isBuilder _ _ _
      have hst : FtSt a p m w2.heap.size w2 (.int .i64 0) (w2.alloc (.cells #[.pointer none, .slice none 0 0] 70)) := ⟨0, [], rfl, by omega, by simp, by show _ = _; simp, hbf, (Below.refl _ _).alloc (Nat.le_refl _) _⟩
      have HST := Lib.hid hst
      have hb3 : Below w2.heap.size w2 (w2.alloc (.cells #[.pointer none, .slice none 0 0] 70)) := (Below.refl _ _).alloc (Nat.le_refl _) _
      obtain ⟨q0, _⟩ := (hr2.below hb3 hr2.lt).cel (i := 0) rfl
      have hl2 := hr2.lt
      clear hc hst hbf hr2 hbw2 hb3
      generalize hbb : w2.heap.size = b at *
      go_wp2_with fail
      go_loopw [25] (fun x wr => FtSt a p m b w2 x wr) (fun x _ => a.feats.length - (intOf x).toNat)
      case atStart => exact HST.out
      case round =>
        clear HST
        obtain ⟨k, acc, rfl, hk, hal, hT, hbld, hb⟩ := hrel
        have hbw := HB2.out.trans (hb.mono (by rw [← hbb]; exact HB2.out.size))
        have hbs := hb.size
        by_cases hlt : k < a.feats.length
        · obtain ⟨g, o, rfl, _, hg, ⟨y0, y1⟩, _⟩ := strs_at (HIN.out wr hbw).f hlt
          have hsh := hshort.out a.feats[k] (List.getElem_mem hlt)
          have hstep : textL k (a.feats.drop k) p m = (if p / 2 ^ k % 2 = 1 then 43 :: a.feats[k].data.toList else if m / 2 ^ k % 2 = 1 then 45 :: a.feats[k].data.toList else []) ++ textL (k + 1) (a.feats.drop (k + 1)) p m := by
            rw [List.drop_eq_getElem_cons hlt]; rfl
          have HT := Lib.hid (hT.out.trans (congrArg (acc ++ ·) hstep))
          clear hstep hT
          generalize a.feats[k] = f at *
          obtain ⟨bp, p1, p2⟩ := bit_one (i := k) hp
          obtain ⟨bm, m1, m2⟩ := bit_one (i := k) hm
          have j1 : (k : Int) < (a.feats.length : Int) := by omega
          have j2 : 0 ≤ (k : Int) := by omega
          have hfd : f.data.toList.length = f.size := Array.length_toList
          have hs1 : ∀ c : UInt8, (ByteArray.mk #[c] ++ f).size = 1 + f.size := fun c => by rw [ByteArray.size_append]; rfl
          have hd1 : ∀ c : UInt8, (ByteArray.mk #[c] ++ f).data.toList = c :: f.data.toList := fun c => by rw [ByteArray.data_append]; simp
          have hgw : g < wr.heap.size := by omega
          by_cases hbp : p / 2 ^ k % 2 = 1
          · rw [decide_eq_true hbp] at p2
            have hws := Lib.hid (WriteString_any b b acc (ByteArray.mk #[43] ++ f) wr hbld (by rw [hs1]; omega) (by omega))
            have hT2 : Hid (textL 0 a.feats p m = (acc ++ (ByteArray.mk #[43] ++ f).data.toList) ++ textL (k + 1) (a.feats.drop (k + 1)) p m) := by show _ = _; rw [HT.out, if_pos hbp, hd1]; simp
            have HB := Lib.hid hb
            clear hbld hb HT hbp hbw
            go_wp2_with fail
            refine hws.out.mono ?_
            rintro e w5 ⟨rfl, hbld5, hb5, _⟩
            have hfin : FtSt a p m b w2 (.int .i64 ((k : Int) + 1)) w5 := ⟨k + 1, _, by simp, by omega, by rw [List.length_append, hd1, List.length_cons]; omega, hT2.out, hbld5, HB.out.trans hb5⟩
            have HFIN := Lib.hid hfin
            clear hfin hbld5 hws HB hb5 hT2
            go_wp2_with fail
            exact ⟨HFIN.out, by simp [intOf]; omega⟩
          · rw [decide_eq_false hbp] at p2
            by_cases hbm' : m / 2 ^ k % 2 = 1
            · rw [decide_eq_true hbm'] at m2
              have hws := Lib.hid (WriteString_any b b acc (ByteArray.mk #[45] ++ f) wr hbld (by rw [hs1]; omega) (by omega))
              have hT2 : Hid (textL 0 a.feats p m = (acc ++ (ByteArray.mk #[45] ++ f).data.toList) ++ textL (k + 1) (a.feats.drop (k + 1)) p m) := by show _ = _; rw [HT.out, if_neg hbp, if_pos hbm', hd1]; simp
              have HB := Lib.hid hb
              clear hbld hb HT hbp hbm' hbw
              go_wp2_with fail
              refine hws.out.mono ?_
              rintro e w5 ⟨rfl, hbld5, hb5, _⟩
              have hfin : FtSt a p m b w2 (.int .i64 ((k : Int) + 1)) w5 := ⟨k + 1, _, by simp, by omega, by rw [List.length_append, hd1, List.length_cons]; omega, hT2.out, hbld5, HB.out.trans hb5⟩
              have HFIN := Lib.hid hfin
              clear hfin hbld5 hws HB hb5 hT2
              go_wp2_with fail
              exact ⟨HFIN.out, by simp [intOf]; omega⟩
            · rw [decide_eq_false hbm'] at m2
              have hT2 : textL 0 a.feats p m = acc ++ textL (k + 1) (a.feats.drop (k + 1)) p m := by rw [HT.out, if_neg hbp, if_neg hbm']; simp
              have hfin : FtSt a p m b w2 (.int .i64 ((k : Int) + 1)) wr := ⟨k + 1, acc, by simp, by omega, by omega, hT2, hbld, hb⟩
              have HFIN := Lib.hid hfin
              clear hfin hbld hb HT hbp hbm' hT2 hbw
              go_wp2_with fail
              exact ⟨HFIN.out, by simp [intOf]; omega⟩
        · obtain rfl : k = a.feats.length := by omega
          have hstr := Lib.hid (Tryz.Builder_String_any b b acc wr hbld (by omega))
          have hrr : R = (⟨acc.toArray⟩, 0) := by rw [HRT.out, hT.out, List.drop_length]; simp [textL]
          have HFIN := Lib.hid (fun (wx : World) (hx : Below b wr wx) => StrOut.mk' hrr (hbw.trans (hx.mono (by rw [← hbb]; exact HB2.out.size))))
          have j1 : ¬ (a.feats.length : Int) < (a.feats.length : Int) := by omega
          clear hbld hb hT hrr hbw
          go_wp2_with fail
          refine hstr.out.mono ?_
          rintro e w5 ⟨rfl, hb5⟩
          have HO := Lib.hid (HFIN.out w5 hb5)
          clear HFIN hb5 hstr
          go_wp2_with fail
          go_ret2
          exact HO.out
  · have HFIN := Lib.hid (fun wx hb => StrOut.mk' (W := w) (w' := wx) (show R = (⟨#[]⟩, alE a) by rw [HS.out, if_pos hE]) hb)
    generalize alE a = E at *
    have hne : (E != 0) = true := by rw [bne_iff_ne]; exact hE
    clear HS hE hz0
    go_enter Tryz.func42, Tryz.ntmps42
    go_wp2_with fail
    refine hcall.out.mono ?_
    rintro e w1 ⟨rfl, hb1⟩
    have HB := Lib.hid (hal.trans (hb1.mono (by simp)))
    clear hb1
    go_wp2_with fail
    go_ret2
    exact HFIN.out _ HB.out
end Go.Proofs.YtimhlnndobfehaaGreatDoor
namespace Go.Proofs.YtimhlnndobfehaaGreatDoor
open Go.RowKit
set_option linter.unusedVariables false

set_option maxHeartbeats 2000000 in
theorem of1_any (x : Lt) (b : Nat) (r : Int) (w : World) (hc : w.cell? ⟨b, 0, none⟩ = some (.int .i32 r)) (hb : b < w.heap.size) :
    Calls Tryz.prog 89 #[.agg #[.int .i32 x.rune, .int .u32 (x.plus : Int), .int .u32 (x.minus : Int)], .pointer (some ⟨b, 0, none⟩)] w fun e w' => e = .returned (.bool (x.rune == r)) ∧ Below w.heap.size w w' := by
  obtain ⟨xr, xp, xm⟩ := x
  go_enter Tryz.func89, Tryz.ntmps89
  go_wp2_with fail
  go_ret
  exact ⟨rfl, (Below.refl _ _).alloc (Nat.le_refl _) _⟩

def IdxSt (a : Al) (r : Int) (W : World) (i : Value) (wr : World) : Prop := ∃ k : Nat, k ≤ a.lets.length ∧ i = .int .i64 (k : Int) ∧ (∀ j (hj : j < k) (hl : j < a.lets.length), a.lets[j].rune ≠ r) ∧ Below W.heap.size W wr
set_option maxHeartbeats 4000000 in
set_option maxRecDepth 100000 in
theorem indexFunc_any (A2 : Option Addr) (c2 b lo : Nat) (a : Al) (r : Int) (w : World) (hl : Sl 3 vLt w lo w.heap.size A2 a.lets) (hn : a.lets.length ≤ 9223372036854775807) (hc : w.cell? ⟨b, 0, none⟩ = some (.int .i32 r)) (hb : b < w.heap.size) :
    Calls Tryz.prog 88 #[.slice A2 a.lets.length c2, .func (.func 89) #[] #[.pointer (some ⟨b, 0, none⟩)]] w fun e w' => e = .returned (.int .i64 (numI a r)) ∧ Below w.heap.size w w' := by
  have HC := Lib.hid hc
  clear hc
  go_enter Tryz.func88, Tryz.ntmps88
  go_wp2_with fail
  go_loopw [8] (fun i wr => IdxSt a r w i wr) (fun i _ => a.lets.length - (intOf i).toNat)
  case atStart => exact ⟨0, by omega, rfl, (fun j hj => by omega), Below.refl _ _⟩
  case round =>
    obtain ⟨k, hk, rfl, hne, hbw⟩ := hrel
    have hbs := hbw.size
    have HNE := Lib.hid hne
    clear hne
    by_cases hlt : k < a.lets.length
    · obtain ⟨b1, off, rfl, _, hbb, ⟨x0, y0⟩, ⟨x1, y1⟩, ⟨x2, y2⟩, hrr, hpp, hmm⟩ := lt_at (hl.below vLt_good hbw (Nat.le_refl _)) hlt
      have hs := fun he => numI_some (a := a) (r := r) hlt he HNE.out
      have hnx : a.lets[k].rune ≠ r → ∀ j (hj : j < k + 1) (hl : j < a.lets.length), a.lets[j].rune ≠ r := fun h j hj hl => by
        by_cases hjk : j < k
        · exact HNE.out j hjk hl
        · have : j = k := by omega
          subst this
          exact h
      have hcw : wr.cell? ⟨b, 0, none⟩ = some (.int .i32 r) := ((bcell hbw).1 b 0 hb).trans HC.out
      have hcall := of1_any a.lets[k] b r wr hcw (by omega)
      generalize a.lets[k] = l at *
      have HS := Lib.hid hs
      have HNX := Lib.hid hnx
      have HCALL := Lib.hid hcall
      have HB := Lib.hid hbw
      clear hs hnx hcall hcw hbw
      by_cases he : l.rune = r
      · have hd : (l.rune == r) = true := by rw [beq_iff_eq]; exact he
        rw [hd] at HCALL
        have HF := Lib.hid (HS.out he)
        clear he HS HNX hd
        go_wp2_with fail
        refine HCALL.out.mono ?_
        rintro e w1 ⟨rfl, hb1⟩
        have HB1 := Lib.hid (HB.out.trans (hb1.mono hbs))
        clear hb1 HB
        go_wp2_with fail
        go_ret
        exact ⟨by rw [HF.out]; rfl, HB1.out⟩
      · have hd : (l.rune == r) = false := by rw [beq_eq_false_iff_ne]; exact he
        rw [hd] at HCALL
        have HF := Lib.hid (HNX.out he)
        clear HS HNX hd
        go_wp2_with fail
        refine HCALL.out.mono ?_
        rintro e w1 ⟨rfl, hb1⟩
        have HB1 := Lib.hid (HB.out.trans (hb1.mono hbs))
        clear hb1 HB
        go_wp2_with fail
        exact ⟨⟨k + 1, by omega, by go_num, HF.out, HB1.out⟩, by simp [intOf]; omega⟩
    · have HF := Lib.hid (numI_none (a := a) (r := r) (fun j hl => HNE.out j (by omega) hl))
      have HB := Lib.hid hbw
      clear hbw
      go_wp2_with fail
      go_ret
      exact ⟨by rw [HF.out]; rfl, HB.out⟩

def ltZ : Lt := ⟨0, 0, 0⟩
/-- A rune's letter, and the error. -/
def ofS (a : Al) (r : Int) : Lt × Int := if alOk a = false then (ltZ, 7) else match num a r with | none => (ltZ, 5) | some k => (a.lets.getD k ltZ, 0)
theorem num_lt {a : Al} {r : Int} {k : Nat} (h : num a r = some k) : k < a.lets.length := by
  have key : ∀ (l : List Lt) (i k : Nat), numF l i r = some k → k < i + l.length := by
    intro l
    induction l with
    | nil => intro i k h; simp [numF] at h
    | cons x l ih =>
      intro i k h
      unfold numF at h
      split at h
      · injection h with h; simp only [List.length_cons]; omega
      · have := ih (i + 1) k h; simp only [List.length_cons]; omega
  have := key a.lets 0 k h
  omega
def OfOut (r : Lt × Int) (W : World) (e : Ending) (w' : World) : Prop := e = .returned (.tuple #[.agg #[.int .i32 r.1.rune, .int .u32 (r.1.plus : Int), .int .u32 (r.1.minus : Int)], .int .i64 r.2]) ∧ Below W.heap.size W w'
theorem OfOut.mk' {r : Lt × Int} {W w' : World} {x : Int} {p m : Nat} {E : Int} (h : r = (⟨x, p, m⟩, E)) (hb : Below W.heap.size W w') : OfOut r W (.returned (.tuple #[.agg #[.int .i32 x, .int .u32 (p : Int), .int .u32 (m : Int)], .int .i64 E])) w' := by
  subst h
  exact ⟨rfl, hb⟩
theorem res_letter {fn : Func} {p q : Tmp} (h : fn.results = #[.cell p 90, .tmp q]) (tmps : Array Value) (w : World) (g : Nat) (c0 c1 c2 : Value) (hp : tmps.getD p undef = .pointer (some ⟨g, 0, none⟩)) (hg : Row w g 90 [c0, c1, c2]) :
    (results fn tmps).run Tryz.prog w = .ok (.tuple #[.agg #[c0, c1, c2], tmps.getD q undef]) w := by
  have hl := run_loadVar_row (P := Tryz.prog) w g 90 90 #[c0, c1, c2] (0, 0) _ hg Tryz.underlying90 rfl (by kernel_rfl)
  rw [results_cell_tmp h, hp]
  simp [asAddr, hl, Result.andThen]
set_option maxHeartbeats 4000000 in
set_option maxRecDepth 100000 in
theorem of_any (A1 A2 : Option Addr) (c1 c2 lo : Nat) (a : Al) (r : Int) (w : World) (hin : AlIn w lo w.heap.size A1 A2 a) (hr : -2147483648 ≤ r ∧ r ≤ 2147483647) :
    Calls Tryz.prog 53 #[.agg #[.slice A1 a.feats.length c1, .slice A2 a.lets.length c2], .int .i32 r] w (OfOut (ofS a r) w) := by
  obtain ⟨W3, hW3⟩ : ∃ W3, W3 = (((w.alloc (.cells #[.slice A1 a.feats.length c1, .slice A2 a.lets.length c2] 25)).alloc (.cells #[.int .i32 r] 21)).alloc (.cells #[.int .i32 0, .int .u32 0, .int .u32 0] 90)) := ⟨_, rfl⟩
  have hal : Below w.heap.size w W3 := by rw [hW3]; exact (((Below.refl _ _).alloc (Nat.le_refl _) _).alloc (by simp) _).alloc (by simp; omega) _
  have hr0 : Row W3 w.heap.size 25 [.slice A1 a.feats.length c1, .slice A2 a.lets.length c2] := by rw [hW3]; exact ((Row.new w _ _).alloc _).alloc _
  have hr1 : Row W3 (w.heap.size + 1) 21 [.int .i32 r] := by
    have h := (Row.new (w.alloc (.cells #[.slice A1 a.feats.length c1, .slice A2 a.lets.length c2] 25)) 21 [.int .i32 r]).alloc (.cells #[.int .i32 0, .int .u32 0, .int .u32 0] 90)
    rw [hW3]
    simpa using h
  have hr2 : Row W3 (w.heap.size + 1 + 1) 90 [.int .i32 0, .int .u32 0, .int .u32 0] := by
    have h := Row.new ((w.alloc (.cells #[.slice A1 a.feats.length c1, .slice A2 a.lets.length c2] 25)).alloc (.cells #[.int .i32 r] 21)) 90 [.int .i32 0, .int .u32 0, .int .u32 0]
    rw [hW3]
    simpa using h
  have hcall := Lib.hid (check_any A1 A2 c1 c2 lo a _ (hin.on hal))
  have hof7 : alOk a = false → ofS a r = (⟨0, 0, 0⟩, 7) := fun h => by unfold ofS; rw [if_pos h]; rfl
  have hof5 : alOk a = true → num a r = none → ofS a r = (⟨0, 0, 0⟩, 5) := fun h h1 => by unfold ofS; rw [if_neg (by rw [h]; simp), h1]; rfl
  have hof0 : ∀ k, alOk a = true → num a r = some k → ∀ (hk : k < a.lets.length), ofS a r = (⟨a.lets[k].rune, a.lets[k].plus, a.lets[k].minus⟩, 0) := fun k h h1 hk => by unfold ofS; rw [if_neg (by rw [h]; simp), h1]; simp only [List.getD, List.getElem?_eq_getElem hk]; rfl
  have HOF7 := Lib.hid hof7
  have HOF5 := Lib.hid hof5
  have HOF0 := Lib.hid hof0
  clear hof7 hof5 hof0
  have hn2 := hin.n2
  rw [hW3] at hcall
  go_enter Tryz.func53, Tryz.ntmps53
  go_wp2_with fail
  refine hcall.out.mono ?_
  rw [← hW3]
  rintro e w1 ⟨rfl, hb1⟩
  have hbw := hal.trans (hb1.mono hal.size)
  have hs0 := hr0.below hb1 hr0.lt
  have hs1 := hr1.below hb1 hr1.lt
  have hs2 := hr2.below hb1 hr2.lt
  clear hcall hr0 hr1 hr2 hb1 hW3 hal
  obtain ⟨x0, y0⟩ := hs2.cel (i := 0) rfl
  obtain ⟨x1, y1⟩ := hs2.cel (i := 1) rfl
  obtain ⟨x2, y2⟩ := hs2.cel (i := 2) rfl
  have hl2 := hs2.lt
  cases hok : alOk a with
  | false =>
    have he : alE a = 7 := by unfold alE; rw [hok]; rfl
    rw [he]
    have HF := Lib.hid (OfOut.mk' (r := ofS a r) (W := w) (x := 0) (p := 0) (m := 0) (E := 7) (HOF7.out hok) (((hbw.setCell (p := ⟨w.heap.size + 1 + 1, 0, none⟩) (by simp; omega) (.int .i32 0)).setCell (p := ⟨w.heap.size + 1 + 1, 1, none⟩) (by simp; omega) (.int .u32 0)).setCell (p := ⟨w.heap.size + 1 + 1, 2, none⟩) (by simp; omega) (.int .u32 0)))
    have hrow := Lib.hid (((hs2.set_ 0 (.int .i32 0)).set_ 1 (.int .u32 0)).set_ 2 (.int .u32 0))
    clear hok HOF7 HOF5 HOF0 he hs0 hs1 hs2 hbw
    go_wp2_with fail
    (try simp only [Exit.inBlock, Exit.then])
    refine bodyPost_ret (res_letter rfl _ _ (w.heap.size + 1 + 1) _ _ _ rfl hrow.out) rfl ?_
    exact HF.out
  | true =>
    have he : alE a = 0 := alE_zero.2 hok
    rw [he]
    obtain ⟨q1, _⟩ := hs0.cel (i := 1) rfl
    obtain ⟨q2, _⟩ := hs1.cel (i := 0) rfl
    have hl0 := hs0.lt
    have hl1 := hs1.lt
    have hix := Lib.hid (indexFunc_any A2 c2 (w.heap.size + 1) lo a r w1 ((hin.l.below vLt_good hbw (Nat.le_refl _)).wide vLt_good (Nat.le_refl _) hbw.size) hn2 q2 hl1)
    clear he q2 HOF7
    cases hnum : num a r with
    | none =>
      have hni : numI a r = -1 := by unfold numI; rw [hnum]
      rw [hni] at hix
      have HF := Lib.hid (HOF5.out hok hnum)
      clear hok hnum hni HOF5 HOF0 x0 x1 x2 y0 y1 y2 hs0 hs1
      go_wp2_with fail
      refine hix.out.mono ?_
      rintro e w2 ⟨rfl, hb2⟩
      have hs3 := hs2.below hb2 hl2
      have hbw2 := hbw.trans (hb2.mono hbw.size)
      obtain ⟨x0, y0⟩ := hs3.cel (i := 0) rfl
      obtain ⟨x1, y1⟩ := hs3.cel (i := 1) rfl
      obtain ⟨x2, y2⟩ := hs3.cel (i := 2) rfl
      have HF2 := Lib.hid (OfOut.mk' (r := ofS a r) (W := w) (x := 0) (p := 0) (m := 0) (E := 5) HF.out (((hbw2.setCell (p := ⟨w.heap.size + 1 + 1, 0, none⟩) (by simp; omega) (.int .i32 0)).setCell (p := ⟨w.heap.size + 1 + 1, 1, none⟩) (by simp; omega) (.int .u32 0)).setCell (p := ⟨w.heap.size + 1 + 1, 2, none⟩) (by simp; omega) (.int .u32 0)))
      have hrow := Lib.hid (((hs3.set_ 0 (.int .i32 0)).set_ 1 (.int .u32 0)).set_ 2 (.int .u32 0))
      clear hs2 hs3 hb2 hbw hbw2 hix
      go_wp2_with fail
      (try simp only [Exit.inBlock, Exit.then])
      refine bodyPost_ret (res_letter rfl _ _ (w.heap.size + 1 + 1) _ _ _ rfl hrow.out) rfl ?_
      exact HF2.out
    | some k =>
      have hk := num_lt hnum
      have hni : numI a r = (k : Int) := by unfold numI; rw [hnum]
      rw [hni] at hix
      have HF := Lib.hid (HOF0.out k hok hnum hk)
      have hk0 : 0 ≤ (k : Int) := by omega
      have hk1 : (k : Int) < (a.lets.length : Int) := by omega
      clear hok hnum hni HOF5 HOF0 x0 x1 x2 y0 y1 y2 hs1
      go_wp2_with fail
      refine hix.out.mono ?_
      rintro e w2 ⟨rfl, hb2⟩
      have hs3 := hs2.below hb2 hl2
      have hbw2 := hbw.trans (hb2.mono hbw.size)
      have hs4 := hs0.below hb2 hl0
      obtain ⟨q1, _⟩ := hs4.cel (i := 1) rfl
      obtain ⟨x0, y0⟩ := hs3.cel (i := 0) rfl
      obtain ⟨x1, y1⟩ := hs3.cel (i := 1) rfl
      obtain ⟨x2, y2⟩ := hs3.cel (i := 2) rfl
      obtain ⟨b, off, rfl, _, hbb, ⟨u0, v0⟩, ⟨u1, v1⟩, ⟨u2, v2⟩, _⟩ := lt_at (hin.l.below vLt_good hbw2 (Nat.le_refl _)) hk
      generalize a.lets[k] = x at *
      have HF2 := Lib.hid (OfOut.mk' (r := ofS a r) (W := w) (x := x.rune) (p := x.plus) (m := x.minus) (E := 0) HF.out (((hbw2.setCell (p := ⟨w.heap.size + 1 + 1, 0, none⟩) (by simp; omega) (.int .i32 x.rune)).setCell (p := ⟨w.heap.size + 1 + 1, 1, none⟩) (by simp; omega) (.int .u32 (x.plus : Int))).setCell (p := ⟨w.heap.size + 1 + 1, 2, none⟩) (by simp; omega) (.int .u32 (x.minus : Int))))
      have hrow := Lib.hid (((hs3.set_ 0 (.int .i32 x.rune)).set_ 1 (.int .u32 (x.plus : Int))).set_ 2 (.int .u32 (x.minus : Int)))
      clear hs2 hs3 hb2 hbw hbw2 hix hs0 hs4
      go_wp2_with fail
      (try simp only [Exit.inBlock, Exit.then])
      refine bodyPost_ret (res_letter rfl _ _ (w.heap.size + 1 + 1) _ _ _ rfl hrow.out) rfl ?_
      exact HF2.out
end Go.Proofs.YtimhlnndobfehaaGreatDoor
