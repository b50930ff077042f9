/- A class's text. -/
import Derived.Test.YtimhlnndobfehaaDoorMc11
import Derived.Test.YtimhlnndobfehaaDoorMc17
import Derived.Test.YtimhlnndobfehaaDoorShelf
import Derived.Test.YtimhlnndobfehaaDoorMc22
namespace Go.Proofs.YtimhlnndobfehaaDoor
open Go.RowKit
set_option linter.unusedVariables false

def textL : Nat → List ByteArray → Nat → Nat → List UInt8
  | _, [], _, _ => []
  | i, f :: r, p, m => (if p / 2 ^ i % 2 = 1 then 43 :: f.data.toList else if m / 2 ^ i % 2 = 1 then 45 :: f.data.toList else []) ++ textL (i + 1) r p m
/-- A class's text, and the error. -/
def classT (a : Al) (p m : Nat) : ByteArray × Int :=
  if alE a ≠ 0 then (⟨#[]⟩, alE a) else if classOk a.feats.length p m then (⟨(textL 0 a.feats p m).toArray⟩, 0) else (⟨#[]⟩, 20)
theorem names_short : ∀ (l : List ByteArray) (seen : List (List UInt8)), namesOk seen l = true → ∀ f ∈ l, f.size ≤ 32
  | [], _, _, f, hf => by simp at hf
  | g :: r, seen, h, f, hf => by
    unfold namesOk at h
    simp only [Bool.and_eq_true] at h
    rcases List.mem_cons.1 hf with rfl | hf
    · have := h.1.1
      rw [nameOk_eq] at this
      simp only [Bool.and_eq_true, decide_eq_true_eq] at this
      exact this.1.2
    · exact names_short r _ h.2 f hf
theorem alE_parts {a : Al} (h : alE a = 0) : a.feats.length ≤ 24 ∧ 1 ≤ a.lets.length ∧ a.lets.length ≤ 128 ∧ namesOk [] a.feats = true ∧ letsOk a.feats.length [] a.lets = true := by
  unfold alE at h
  by_cases hok : alOk a = true
  · unfold alOk at hok
    simp only [Bool.and_eq_true, decide_eq_true_eq] at hok
    exact ⟨hok.1.1.1.1, hok.1.1.1.2, hok.1.1.2, hok.1.2, hok.2⟩
  · rw [if_neg hok] at h; omega
theorem bit_one {x i : Nat} (hx : x < 4294967296) : ∃ q : Nat, bits .and .u32 ((x : Int) / 2 ^ i) 1 = (q : Int) ∧ (((q : Int) == 1) = decide (x / 2 ^ i % 2 = 1)) := by
  have h1 : ((x : Int) / 2 ^ i) = ((x / 2 ^ i : Nat) : Int) := by
    rw [Int.natCast_ediv]
    simp
  have hle : x / 2 ^ i ≤ x := Nat.div_le_self _ _
  have h2 := bits_and (x := x / 2 ^ i) (y := 1) (by omega) (by omega)
  refine ⟨x / 2 ^ i % 2, ?_, ?_⟩
  · rw [h1, show (1 : Int) = ((1 : Nat) : Int) from rfl, h2, Nat.and_one_is_mod]
  · rw [Bool.eq_iff_iff, beq_iff_eq, decide_eq_true_eq]
    omega
def FtSt (a : Al) (p m b : Nat) (W : World) (x : Value) (wr : World) : Prop :=
  ∃ (k : Nat) (acc : List UInt8), x = .int .i64 (k : Int) ∧ k ≤ a.feats.length ∧ acc.length ≤ k * 33 ∧ Hid (textL 0 a.feats p m = acc ++ textL k (a.feats.drop k) p m) ∧ Bld b b acc wr ∧ Below b W wr
set_option maxHeartbeats 4000000 in
theorem ftext_any (A1 A2 : Option Addr) (c1 c2 lo : Nat) (a : Al) (p m : Nat) (w : World) (hin : AlIn w lo w.heap.size A1 A2 a) (hp : p < 4294967296) (hm : m < 4294967296) :
    Calls Tryd.prog 40 #[.agg #[.slice A1 a.feats.length c1, .slice A2 a.lets.length c2], .int .u32 (p : Int), .int .u32 (m : Int)] w (StrOut (classT a p m) w) := by
  have hal : Below w.heap.size w (w.alloc (.cells #[.slice A1 a.feats.length c1, .slice A2 a.lets.length c2] 25)) := (Below.refl _ _).alloc (Nat.le_refl _) _
  have hr0 := Row.new w 25 [.slice A1 a.feats.length c1, .slice A2 a.lets.length c2]
  have hcall := Lib.hid (check_any A1 A2 c1 c2 lo a _ (hin.on hal))
  have HS : Hid (classT a p m = if alE a ≠ 0 then (⟨#[]⟩, alE a) else if classOk a.feats.length p m then (⟨(textL 0 a.feats p m).toArray⟩, 0) else (⟨#[]⟩, 20)) := rfl
  have hz0 := alE_parts (a := a)
  generalize classT a p m = R at *
  by_cases hE : alE a = 0
  · obtain ⟨hf24, _, _, hnm, _⟩ := hz0 hE
    have hshort := Lib.hid (names_short a.feats [] hnm)
    have hwi := Lib.hid (fun wx => within_any A1 A2 a.feats.length c1 a.lets.length c2 p m wx hf24 hp hm)
    have HIN := Lib.hid (fun (wx : World) (hb : Below w.heap.size w wx) => hin.on hb)
    have hR : R = if classOk a.feats.length p m then (⟨(textL 0 a.feats p m).toArray⟩, 0) else (⟨#[]⟩, 20) := by rw [HS.out, if_neg (by simp [hE])]
    have HR := Lib.hid hR
    rw [hE] at hcall
    clear HS hR hE hnm hz0 hin
    go_enter Tryd.func40, Tryd.ntmps40
    go_wp2_with fail
    refine hcall.out.mono ?_
    rintro e w1 ⟨rfl, hb1⟩
    have hbw1 := hal.trans (hb1.mono (by simp))
    have hr1 := hr0.below hb1 hr0.lt
    obtain ⟨q0, _⟩ := hr1.cel (i := 0) rfl
    obtain ⟨q1, _⟩ := hr1.cel (i := 1) rfl
    have hl1 := hr1.lt
    clear hcall hal hb1 hr0
    go_wp2_with fail
    refine (hwi.out w1).mono ?_
    rintro e w2 ⟨rfl, hb2⟩
    have hbw2 := hbw1.trans (hb2.mono hbw1.size)
    have hr2 := hr1.below hb2 hr1.lt
    have HB2 := Lib.hid hbw2
    have HRW := Lib.hid hr2
    clear hr1 q0 q1 hb2 hbw1 hwi
    cases hc : classOk a.feats.length p m with
    | false =>
      have HFIN := Lib.hid (StrOut.mk' (show R = (⟨#[]⟩, 20) by rw [HR.out, hc]; rfl) HB2.out)
      clear hr2 hbw2 hc
      go_wp2_with fail
      go_ret2
      exact HFIN.out
    | true =>
      have HRT : Hid (R = (⟨(textL 0 a.feats p m).toArray⟩, 0)) := by show _ = _; rw [HR.out, hc]; rfl
      have hbf : Bld w2.heap.size w2.heap.size [] (w2.alloc (.cells #[.pointer none, .slice none 0 0] 72)) := Lib.fresh_isBuilder _ _ _
      have hst : FtSt a p m w2.heap.size w2 (.int .i64 0) (w2.alloc (.cells #[.pointer none, .slice none 0 0] 72)) := ⟨0, [], rfl, by omega, by simp, by show _ = _; simp, hbf, (Below.refl _ _).alloc (Nat.le_refl _) _⟩
      have HST := Lib.hid hst
      have hb3 : Below w2.heap.size w2 (w2.alloc (.cells #[.pointer none, .slice none 0 0] 72)) := (Below.refl _ _).alloc (Nat.le_refl _) _
      obtain ⟨q0, _⟩ := (hr2.below hb3 hr2.lt).cel (i := 0) rfl
      have hl2 := hr2.lt
      clear hc hst hbf hr2 hbw2 hb3
      generalize hbb : w2.heap.size = b at *
      go_wp2_with fail
      go_loopw [25] (fun x wr => FtSt a p m b w2 x wr) (fun x _ => a.feats.length - (intOf x).toNat)
      case atStart => exact HST.out
      case round =>
        clear HST
        obtain ⟨k, acc, rfl, hk, hal, hT, hbld, hb⟩ := hrel
        have hbw := HB2.out.trans (hb.mono (by rw [← hbb]; exact HB2.out.size))
        have hbs := hb.size
        by_cases hlt : k < a.feats.length
        · obtain ⟨g, o, rfl, _, hg, ⟨y0, y1⟩, _⟩ := strs_at (HIN.out wr hbw).f hlt
          have hsh := hshort.out a.feats[k] (List.getElem_mem hlt)
          have hstep : textL k (a.feats.drop k) p m = (if p / 2 ^ k % 2 = 1 then 43 :: a.feats[k].data.toList else if m / 2 ^ k % 2 = 1 then 45 :: a.feats[k].data.toList else []) ++ textL (k + 1) (a.feats.drop (k + 1)) p m := by
            rw [List.drop_eq_getElem_cons hlt]; rfl
          have HT := Lib.hid (hT.out.trans (congrArg (acc ++ ·) hstep))
          clear hstep hT
          generalize a.feats[k] = f at *
          obtain ⟨bp, p1, p2⟩ := bit_one (i := k) hp
          obtain ⟨bm, m1, m2⟩ := bit_one (i := k) hm
          have j1 : (k : Int) < (a.feats.length : Int) := by omega
          have j2 : 0 ≤ (k : Int) := by omega
          have hfd : f.data.toList.length = f.size := Array.length_toList
          have hs1 : ∀ c : UInt8, (ByteArray.mk #[c] ++ f).size = 1 + f.size := fun c => by rw [ByteArray.size_append]; rfl
          have hd1 : ∀ c : UInt8, (ByteArray.mk #[c] ++ f).data.toList = c :: f.data.toList := fun c => by rw [ByteArray.data_append]; simp
          have hgw : g < wr.heap.size := by omega
          by_cases hbp : p / 2 ^ k % 2 = 1
          · rw [decide_eq_true hbp] at p2
            have hws := Lib.hid (WriteString_any b b acc (ByteArray.mk #[43] ++ f) wr hbld (by rw [hs1]; omega) (by omega))
            have hT2 : Hid (textL 0 a.feats p m = (acc ++ (ByteArray.mk #[43] ++ f).data.toList) ++ textL (k + 1) (a.feats.drop (k + 1)) p m) := by show _ = _; rw [HT.out, if_pos hbp, hd1]; simp
            have HB := Lib.hid hb
            clear hbld hb HT hbp hbw
            go_wp2_with fail
            refine hws.out.mono ?_
            rintro e w5 ⟨rfl, hbld5, hb5, _⟩
            have hfin : FtSt a p m b w2 (.int .i64 ((k : Int) + 1)) w5 := ⟨k + 1, _, by simp, by omega, by rw [List.length_append, hd1, List.length_cons]; omega, hT2.out, hbld5, HB.out.trans hb5⟩
            have HFIN := Lib.hid hfin
            clear hfin hbld5 hws HB hb5 hT2
            go_wp2_with fail
            exact ⟨HFIN.out, by simp [intOf]; omega⟩
          · rw [decide_eq_false hbp] at p2
            by_cases hbm' : m / 2 ^ k % 2 = 1
            · rw [decide_eq_true hbm'] at m2
              have hws := Lib.hid (WriteString_any b b acc (ByteArray.mk #[45] ++ f) wr hbld (by rw [hs1]; omega) (by omega))
              have hT2 : Hid (textL 0 a.feats p m = (acc ++ (ByteArray.mk #[45] ++ f).data.toList) ++ textL (k + 1) (a.feats.drop (k + 1)) p m) := by show _ = _; rw [HT.out, if_neg hbp, if_pos hbm', hd1]; simp
              have HB := Lib.hid hb
              clear hbld hb HT hbp hbm' hbw
              go_wp2_with fail
              refine hws.out.mono ?_
              rintro e w5 ⟨rfl, hbld5, hb5, _⟩
              have hfin : FtSt a p m b w2 (.int .i64 ((k : Int) + 1)) w5 := ⟨k + 1, _, by simp, by omega, by rw [List.length_append, hd1, List.length_cons]; omega, hT2.out, hbld5, HB.out.trans hb5⟩
              have HFIN := Lib.hid hfin
              clear hfin hbld5 hws HB hb5 hT2
              go_wp2_with fail
              exact ⟨HFIN.out, by simp [intOf]; omega⟩
            · rw [decide_eq_false hbm'] at m2
              have hT2 : textL 0 a.feats p m = acc ++ textL (k + 1) (a.feats.drop (k + 1)) p m := by rw [HT.out, if_neg hbp, if_neg hbm']; simp
              have hfin : FtSt a p m b w2 (.int .i64 ((k : Int) + 1)) wr := ⟨k + 1, acc, by simp, by omega, by omega, hT2, hbld, hb⟩
              have HFIN := Lib.hid hfin
              clear hfin hbld hb HT hbp hbm' hT2 hbw
              go_wp2_with fail
              exact ⟨HFIN.out, by simp [intOf]; omega⟩
        · obtain rfl : k = a.feats.length := by omega
          have hstr := Lib.hid (Tryd.Builder_String_any b b acc wr hbld (by omega))
          have hrr : R = (⟨acc.toArray⟩, 0) := by rw [HRT.out, hT.out, List.drop_length]; simp [textL]
          have HFIN := Lib.hid (fun (wx : World) (hx : Below b wr wx) => StrOut.mk' hrr (hbw.trans (hx.mono (by rw [← hbb]; exact HB2.out.size))))
          have j1 : ¬ (a.feats.length : Int) < (a.feats.length : Int) := by omega
          clear hbld hb hT hrr hbw
          go_wp2_with fail
          refine hstr.out.mono ?_
          rintro e w5 ⟨rfl, hb5⟩
          have HO := Lib.hid (HFIN.out w5 hb5)
          clear HFIN hb5 hstr
          go_wp2_with fail
          go_ret2
          exact HO.out
  · have HFIN := Lib.hid (fun wx hb => StrOut.mk' (W := w) (w' := wx) (show R = (⟨#[]⟩, alE a) by rw [HS.out, if_pos hE]) hb)
    generalize alE a = E at *
    have hne : (E != 0) = true := by rw [bne_iff_ne]; exact hE
    clear HS hE hz0
    go_enter Tryd.func40, Tryd.ntmps40
    go_wp2_with fail
    refine hcall.out.mono ?_
    rintro e w1 ⟨rfl, hb1⟩
    have HB := Lib.hid (hal.trans (hb1.mono (by simp)))
    clear hb1
    go_wp2_with fail
    go_ret2
    exact HFIN.out _ HB.out
end Go.Proofs.YtimhlnndobfehaaDoor
