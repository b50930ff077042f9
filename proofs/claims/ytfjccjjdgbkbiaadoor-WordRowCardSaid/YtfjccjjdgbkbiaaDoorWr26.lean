/- The row of the type string. The document's list. SameWords; words lent and spoilt. Words written over, and grown. -/
import Derived.Test.YtfjccjjdgbkbiaaDoorWr01
import Derived.Test.YtfjccjjdgbkbiaaDoorProg
import Derived.Test.YtfjccjjdgbkbiaaDoorWr14
import Derived.Test.YtfjccjjdgbkbiaaDoorWr23
import Derived.StillTailTactics
import Derived.Deep.RegionHeld3
import Derived.Deep.DeepCutAuto
import Derived.Deep.CutBlock
import Derived.Test.YtfjccjjdgbkbiaaDoorWr17
import Derived.Test.YtfjccjjdgbkbiaaDoorWr25
import Derived.Test.YtfjccjjdgbkbiaaDoorWr24
import Derived.Test.YtfjccjjdgbkbiaaDoorWr05
namespace Go.Proofs.YtfjccjjdgbkbiaaDoor
open Go.RowKit
theorem string_info : (Tryd.prog.info? 9).map (fun i => (i.zero, i.size, i.bytes)) = some (some (.string ⟨#[]⟩), 1, 16) := by kernel_rfl
end Go.Proofs.YtfjccjjdgbkbiaaDoor
namespace Go.Proofs.YtfjccjjdgbkbiaaDoor
open Go.RowKit
open Go.Lib (Utf8Tabs)
set_option linter.unusedVariables false

theorem allS_all {a : Al} (hok : alOk a = true) {l : List ByteArray} (hn : ¬ 4096 < l.length) (h : AllTo a l l.length) : (allS a l).2 = 0 := by
  unfold allS
  rw [if_neg (by rw [hok]; simp), if_neg hn, allF_ok a l fun s hs => by
    obtain ⟨i, hi, rfl⟩ := List.getElem_of_mem hs
    exact h i hi hi]
theorem allS_bad {a : Al} (hok : alOk a = true) {l : List ByteArray} (hn : ¬ 4096 < l.length) {k : Nat} (hk : k < l.length) (h : AllTo a l k) (hb : (lettersS a l[k]).2 ≠ 0) : (allS a l).2 = (lettersS a l[k]).2 := by
  unfold allS
  rw [if_neg (by rw [hok]; simp), if_neg hn, allF_bad a l k hk h hb]
set_option maxHeartbeats 8000000 in
set_option maxRecDepth 100000 in
theorem rlist_any (A1 A2 AL : Option Addr) (c1 c2 cl lo : Nat) (a : Al) (l : List ByteArray) (w : World) (hin : AlIn w lo w.heap.size A1 A2 a) (hT : Utf8Tabs 0 1 w) (hsl : Sl 1 vStr w lo w.heap.size AL l) (hn : l.length ≤ 9223372036854775807) :
    Calls Tryd.prog 65 #[.agg #[.slice A1 a.feats.length c1, .slice A2 a.lets.length c2], .slice AL l.length cl] w fun e w' => e = .returned (.int .i64 (allS a l).2) ∧ Below w.heap.size w w' := by
  have hal : Below w.heap.size w (w.alloc (.cells #[.slice A1 a.feats.length c1, .slice A2 a.lets.length c2] 25)) := (Below.refl _ _).alloc (Nat.le_refl _) _
  have hr0 := Row.new w 25 [.slice A1 a.feats.length c1, .slice A2 a.lets.length c2]
  have hcall := Lib.hid (rcheck_any A1 A2 c1 c2 lo a _ (hin.on hal))
  cases hok : alOk a with
  | false =>
    have he : alE a = 7 := by unfold alE; rw [hok]; rfl
    rw [he] at hcall
    have HF : Hid ((allS a l).2 = 7) := by show _ = _; unfold allS; rw [if_pos hok]
    clear hok he
    go_enter Tryd.func65, Tryd.ntmps65
    go_wp2_with fail
    refine hcall.out.mono ?_
    rintro e w1 ⟨rfl, hb1⟩
    have HB := Lib.hid (hal.trans (hb1.mono (by simp)))
    clear hb1
    go_wp2_with fail
    go_ret
    exact ⟨by rw [HF.out]; rfl, HB.out⟩
  | true =>
    have he : alE a = 0 := alE_zero.2 hok
    rw [he] at hcall
    by_cases hc : 4096 < l.length
    · have HF : Hid ((allS a l).2 = 4) := by show _ = _; unfold allS; rw [if_neg (by rw [hok]; simp), if_pos hc]
      have hc' : (4096 : Int) < (l.length : Int) := by omega
      clear hok he
      go_enter Tryd.func65, Tryd.ntmps65
      go_wp2_with fail
      refine hcall.out.mono ?_
      rintro e w1 ⟨rfl, hb1⟩
      have HB := Lib.hid (hal.trans (hb1.mono (by simp)))
      clear hb1
      go_wp2_with fail
      go_ret
      exact ⟨by rw [HF.out]; rfl, HB.out⟩
    · have hc' : ¬ (4096 : Int) < (l.length : Int) := by omega
      have HALL := Lib.hid (fun h => allS_all (l := l) hok hc h)
      have HBAD := Lib.hid (fun k (hk : k < l.length) h hb => allS_bad (l := l) hok hc hk h hb)
      have HRD := Lib.hid (fun (s : ByteArray) (hm : s.size ≤ maxLen) (wx : World) (hb : Below w.heap.size w wx) => by
        have h := rread_any A1 A2 c1 c2 lo a s 64 wx (by omega) (hin.on hb) (Utf8Tabs_below hT hb) hm
        rw [show readM a 64 s = lettersS a s by unfold lettersS; rw [hok]; rfl, show ((64 : Nat) : Int) = 64 from rfl] at h
        exact h)
      generalize (allS a l).2 = R at *
      clear hok he
      go_enter Tryd.func65, Tryd.ntmps65
      go_wp2_with fail
      refine hcall.out.mono ?_
      rintro e w1 ⟨rfl, hb1⟩
      have HB1 := Lib.hid (hal.trans (hb1.mono (by simp)))
      have HR1 := Lib.hid (hr0.below hb1 hr0.lt)
      clear hb1 hr0 hal hcall
      go_wp2_with fail
      go_loopw [6] (fun i wr => ∃ k : Nat, k ≤ l.length ∧ i = .int .i64 (k : Int) ∧ Hid (AllTo a l k) ∧ Hid (Row wr w.heap.size 25 [.slice A1 a.feats.length c1, .slice A2 a.lets.length c2]) ∧ Hid (Below w.heap.size w wr)) (fun i _ => l.length - (intOf i).toNat)
      case atStart => exact ⟨0, by omega, rfl, (fun i h h0 => absurd h0 (by omega)), HR1.out, HB1.out⟩
      case round =>
        clear HB1 HR1
        obtain ⟨k, hk, rfl, hto, hr, hB⟩ := hrel
        by_cases hlt : k < l.length
        · obtain ⟨b, off, rfl, _, hbb, ⟨x0, y0⟩, hsz⟩ := strs_at (hsl.below vStr_good hB.out (Nat.le_refl _)) hlt
          have hrd := Lib.hid (HRD.out l[k] hsz wr.drew (below_drewN hB.out 1))
          have hgood : (lettersS a l[k]).2 = 0 → AllTo a l (k + 1) := fun h i hi hik => by
            by_cases hh : i < k
            · exact hto.out i hi hh
            · have : i = k := by omega
              subst this
              exact h
          have hbad := HBAD.out k hlt hto.out
          have hl1 := hr.out.lt
          obtain ⟨q0, _⟩ := hr.out.cel (i := 0) rfl
          obtain ⟨q1, _⟩ := hr.out.cel (i := 1) rfl
          have hbl : b < wr.heap.size := by have := hB.out.size; omega
          generalize l[k] = s at *
          generalize lettersS a s = O at *
          obtain ⟨lx, E⟩ := O
          have HG := Lib.hid hgood
          have HBD := Lib.hid hbad
          have j1 : (k : Int) < (l.length : Int) := by omega
          have j2 : 0 ≤ (k : Int) := by omega
          clear hgood hbad
          go_upto_region 9 with (fail)
          go_region_held3 (fun w' => w'.cell? ⟨w.heap.size, 0, none⟩ = some (.slice A1 a.feats.length c1) ∧ w'.cell? ⟨w.heap.size, 1, none⟩ = some (.slice A2 a.lets.length c2) ∧ w'.cell? ⟨b, off + k, none⟩ = some (.string s)) (go_keep)
            ((go_at_call 44; refine hrd.out.mono ?_; rintro e w5 ⟨Z, cz, rfl, hz, hb5⟩; have k0 := ((bcell hb5).1 _ 0 hl1).trans q0; have k1 := ((bcell hb5).1 _ 1 hl1).trans q1; have k2 := ((bcell hb5).1 _ (off + k) hbl).trans x0))
          have HB5 := Lib.hid ((below_drewN hB.out 1 : Below w.heap.size w wr.drew).trans (hb5.mono hB.out.size))
          have HR5 := Lib.hid ((hr.out.drew).below hb5 hr.out.lt)
          clear k0 k1 k2 q0 q1 x0 y0 hz hb5 hB hr
          by_cases hE : E = 0
          · subst hE
            have HN := Lib.hid (HG.out rfl)
            clear HG HBD
            go_wp2_with fail
            exact ⟨⟨k + 1, by omega, by go_num, HN.out, HR5.out, HB5.out⟩, by simp [intOf]; omega⟩
          · have HN : Hid (R = E) := HBD.out hE
            have hne : (E != 0) = true := by rw [bne_iff_ne]; exact hE
            clear HG HBD hE
            go_wp2_with fail
            go_ret
            exact ⟨by rw [HN.out]; rfl, HB5.out⟩
        · obtain rfl : k = l.length := by omega
          have HN := Lib.hid (HALL.out hto.out)
          have j1 : ¬ (l.length : Int) < (l.length : Int) := by omega
          clear hto
          go_wp2_with fail
          go_ret
          exact ⟨by rw [HN.out]; rfl, hB.out⟩
end Go.Proofs.YtfjccjjdgbkbiaaDoor
namespace Go.Proofs.YtfjccjjdgbkbiaaDoor
open Go.RowKit
set_option linter.unusedVariables false

set_option maxHeartbeats 4000000 in
set_option maxRecDepth 100000 in
theorem sameWords_yes (A B : Option Addr) (c d lo hi lo' hi' : Nat) (l : List ByteArray) (w : World) (hA : Sl 1 vStr w lo hi A l) (hB : Sl 1 vStr w lo' hi' B l) (hn : l.length ≤ 9223372036854775807) :
    Calls Tryd.prog 38 #[.slice A l.length c, .slice B l.length d] w fun e w' => e = .returned (.bool true) ∧ ∃ n, w' = w.drewN n := by
  have hl : ((l.length : Int) != (l.length : Int)) = false := by simp
  go_enter Tryd.func38, Tryd.ntmps38
  go_wp2_with fail
  go_loopw [5] (fun i wr => ∃ k : Nat, k ≤ l.length ∧ i = .int .i64 (k : Int) ∧ Hid (∃ n, wr = w.drewN n)) (fun i _ => l.length - (intOf i).toNat)
  case atStart => exact ⟨0, by omega, rfl, 0, rfl⟩
  case round =>
    obtain ⟨k, hk, rfl, hB'⟩ := hrel
    obtain ⟨nd, rfl⟩ := hB'.out
    clear hB'
    by_cases hlt : k < l.length
    · obtain ⟨b1, o1, rfl, _, _, ⟨x0, y0⟩, _⟩ := strs_at hA hlt
      obtain ⟨b2, o2, rfl, _, _, ⟨x1, y1⟩, _⟩ := strs_at hB hlt
      have j1 : (k : Int) < (l.length : Int) := by omega
      have j2 : 0 ≤ (k : Int) := by omega
      generalize l[k] = s at *
      have hd : (s.toList != s.toList) = false := by simp
      clear hA hB
      go_wp2_with fail
      go_quiet (fail)
      go_wp2_with fail
      exact ⟨⟨k + 1, by omega, by go_num, nd + nq, rfl⟩, by simp [intOf]; omega⟩
    · obtain rfl : k = l.length := by omega
      have hz : ¬ (l.length : Int) < (l.length : Int) := by omega
      clear hA hB
      go_wp2_with fail
      go_ret
      exact ⟨rfl, nd, rfl⟩
def markB : ByteArray := ⟨#[109, 97, 114, 107]⟩
def LentOut (l : List ByteArray) (W : World) (e : Ending) (w' : World) : Prop :=
  ∃ g c, e = .returned (.slice (some ⟨g, 0, none⟩) l.length c) ∧ l.length + 1 ≤ c ∧ w'.ownsRow W.heap.size 9 1 (.slice (some ⟨g, 0, none⟩) (l.length + 1) c) (l.length + 1) (strVs (l ++ [markB])) ∧ Below W.heap.size W w'
theorem str_one {w : World} {lo hi : Nat} (cs : List Value) (x : ByteArray) (h : vStr w lo hi cs x) : ∀ u ∈ cs, u.oneCell' = true := fun u hu => by
  rw [h.1] at hu
  rw [List.mem_singleton.1 hu]
  rfl
theorem fits_strs {w : World} {lo hi : Nat} {news : List Value} {l : List ByteArray} (h : Fits 1 vStr w lo hi news l) : news = strVs l := by
  have hl : news.length = l.length := by have := h.1; omega
  apply List.ext_getElem
  · unfold strVs; rw [List.length_map]; exact hl
  · intro i h1 h2
    have hi' : i < l.length := by omega
    have hv := (h.2 i l[i] (List.getElem?_eq_getElem hi')).1
    unfold slot at hv
    rw [Nat.mul_one, List.drop_eq_getElem_cons h1] at hv
    simp only [List.take_succ_cons, List.take_zero, List.cons.injEq, and_true] at hv
    rw [hv]
    simp [strVs]
set_option maxHeartbeats 4000000 in
set_option maxRecDepth 100000 in
theorem lent_any (AL : Option Addr) (cl lo : Nat) (l : List ByteArray) (w : World) (hsl : Sl 1 vStr w lo w.heap.size AL l) (hn : l.length * 16 ≤ 140737488351232) (hlo : lo ≤ w.heap.size) :
    Calls Tryd.prog 33 #[.slice AL l.length cl] w (LentOut l w) := by
  obtain ⟨i1, hi1, hy0, hy1, hy2⟩ := info_parts string_info
  have h63 : l.length ≤ maxLen := by unfold maxLen; omega
  have h16 : l.length * 16 ≤ 140737488355328 := by omega
  go_enter Tryd.func33, Tryd.ntmps33
  go_wp2_with (at_builtin; refine wpList_append_copy _ rfl (.tmp 4) (.tmp 5) 22 rfl 9 i1 _ 16 Tryd.underlying22 hi1 hy0 hy1 hy2 rfl (by decide) rfl rfl hsl hlo (Nat.le_refl _) vStr_good str_one h63 h16 ?_)
  intro A' c' w1 hb1 hc1 hc2 hsl1 news hown hfits
  have hne := fits_strs hfits
  subst hne
  have hal2 : Below w1.heap.size w1 (w1.alloc (.cells #[.string ⟨#[109, 97, 114, 107]⟩] 9)) := (Below.refl _ _).alloc (Nat.le_refl _) _
  have hownB := own_below hown hal2
  have hrN := Row.new w1 9 [.string ⟨#[109, 97, 114, 107]⟩]
  have hnews := hrN.news
  have hone : ∀ u ∈ [Value.string ⟨#[109, 97, 114, 107]⟩], u.oneCell' = true := by intro u hu; rw [List.mem_singleton.1 hu]; rfl
  have h64 : l.length + 1 ≤ maxLen := by unfold maxLen; omega
  have hby : (l.length + 1) * 16 ≤ 140737488355328 := by omega
  have hlo2 : w.heap.size ≤ (w1.alloc (.cells #[.string ⟨#[109, 97, 114, 107]⟩] 9)).heap.size := by have := hal2.size; have := hb1.size; omega
  have hbB : Below w.heap.size w (w1.alloc (.cells #[.string ⟨#[109, 97, 114, 107]⟩] 9)) := hb1.trans (hal2.mono hb1.size)
  have hge := fun j hj => (hown.lt j hj).1
  clear hrN hal2 hown hsl hsl1 hfits
  go_wp2_with (at_builtin; refine wpList_append_lies _ rfl _ _ 22 rfl w.heap.size 9 i1 (.string ⟨#[]⟩) 1 16 Tryd.underlying22 hi1 hy0 hy1 hy2 rfl (by decide) (.slice A' l.length c') l.length (strVs l) rfl hownB ⟨w1.heap.size, 0, none⟩ 1 1 [.string ⟨#[109, 97, 114, 107]⟩] rfl rfl hnews hone (by decide) h64 hby hlo2 _ rfl ?_)
  intro g cap w5 hown5 hgr5 hat5 hlt5
  have hb5 : Below w.heap.size w w5 := hbB.grown hgr5 hlo2 hge
  have hcap : l.length + 1 ≤ cap := by
    obtain ⟨_, _, e, h1, _⟩ := own_form hown5
    injection e with _ _ e3
    omega
  have hfin : LentOut l w (.returned (.slice (some ⟨g, 0, none⟩) l.length cap)) w5 := by
    refine ⟨g, cap, rfl, hcap, ?_, hb5⟩
    have e2 : strVs l ++ [.string ⟨#[109, 97, 114, 107]⟩] = strVs (l ++ [markB]) := by unfold strVs markB; simp
    rw [← e2]
    exact hown5
  have HFIN := Lib.hid hfin
  have k1 : (l.length : Int) ≤ (cap : Int) := by omega
  have k2 : l.length ≤ cap := by omega
  clear hfin hown5 hgr5 hat5 hlt5 hownB hnews hone hge hbB hb5
  go_wp2_with fail
  go_ret
  exact HFIN.out
end Go.Proofs.YtfjccjjdgbkbiaaDoor
namespace Go.Proofs.YtfjccjjdgbkbiaaDoor
open Go.RowKit
set_option linter.unusedVariables false

/-- The slice's own block. -/
def Blk (A : Option Addr) (k : Nat) : Prop := ∃ ad, A = some ad ∧ ad.block = k
theorem blk_of {A : Option Addr} {n c k : Nat} (h : (Value.slice A n c).ownBlock = some k) : Blk A k := by
  cases A with
  | none => cases h
  | some ad => exact ⟨ad, rfl, Option.some.inj h⟩
def SpW1 (base : Nat) (A : Option Addr) (n c : Nat) (W : World) (i : Value) (wr : World) : Prop :=
  ∃ (k : Nat) (xs : List Value), i = .int .i64 (k : Int) ∧ k ≤ n ∧ wr.ownsRow base 9 1 (.slice A n c) n xs ∧ Fr (Blk A) W wr
def SpW2 (base n : Nat) (A0 : Option Addr) (W : World) (v i : Value) (wr : World) : Prop :=
  ∃ (j : Nat) (A : Option Addr) (c : Nat) (xs : List Value), v = .slice A (n + j) c ∧ i = .int .i64 (j : Int) ∧ j ≤ 4 ∧ wr.ownsRow base 9 1 (.slice A (n + j) c) (n + j) xs ∧ Fr (Blk A0) W wr ∧ Hid (∀ g, Blk A g → g < W.heap.size → Blk A0 g)
set_option maxHeartbeats 4000000 in
set_option maxRecDepth 100000 in
theorem spoilW_any (base : Nat) (A : Option Addr) (n c : Nat) (xs : List Value) (w : World) (hown : w.ownsRow base 9 1 (.slice A n c) n xs) (hn : n ≤ 4096) (hbase : base ≤ w.heap.size) :
    Calls Tryd.prog 39 #[.slice A n c] w fun e w' => e = .returned (.tuple #[]) ∧ Fr (Blk A) w w' := by
  obtain ⟨i1, hi1, hy0, hy1, hy2⟩ := info_parts string_info
  have hst : SpW1 base A n c w (.int .i64 0) w := ⟨0, xs, rfl, by omega, hown, Fr.refl _ _⟩
  have HST := Lib.hid hst
  clear hst hown
  go_enter Tryd.func39, Tryd.ntmps39
  go_wp2_with fail
  go_loopw [2] (fun i wr => SpW1 base A n c w i wr) (fun i _ => n - (intOf i).toNat)
  case atStart => exact HST.out
  case round =>
    clear HST
    obtain ⟨k, xs, rfl, hk, hown, hb⟩ := hrel
    by_cases hlt : k < n
    · obtain ⟨g, c', e, _, _, _, hgw⟩ := own_pos hown (by omega)
      injection e with e1 _ e2
      subst e1 e2
      have hxl : xs.length = n := by have := hown.1; omega
      obtain ⟨z0, z1⟩ := own_cel hown (j := k) (u := xs[k]) (List.getElem?_eq_getElem (by omega))
      have hset := own_set hown (g := g) rfl (j := k) (by omega) (.string ⟨#[115, 112, 111, 105, 108, 116]⟩)
      have hge := (hown.lt g rfl).1
      have hfin : SpW1 base (some ⟨g, 0, none⟩) n c w (.int .i64 ((k : Int) + 1)) (wr.setCell ⟨g, k, none⟩ (.string ⟨#[115, 112, 111, 105, 108, 116]⟩)) := ⟨k + 1, _, by simp, by omega, hset, hb.setc _ _ fun _ => ⟨_, rfl, rfl⟩⟩
      have HFIN := Lib.hid hfin
      have j1 : (k : Int) < (n : Int) := by omega
      have j2 : 0 ≤ (k : Int) := by omega
      generalize xs[k] = xv at *
      clear hfin hset hown hb
      go_wp2_with fail
      exact ⟨HFIN.out, by simp [intOf]; omega⟩
    · obtain rfl : k = n := by omega
      have hst : SpW2 base k A w (.slice A k c) (.int .i64 0) wr := ⟨0, A, c, xs, rfl, rfl, by omega, hown, hb, fun g h _ => h⟩
      have HST := Lib.hid hst
      have j1 : ¬ (k : Int) < (k : Int) := by omega
      clear hst hown hb
      go_wp2_with fail
      go_loopw [0, 3] (fun v i wr => SpW2 base k A w v i wr) (fun _ i _ => 4 - (intOf i).toNat)
      case atStart => exact HST.out
      case round =>
        clear HST
        obtain ⟨j, B, d, ys, rfl, rfl, hj, hown, hb, hbk⟩ := hrel
        have hbs : base ≤ wr.heap.size := Nat.le_trans hbase hb.size
        by_cases hj4 : j < 4
        · have hal2 : Below wr.heap.size wr (wr.alloc (.cells #[.string ⟨#[109, 111, 114, 101]⟩] 9)) := (Below.refl _ _).alloc (Nat.le_refl _) _
          have hownB := own_below hown hal2
          have hnews := (Row.new wr 9 [.string ⟨#[109, 111, 114, 101]⟩]).news
          have hone : ∀ u ∈ [Value.string ⟨#[109, 111, 114, 101]⟩], u.oneCell' = true := by intro u hu; rw [List.mem_singleton.1 hu]; rfl
          have h64 : (k + j) + 1 ≤ maxLen := by unfold maxLen; omega
          have hby : ((k + j) + 1) * 16 ≤ 140737488355328 := by omega
          have hlo2 : base ≤ (wr.alloc (.cells #[.string ⟨#[109, 111, 114, 101]⟩] 9)).heap.size := by have := hal2.size; omega
          have hbB : Fr (Blk A) w (wr.alloc (.cells #[.string ⟨#[109, 111, 114, 101]⟩] 9)) := hb.alloc _
          have hws := hb.size
          have hge := fun j hj => (hown.lt j hj).1
          have k1 : (j : Int) < 4 := by omega
          clear hal2 hown hb
          go_wp2_with (at_builtin; refine wpList_append_lies _ rfl _ _ 22 rfl base 9 i1 (.string ⟨#[]⟩) 1 16 Tryd.underlying22 hi1 hy0 hy1 hy2 rfl (by decide) (.slice B (k + j) d) (k + j) ys rfl hownB ⟨wr.heap.size, 0, none⟩ 1 1 [.string ⟨#[109, 111, 114, 101]⟩] rfl rfl hnews hone (by decide) h64 hby hlo2 _ rfl ?_)
          intro g cap w5 hown5 hgr5 hat5 hlt5
          have hb5 : Fr (Blk A) w w5 := hbB.trans (T := fun g => (Value.slice B (k + j) d).ownBlock = some g) (Fr.of_grown hgr5 (fun _ h => h)) fun g hg h => hbk.out g (blk_of h) hg
          have hbk5 : Hid (∀ x, Blk (some ⟨g, 0, none⟩) x → x < w.heap.size → Blk A x) := fun x ⟨ad, e, e2⟩ hx => by
            injection e with e
            subst e
            simp only at e2
            subst e2
            rcases hat5 with h | h
            · exact hbk.out _ (blk_of h) hx
            · exact absurd hx (by omega)
          have hfin : SpW2 base k A w (.slice (some ⟨g, 0, none⟩) (k + j + 1) cap) (.int .i64 ((j : Int) + 1)) w5 := ⟨j + 1, _, cap, _, rfl, by simp, by omega, hown5, hb5, hbk5⟩
          have HFIN := Lib.hid hfin
          clear hfin hown5 hgr5 hat5 hlt5 hownB hnews hone hge hbB hb5 hbk hbk5
          go_wp2_with fail
          exact ⟨HFIN.out, by simp [intOf]; omega⟩
        · obtain rfl : j = 4 := by omega
          obtain ⟨g, c', e, _, _, _, hgw⟩ := own_pos hown (by omega)
          injection e with e1 _ e2
          subst e1 e2
          have hyl : ys.length = k + 4 := by have := hown.1; omega
          obtain ⟨z0, z1⟩ := own_cel hown (j := 0) (u := ys[0]) (List.getElem?_eq_getElem (by omega))
          have hge := (hown.lt g rfl).1
          have HFIN := Lib.hid (hb.setc ⟨g, 0, none⟩ (.string ⟨#[102, 105, 114, 115, 116]⟩) fun h => hbk.out _ ⟨_, rfl, rfl⟩ h)
          have k1 : ¬ ((4 : Nat) : Int) < 4 := by omega
          have k2 : (0 : Int) < ((k + 4 : Nat) : Int) := by omega
          have k3 : 0 < k + 4 := by omega
          generalize ys[0] = yv at *
          clear hown hb
          go_wp2_with fail
          go_end0
          exact ⟨rfl, HFIN.out⟩
end Go.Proofs.YtfjccjjdgbkbiaaDoor
