/- The document's First; two lists of spans that are the same. -/
import Derived.Test.YtimhlnndobfehaaGreatDoorMs06
namespace Go.Proofs.YtimhlnndobfehaaGreatDoor
open Go.RowKit
open Go.Lib (Utf8Tabs)
set_option linter.unusedVariables false

theorem own_spanV {w : World} {base c k : Nat} {A : Option Addr} {l : List (Nat × Nat)} (h : w.ownsRow base 51 2 (.slice A l.length c) l.length (spanVs l)) (hk : k < l.length) :
    ∃ g, A = some ⟨g, 0, none⟩ ∧ base ≤ g ∧ g < w.heap.size ∧ Cel w g (k * 2) (.int .i64 (l[k].1 : Int)) ∧ Cel w g (k * 2 + 1) (.int .i64 (l[k].2 : Int)) := by
  obtain ⟨g, c', e, _, _, h1, h2⟩ := own_pos h (by omega)
  injection e with e1 _ e2
  subst e1 e2
  have key : ∀ (l : List (Nat × Nat)) (k : Nat) (hk : k < l.length), (spanVs l)[k * 2]? = some (.int .i64 (l[k].1 : Int)) ∧ (spanVs l)[k * 2 + 1]? = some (.int .i64 (l[k].2 : Int)) := by
    intro l
    induction l with
    | nil => intro k hk; simp at hk
    | cons x r ih =>
      intro k hk
      have e : spanVs (x :: r) = .int .i64 (x.1 : Int) :: .int .i64 (x.2 : Int) :: spanVs r := by unfold spanVs spanC; rfl
      rw [e]
      cases k with
      | zero => exact ⟨rfl, rfl⟩
      | succ k =>
        have := ih k (by simpa using hk)
        rw [show (k + 1) * 2 = k * 2 + 1 + 1 by omega, List.getElem?_cons_succ, List.getElem?_cons_succ, List.getElem?_cons_succ, List.getElem?_cons_succ]
        exact this
  exact ⟨g, rfl, h1, h2, own_cel h (key l k hk).1, own_cel h (key l k hk).2⟩
set_option maxHeartbeats 2000000 in
theorem rsame_yes (A B : Option Addr) (c d ba bb : Nat) (l : List (Nat × Nat)) (w : World) (h1 : w.ownsRow ba 51 2 (.slice A l.length c) l.length (spanVs l)) (h2 : w.ownsRow bb 51 2 (.slice B l.length d) l.length (spanVs l)) (hm : l.length ≤ 66) :
    Calls Tryz.prog 33 #[.slice A l.length c, .slice B l.length d] w fun e w' => e = .returned (.bool true) ∧ Below w.heap.size w w' := by
  go_enter Tryz.func33, Tryz.ntmps33
  go_wp2_with fail
  go_loopw [5] (fun i wr => ∃ k : Nat, k ≤ l.length ∧ i = .int .i64 (k : Int) ∧ Below w.heap.size w wr) (fun i _ => l.length - (intOf i).toNat)
  case atStart => exact ⟨0, by omega, rfl, Below.refl _ _⟩
  case round =>
    obtain ⟨k, hk, rfl, hb⟩ := hrel
    by_cases hlt : k < l.length
    · obtain ⟨g, rfl, _, hg, ⟨x0, y0⟩, ⟨x1, y1⟩⟩ := own_spanV (own_below h1 hb) hlt
      obtain ⟨g', rfl, _, hg', ⟨x2, y2⟩, ⟨x3, y3⟩⟩ := own_spanV (own_below h2 hb) hlt
      generalize l[k].1 = x at *
      generalize l[k].2 = y at *
      have j0 : 0 ≤ (k : Int) := by omega
      have j1 : (k : Int) < (l.length : Int) := by omega
      have t1 : ((x : Int) != (x : Int)) = false := by simp
      have hd : Below w.heap.size w wr.drew := below_drewN hb 1
      have HD := Lib.hid hd
      clear hd h1 h2
      go_wp2_with fail
      go_region
      all_goals go_wp2_with fail
      exact ⟨⟨k + 1, by omega, by go_num, HD.out⟩, by simp [intOf]; omega⟩
    · obtain rfl : k = l.length := by omega
      clear h1 h2
      go_wp2_with fail
      go_ret
      exact ⟨rfl, hb⟩
theorem fir_all (a : Al) (ns : List Nd) (s : ByteArray) : firM a ns s = ((allM a ns s).1.head?, (allM a ns s).2) := by
  unfold firM allM
  split <;> rfl
theorem all_no {a : Al} {ns : List Nd} {s : ByteArray} (h : (allM a ns s).2 ≠ 0) : (allM a ns s).1 = [] := by
  unfold allM at *
  split
  · rfl
  · rename_i h2
    rw [if_neg h2] at h
    exact absurd rfl h
theorem head_none {l : List (Nat × Nat)} (h : l.length = 0) : l.head? = none := by
  rw [List.eq_nil_of_length_eq_zero h]
  rfl
theorem head_some {l : List (Nat × Nat)} (h : 0 < l.length) : l.head? = some l[0] := by
  match l, h with
  | x :: r, _ => rfl
set_option maxHeartbeats 8000000 in
set_option maxRecDepth 100000 in
theorem rfirst_any (A1 A2 An : Option Addr) (c1 c2 cn : Nat) (a : Al) (ns : List Nd) (s : ByteArray) (w : World) (hin : AlIn w 0 w.heap.size A1 A2 a) (hT : Utf8Tabs 0 1 w) (hns : Sl 5 vNd w 0 w.heap.size An ns) (hm : ns.length ≤ 9223372036854775807) (hs : s.size ≤ maxLen) :
    Calls Tryz.prog 31 #[.agg #[.slice A1 a.feats.length c1, .slice A2 a.lets.length c2], .agg #[.slice An ns.length cn], .string s] w (FirOut (firM a ns s) w) := by
  obtain ⟨W0, hW0⟩ : ∃ W0, W0 = ((w.alloc (.cells #[.slice A1 a.feats.length c1, .slice A2 a.lets.length c2] 25)).alloc (.cells #[.slice An ns.length cn] 28)).alloc (.cells #[.int .i64 0, .int .i64 0] 51) := ⟨_, rfl⟩
  have hal : Below w.heap.size w W0 := by rw [hW0]; exact (((Below.refl _ _).alloc (Nat.le_refl _) _).alloc (by simp) _).alloc (by simp; omega) _
  have hp0 : Row W0 (w.heap.size + 1 + 1) 51 [.int .i64 0, .int .i64 0] := by
    have h := Row.new ((w.alloc (.cells #[.slice A1 a.feats.length c1, .slice A2 a.lets.length c2] 25)).alloc (.cells #[.slice An ns.length cn] 28)) 51 [.int .i64 0, .int .i64 0]
    rw [hW0]
    simpa using h
  have hcall := Lib.hid (rall_any A1 A2 An c1 c2 cn a ns s W0 (hin.on hal) (Utf8Tabs_below hT hal) ((hns.below vNd_good hal (Nat.le_refl _)).wide vNd_good (Nat.le_refl _) hal.size) hm hs)
  have HNO := Lib.hid (all_no (a := a) (ns := ns) (s := s))
  have HAL := Lib.hid hal
  have HP0 := Lib.hid hp0
  have hB0 : w.heap.size + 1 + 1 < W0.heap.size := hp0.lt
  rw [fir_all]
  generalize allM a ns s = R at *
  obtain ⟨l, E⟩ := R
  simp only at HNO hcall ⊢
  clear hal hin hT hns hp0
  go_enter Tryz.func31, Tryz.ntmps31
  go_wp2_with fail
  rw [← hW0]
  clear hW0
  refine hcall.out.mono ?_
  rintro e w1 ⟨A, c, rfl, hown, hb1⟩
  have hbw := HAL.out.trans (hb1.mono HAL.out.size)
  have hp1 := HP0.out.below hb1 HP0.out.lt
  obtain ⟨c0, f0⟩ := hp1.cel (i := 0) rfl
  obtain ⟨c1', f1⟩ := hp1.cel (i := 1) rfl
  have hl1 := hp1.lt
  have HP1 := Lib.hid hp1
  have HBW := Lib.hid hbw
  have HOWN := Lib.hid hown
  have hws := hbw.size
  have HST := Lib.hid (fun (u v : Value) => (hbw.setCell (p := ⟨w.heap.size + 1 + 1, 0, none⟩) (by show w.heap.size ≤ w.heap.size + 1 + 1; omega) u).setCell (p := ⟨w.heap.size + 1 + 1, 1, none⟩) (by show w.heap.size ≤ w.heap.size + 1 + 1; omega) v)
  have HRW := Lib.hid (fun (u v : Value) => (hp1.set_ 0 u).set_ 1 v)
  clear hcall HAL hb1 HP0 hp1 hbw hown
  simp only
  by_cases hE : E = 0
  · subst hE
    by_cases h0 : l.length = 0
    · have hh := head_none h0
      have h0' : ((l.length : Int) == 0) = true := by rw [beq_iff_eq]; omega
      have HFIN : Hid (FirOut (l.head?, 0) w (.returned (.tuple #[.agg #[.int .i64 0, .int .i64 0], .bool false, .int .i64 0])) ((w1.setCell ⟨w.heap.size + 1 + 1, 0, none⟩ (.int .i64 0)).setCell ⟨w.heap.size + 1 + 1, 1, none⟩ (.int .i64 0))) := by
        rw [hh]
        exact ⟨rfl, HST.out _ _⟩
      clear hh HNO HOWN
      go_wp2_with fail
      (try simp only [Exit.inBlock, Exit.then])
      refine bodyPost_ret (res_first rfl _ _ (w.heap.size + 1 + 1) _ _ rfl (HRW.out _ _)) rfl ?_
      exact HFIN.out
    · have hpos : 0 < l.length := Nat.pos_of_ne_zero h0
      obtain ⟨g, rfl, _, hg, ⟨x0, y0⟩, ⟨x1, y1⟩⟩ := own_spanV HOWN.out hpos
      have hh := head_some hpos
      have h0' : ((l.length : Int) == 0) = false := by rw [beq_eq_false_iff_ne]; omega
      have j1 : (0 : Int) < (l.length : Int) := by omega
      have hh2 : l.head? = some (l[0].1, l[0].2) := hh
      rw [Nat.zero_mul] at x0 x1
      clear hh y0 y1 f0 f1
      generalize l[0].1 = x at *
      generalize l[0].2 = y at *
      have HFIN : Hid (FirOut (l.head?, 0) w (.returned (.tuple #[.agg #[.int .i64 (x : Int), .int .i64 (y : Int)], .bool true, .int .i64 0])) ((w1.setCell ⟨w.heap.size + 1 + 1, 0, none⟩ (.int .i64 (x : Int))).setCell ⟨w.heap.size + 1 + 1, 1, none⟩ (.int .i64 (y : Int)))) := by
        rw [hh2]
        exact ⟨rfl, HST.out _ _⟩
      have f0 := (HP1.out.cel (i := 0) rfl).2
      have f1 := (HP1.out.cel (i := 1) rfl).2
      clear hh2 HNO HOWN
      go_wp2_with fail
      (try simp only [Exit.inBlock, Exit.then])
      refine bodyPost_ret (res_first rfl _ _ (w.heap.size + 1 + 1) _ _ rfl (HRW.out _ _)) rfl ?_
      exact HFIN.out
  · have hl := HNO.out hE
    subst hl
    have hne : (E != 0) = true := by rw [bne_iff_ne]; exact hE
    have HFIN : Hid (FirOut (([] : List (Nat × Nat)).head?, E) w (.returned (.tuple #[.agg #[.int .i64 0, .int .i64 0], .bool false, .int .i64 E])) ((w1.setCell ⟨w.heap.size + 1 + 1, 0, none⟩ (.int .i64 0)).setCell ⟨w.heap.size + 1 + 1, 1, none⟩ (.int .i64 0))) := ⟨rfl, HST.out _ _⟩
    clear HNO HOWN hE
    go_wp2_with fail
    (try simp only [Exit.inBlock, Exit.then])
    refine bodyPost_ret (res_first rfl _ _ (w.heap.size + 1 + 1) _ _ rfl (HRW.out _ _)) rfl ?_
    exact HFIN.out
end Go.Proofs.YtimhlnndobfehaaGreatDoor
