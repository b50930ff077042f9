/- The document's At, walked. -/
import Derived.Test.YtokdpfapakemmaaDoorRuneAt
import Derived.Test.YtokdpfapakemmaaDoorRow
import Derived.Test.YtokdpfapakemmaaDoorChecked
import Derived.Deep.DeepCutAuto
import Derived.Deep.CutBlock
import Derived.Laws.ResultCell
namespace Go.Proofs.YtokdpfapakemmaaDoor
open Go.RowKit
set_option linter.unusedVariables false

set_option maxHeartbeats 2000000 in
theorem tail_any (b : Int) (w : World) : Calls Tryd.prog 69 #[.int .u8 b] w fun e w' => e = .returned (.bool (decide (128 ≤ b ∧ b < 192))) ∧ w = w' := by
  go_enter Tryd.func69, Tryd.ntmps69
  go_wp2_with fail
  all_goals
    go_ret
    refine ⟨retb_of ?_, rfl⟩
    first | (rw [Bool.eq_iff_iff]; simp; omega) | (simp; omega)
set_option maxHeartbeats 2000000 in
theorem rune_ok (r : Int) (w : World) : Calls Tryd.prog 70 #[.int .i32 r] w fun e w' => e = .returned (.bool (decide ((0 ≤ r ∧ r < 55296) ∨ (57344 ≤ r ∧ r ≤ 1114111)))) ∧ w = w' := by
  go_enter Tryd.func70, Tryd.ntmps70
  go_wp2_with fail
  all_goals
    go_ret
    refine ⟨retb_of ?_, rfl⟩
    first | (rw [Bool.eq_iff_iff]; simp; omega) | (simp; done) | (simp; omega)

def vPc (p : Pc) : Value := .agg #[.int .i32 p.rune, .int .i64 p.at_, .int .i64 p.len, .bool p.broken]
theorem res_piece {fn : Func} {p : Tmp} (h : fn.results = #[.cell p 66]) (tmps : Array Value) (w : World) (g : Nat) (c0 c1 c2 c3 : Value) (hp : tmps.getD p undef = .pointer (some ⟨g, 0, none⟩)) (hg : Row w g 66 [c0, c1, c2, c3]) :
    (results fn tmps).run Tryd.prog w = .ok (.agg #[c0, c1, c2, c3]) w :=
  results_cell_row h tmps w g 66 #[c0, c1, c2, c3] (0, 0) _ hp hg Tryd.underlying66 rfl (by kernel_rfl)
theorem boxes2 (w : World) (t : TypeId) (l m : List Value) : Row ((w.alloc (.cells l.toArray t)).alloc (.cells m.toArray t)) w.heap.size t l ∧ Row ((w.alloc (.cells l.toArray t)).alloc (.cells m.toArray t)) (w.heap.size + 1) t m ∧ Below w.heap.size w ((w.alloc (.cells l.toArray t)).alloc (.cells m.toArray t)) := by
  refine ⟨(Row.new w t l).alloc _, ?_, ((Below.refl _ _).alloc (Nat.le_refl _) _).alloc (by simp) _⟩
  have h := Row.new (w.alloc (.cells l.toArray t)) t m
  simpa using h
def AtSt (w : World) (i : Nat) (p8 : Value) (wc : World) : Prop := ∃ b8, p8 = .pointer (some ⟨b8, 0, none⟩) ∧ w.heap.size < b8 ∧ Row wc b8 66 [.int .i32 65533, .int .i64 (i : Int), .int .i64 1, .bool true] ∧ Row wc w.heap.size 66 [.int .i32 0, .int .i64 0, .int .i64 0, .bool false] ∧ Below w.heap.size w wc

set_option maxHeartbeats 8000000 in
set_option maxRecDepth 2000000 in
theorem at_any (s : ByteArray) (i : Nat) (w : World) (hi : i < s.size) (hm' : s.size ≤ 4611686018427387904) :
    Calls Tryd.prog 45 #[.string s, .int .i64 (i : Int)] w fun e w' => e = .returned (vPc (pcAt s i)) ∧ Below w.heap.size w w' := by
  have hr0 := Row.new w 66 [.int .i32 0, .int .i64 0, .int .i64 0, .bool false]
  have hb0 : Below w.heap.size w (w.alloc (.cells #[.int .i32 0, .int .i64 0, .int .i64 0, .bool false] 66)) := (Below.refl _ _).alloc (Nat.le_refl _) _
  have HB := Lib.hid (bt_get s i hi)
  have hlt := bt_lt s i
  go_enter Tryd.func45, Tryd.ntmps45
  go_upto_region 2 with (fail)
  rw [HB.out]
  by_cases h128 : bt s i < 128
  · have HP := Lib.hid (pc_ascii h128)
    generalize bt s i = b at *
    go_wp2_with fail
    refine bodyPost_ret (res_piece rfl _ _ w.heap.size _ _ _ _ rfl (Row.new w 66 [.int .i32 (b : Int), .int .i64 (i : Int), .int .i64 1, .bool false])) rfl ?_
    rw [HP.out]
    exact ⟨rfl, by go_grown⟩
  · have HZ := Lib.hid (fun (L R : Nat) => @lead_zero s i R)
    have HS := Lib.hid (fun (L R : Nat) => @lead_short s i L R)
    have HT := Lib.hid (fun (L R : Nat) => @lead_tail s i L R)
    have HF := Lib.hid (fun (L R : Nat) => @lead_full s i L R)
    have h128 : 128 ≤ bt s i := by omega
    generalize bt s i = b at *
    go_upto_block 0 with (fail)
    go_cut [6, 7] (fun l r wc => (∃ L R : Nat, l = .int .i64 (L : Int) ∧ r = .int .i32 (R : Int) ∧ LeadOk b L R) ∧ (w.alloc (.cells #[.int .i32 0, .int .i64 0, .int .i64 0, .bool false] 66)) = wc)
    case first =>
      have hq : b < 192 ∨ (192 ≤ b ∧ b < 224) ∨ (224 ≤ b ∧ b < 240) ∨ (240 ≤ b ∧ b < 248) ∨ 248 ≤ b := by omega
      rcases hq with h | h | h | h | h
      · go_wp2_with fail
        go_meet
        case rel => exact ⟨⟨0, 0, rfl, rfl, by unfold LeadOk; omega⟩, rfl⟩
      · go_wp2_with fail
        go_meet
        case rel => exact ⟨⟨2, b - 192, rfl, by go_num, by unfold LeadOk; omega⟩, rfl⟩
      · go_wp2_with fail
        go_meet
        case rel => exact ⟨⟨3, b - 224, rfl, by go_num, by unfold LeadOk; omega⟩, rfl⟩
      · go_wp2_with fail
        go_meet
        case rel => exact ⟨⟨4, b - 240, rfl, by go_num, by unfold LeadOk; omega⟩, rfl⟩
      · go_wp2_with fail
        go_meet
        case rel => exact ⟨⟨0, 0, rfl, rfl, by unfold LeadOk; omega⟩, rfl⟩
    case rest =>
    obtain ⟨⟨L, R, rfl, rfl, hlead⟩, rfl⟩ := hcut
    go_upto_region 16 with (fail)
    obtain ⟨hrA, hrB, hb2⟩ := boxes2 w 66 [.int .i32 0, .int .i64 0, .int .i64 0, .bool false] [.int .i32 65533, .int .i64 (i : Int), .int .i64 1, .bool true]
    generalize hW : (w.alloc (.cells #[.int .i32 0, .int .i64 0, .int .i64 0, .bool false] 66)).alloc (.cells #[.int .i32 65533, .int .i64 (i : Int), .int .i64 1, .bool true] 66) = W2 at *
    have hbadRow := (((hrA.set_ 0 (.int .i32 65533)).set_ 1 (.int .i64 (i : Int))).set_ 2 (.int .i64 1)).set_ 3 (.bool true)
    have hbadB : Below w.heap.size w ((((W2.setCell ⟨w.heap.size, 0, none⟩ (.int .i32 65533)).setCell ⟨w.heap.size, 1, none⟩ (.int .i64 (i : Int))).setCell ⟨w.heap.size, 2, none⟩ (.int .i64 1)).setCell ⟨w.heap.size, 3, none⟩ (.bool true)) :=
      (((hb2.setCell (Nat.le_refl _) _).setCell (Nat.le_refl _) _).setCell (Nat.le_refl _) _).setCell (Nat.le_refl _) _
    obtain ⟨a0, x0⟩ := hrA.cel (i := 0) rfl
    obtain ⟨a1, x1⟩ := hrA.cel (i := 1) rfl
    obtain ⟨a2, x2⟩ := hrA.cel (i := 2) rfl
    obtain ⟨a3, x3⟩ := hrA.cel (i := 3) rfl
    obtain ⟨b0, y0⟩ := hrB.cel (i := 0) rfl
    obtain ⟨b1, y1⟩ := hrB.cel (i := 1) rfl
    obtain ⟨b2, y2⟩ := hrB.cel (i := 2) rfl
    obtain ⟨b3, y3⟩ := hrB.cel (i := 3) rfl
    clear hr0 hb0 hW
    by_cases hL0 : L = 0
    · subst hL0
      have HP := Lib.hid (pc_bad (HZ.out 0 R hlead h128))
      clear HZ HS HT HF
      go_wp2_with fail
      refine bodyPost_ret (res_piece rfl _ _ w.heap.size _ _ _ _ rfl hbadRow) rfl ?_
      rw [HP.out]
      exact ⟨rfl, hbadB⟩
    · have hR : R < 32 ∧ 2 ≤ L ∧ L ≤ 4 := by unfold LeadOk at hlead; omega
      obtain ⟨hR1, hR2, hR3⟩ := hR
      have e0 : ((L : Int) == 0) = false := by rw [beq_eq_false_iff_ne]; omega
      by_cases hsh : s.size < i + L
      · have HP := Lib.hid (pc_bad (HS.out L R hlead h128 hsh hi))
        clear HZ HS HT HF
        go_wp2_with fail
        refine bodyPost_ret (res_piece rfl _ _ w.heap.size _ _ _ _ rfl hbadRow) rfl ?_
        rw [HP.out]
        exact ⟨rfl, hbadB⟩
      · clear HZ HS
        go_upto_block 1 with (fail)
        go_cut [7] (fun r wc => (∃ A : Nat, r = .int .i32 (A : Int) ∧ A ≤ 8388607 ∧ Hid (Utf8.decode s i = if A < leastOf L ∨ ¬ (A < 55296 ∨ (57344 ≤ A ∧ A ≤ 1114111)) then (65533, 1) else (A, L))) ∧ W2 = wc)
        case first =>
          go_wp2_with fail
          go_loopw [7, 9] (fun r k wr => ∃ q : Nat, q < L ∧ k = .int .i64 ((q : Int) + 1) ∧ r = .int .i32 (accR s i R q : Int) ∧ Hid (∀ j, 1 ≤ j → j ≤ q → 128 ≤ bt s (i + j) ∧ bt s (i + j) < 192) ∧ W2 = wr) (fun _ k _ => L - (intOf k).toNat)
          case atStart => exact ⟨0, by omega, rfl, rfl, by show ∀ _, _; intro j h1 h2; omega, rfl⟩
          case round =>
            obtain ⟨q, hq, rfl, rfl, htl, rfl⟩ := hrel
            have hacc := accR_lt s i R hR1 q (by omega) htl.out
            have HA : Hid (accR s i R (q + 1) = 64 * accR s i R q + (bt s (i + (q + 1)) - 128)) := rfl
            generalize hA : accR s i R q = A at *
            by_cases hlt : q + 1 < L
            · have hin : i + (q + 1) < s.size := by omega
              have HBq := Lib.hid (bt_get s (i + (q + 1)) hin)
              have hblt := bt_lt s (i + (q + 1))
              by_cases htb : 128 ≤ bt s (i + (q + 1)) ∧ bt s (i + (q + 1)) < 192
              · have hx1 : 128 ≤ (s[i + (q + 1)]'hin).toNat := by rw [HBq.out]; exact htb.1
                have hx2 : (s[i + (q + 1)]'hin).toNat < 192 := by rw [HBq.out]; exact htb.2
                have hd : decide (128 ≤ ((s[i + (q + 1)]'hin).toNat : Int) ∧ ((s[i + (q + 1)]'hin).toNat : Int) < 192) = true := by rw [decide_eq_true_eq]; omega
                have hv : Hid (Value.int .i32 (64 * (A : Int) + (((s[i + (q + 1)]'hin).toNat : Int) - 128)) = Value.int .i32 (accR s i R (q + 1) : Int)) := by
                  show _ = _
                  rw [HA.out, ← HBq.out]
                  congr 1
                  omega
                have htl2 : Hid (∀ j, 1 ≤ j → j ≤ q + 1 → 128 ≤ bt s (i + j) ∧ bt s (i + j) < 192) := by
                  intro j h1 h2
                  by_cases hj : j ≤ q
                  · exact htl.out j h1 hj
                  · obtain rfl : j = q + 1 := by omega
                    exact htb
                clear HA HT HF htl hA
                go_wp2_with fail
                refine (tail_any _ _).mono ?_
                rintro e w' ⟨rfl, rfl⟩
                rw [hd]
                go_wp2_with fail
                exact ⟨⟨q + 1, by omega, by go_num, by first | exact hv.out | (rw [← hv.out]; go_num), htl2, trivial⟩, by simp [intOf]; omega⟩
              · have HP := Lib.hid (pc_bad (HT.out L R hlead h128 (show 1 ≤ q + 1 by omega) hlt htb))
                have hd : decide (128 ≤ ((s[i + (q + 1)]'hin).toNat : Int) ∧ ((s[i + (q + 1)]'hin).toNat : Int) < 192) = false := by rw [decide_eq_false_iff_not, HBq.out]; omega
                clear HA HT HF htl hA
                go_wp2_with fail
                refine (tail_any _ _).mono ?_
                rintro e w' ⟨rfl, rfl⟩
                rw [hd]
                go_wp2_with fail
                refine bodyPost_ret (res_piece rfl _ _ w.heap.size _ _ _ _ rfl hbadRow) rfl ?_
                rw [HP.out]
                exact ⟨rfl, hbadB⟩
            · obtain rfl : L = q + 1 := by omega
              have hdec := HF.out (q + 1) R hlead h128 hR2 (by omega) (by
                intro j h1 h2
                exact htl.out j h1 (by omega))
              rw [show q + 1 - 1 = q from rfl, hA] at hdec
              clear HA HT HF htl hA
              have HDEC := Lib.hid hdec
              clear hdec
              go_wp2_with fail
              go_meet
              case rel => exact ⟨⟨A, rfl, hacc, HDEC⟩, rfl⟩
        case rest =>
        obtain ⟨⟨A, rfl, hacc, HDEC⟩, rfl⟩ := hcut
        have hl1 := hrA.lt
        have hl2 := hrB.lt
        have hbadRow3 := Lib.hid (((((hrA.set_ 0 (.int .i32 65533)).set_ 1 (.int .i64 (i : Int))).set_ 2 (.int .i64 1)).set_ 3 (.bool true)).alloc (.cells #[.int .i32 0, .int .i32 0, .int .i32 128, .int .i32 2048, .int .i32 65536] 21))
        have hbadB3 := Lib.hid (((((hb2.setCell (p := ⟨w.heap.size, 0, none⟩) (Nat.le_refl _) (.int .i32 65533)).setCell (p := ⟨w.heap.size, 1, none⟩) (Nat.le_refl _) (.int .i64 (i : Int))).setCell (p := ⟨w.heap.size, 2, none⟩) (Nat.le_refl _) (.int .i64 1)).setCell (p := ⟨w.heap.size, 3, none⟩) (Nat.le_refl _) (.bool true)).alloc (by simp; omega) (.cells #[.int .i32 0, .int .i32 0, .int .i32 128, .int .i32 2048, .int .i32 65536] 21))
        have hokRow3 := Lib.hid (fun (LL : Int) => ((((hrA.set_ 0 (.int .i32 (A : Int))).set_ 1 (.int .i64 (i : Int))).set_ 2 (.int .i64 LL)).set_ 3 (.bool false)).alloc (.cells #[.int .i32 0, .int .i32 0, .int .i32 128, .int .i32 2048, .int .i32 65536] 21))
        have hokB3 := Lib.hid (fun (LL : Int) => ((((hb2.setCell (p := ⟨w.heap.size, 0, none⟩) (Nat.le_refl _) (.int .i32 (A : Int))).setCell (p := ⟨w.heap.size, 1, none⟩) (Nat.le_refl _) (.int .i64 (i : Int))).setCell (p := ⟨w.heap.size, 2, none⟩) (Nat.le_refl _) (.int .i64 LL)).setCell (p := ⟨w.heap.size, 3, none⟩) (Nat.le_refl _) (.bool false)).alloc (by simp; omega) (.cells #[.int .i32 0, .int .i32 0, .int .i32 128, .int .i32 2048, .int .i32 65536] 21))
        have HRV : Hid (∀ v : Bool, decide (A < 55296 ∨ (57344 ≤ A ∧ A ≤ 1114111)) = v → ∀ wx, Calls Tryd.prog 70 #[.int .i32 (A : Int)] wx fun e w' => e = .returned (.bool v) ∧ wx = w') := by
          intro v hv wx
          have h := rune_ok (A : Int) wx
          rw [show decide ((0 ≤ (A : Int) ∧ (A : Int) < 55296) ∨ (57344 ≤ (A : Int) ∧ (A : Int) ≤ 1114111)) = decide (A < 55296 ∨ (57344 ≤ A ∧ A ≤ 1114111)) by rw [Bool.eq_iff_iff, decide_eq_true_eq, decide_eq_true_eq]; omega, hv] at h
          exact h
        have HL : Hid (L = 2 ∨ L = 3 ∨ L = 4) := by show _ ∨ _; omega
        have hpg := Lib.hid (@pc_good s i A L)
        have hpb := Lib.hid (@pc_bad s i)
        clear hbadRow hbadB hrA hb2 hrB HT HF hL0 hsh hlead hR1 hR2 hR3 e0 HB hlt h128 hi
        generalize hQ : leastOf L = c at *
        rcases HL.out with rfl | rfl | rfl
        · obtain rfl : c = 128 := by rw [← hQ]; rfl
          clear hQ HL
          by_cases hlow : A < 128
          · have HP := Lib.hid (hpb.out (by rw [HDEC.out, if_pos (.inl hlow)]))
            clear HDEC hpg hpb HRV
            go_wp2_with fail
            refine bodyPost_ret (res_piece rfl _ _ w.heap.size _ _ _ _ rfl hbadRow3.out) rfl ?_
            rw [HP.out]
            exact ⟨rfl, hbadB3.out⟩
          · cases hv : decide (A < 55296 ∨ (57344 ≤ A ∧ A ≤ 1114111)) with
            | false =>
              have HRU := Lib.hid (HRV.out false hv)
              have HP := Lib.hid (hpb.out (by rw [HDEC.out, if_pos (.inr (of_decide_eq_false hv))]))
              clear HDEC hpg hpb HRV hv
              go_wp2_with fail
              refine (HRU.out _).mono ?_
              rintro e w' ⟨rfl, rfl⟩
              go_wp2_with fail
              refine bodyPost_ret (res_piece rfl _ _ w.heap.size _ _ _ _ rfl hbadRow3.out) rfl ?_
              rw [HP.out]
              exact ⟨rfl, hbadB3.out⟩
            | true =>
              have HRU := Lib.hid (HRV.out true hv)
              have HP := Lib.hid (hpg.out (by rw [HDEC.out, if_neg (by have := of_decide_eq_true hv; rintro (h | h); exact hlow h; exact h this)]) (by decide))
              clear HDEC hpg hpb HRV hv
              go_wp2_with fail
              refine (HRU.out _).mono ?_
              rintro e w' ⟨rfl, rfl⟩
              go_wp2_with fail
              refine bodyPost_ret (res_piece rfl _ _ w.heap.size _ _ _ _ rfl (hokRow3.out 2)) rfl ?_
              rw [HP.out]
              exact ⟨rfl, hokB3.out 2⟩
        · obtain rfl : c = 2048 := by rw [← hQ]; rfl
          clear hQ HL
          by_cases hlow : A < 2048
          · have HP := Lib.hid (hpb.out (by rw [HDEC.out, if_pos (.inl hlow)]))
            clear HDEC hpg hpb HRV
            go_wp2_with fail
            refine bodyPost_ret (res_piece rfl _ _ w.heap.size _ _ _ _ rfl hbadRow3.out) rfl ?_
            rw [HP.out]
            exact ⟨rfl, hbadB3.out⟩
          · cases hv : decide (A < 55296 ∨ (57344 ≤ A ∧ A ≤ 1114111)) with
            | false =>
              have HRU := Lib.hid (HRV.out false hv)
              have HP := Lib.hid (hpb.out (by rw [HDEC.out, if_pos (.inr (of_decide_eq_false hv))]))
              clear HDEC hpg hpb HRV hv
              go_wp2_with fail
              refine (HRU.out _).mono ?_
              rintro e w' ⟨rfl, rfl⟩
              go_wp2_with fail
              refine bodyPost_ret (res_piece rfl _ _ w.heap.size _ _ _ _ rfl hbadRow3.out) rfl ?_
              rw [HP.out]
              exact ⟨rfl, hbadB3.out⟩
            | true =>
              have HRU := Lib.hid (HRV.out true hv)
              have HP := Lib.hid (hpg.out (by rw [HDEC.out, if_neg (by have := of_decide_eq_true hv; rintro (h | h); exact hlow h; exact h this)]) (by decide))
              clear HDEC hpg hpb HRV hv
              go_wp2_with fail
              refine (HRU.out _).mono ?_
              rintro e w' ⟨rfl, rfl⟩
              go_wp2_with fail
              refine bodyPost_ret (res_piece rfl _ _ w.heap.size _ _ _ _ rfl (hokRow3.out 3)) rfl ?_
              rw [HP.out]
              exact ⟨rfl, hokB3.out 3⟩
        · obtain rfl : c = 65536 := by rw [← hQ]; rfl
          clear hQ HL
          by_cases hlow : A < 65536
          · have HP := Lib.hid (hpb.out (by rw [HDEC.out, if_pos (.inl hlow)]))
            clear HDEC hpg hpb HRV
            go_wp2_with fail
            refine bodyPost_ret (res_piece rfl _ _ w.heap.size _ _ _ _ rfl hbadRow3.out) rfl ?_
            rw [HP.out]
            exact ⟨rfl, hbadB3.out⟩
          · cases hv : decide (A < 55296 ∨ (57344 ≤ A ∧ A ≤ 1114111)) with
            | false =>
              have HRU := Lib.hid (HRV.out false hv)
              have HP := Lib.hid (hpb.out (by rw [HDEC.out, if_pos (.inr (of_decide_eq_false hv))]))
              clear HDEC hpg hpb HRV hv
              go_wp2_with fail
              refine (HRU.out _).mono ?_
              rintro e w' ⟨rfl, rfl⟩
              go_wp2_with fail
              refine bodyPost_ret (res_piece rfl _ _ w.heap.size _ _ _ _ rfl hbadRow3.out) rfl ?_
              rw [HP.out]
              exact ⟨rfl, hbadB3.out⟩
            | true =>
              have e92 : decide ((A : Int) < 65536) = false := by rw [decide_eq_false_iff_not]; omega
              have e93 : ¬ (A : Int) < 65536 := by omega
              have HRU := Lib.hid (HRV.out true hv)
              have HP := Lib.hid (hpg.out (by rw [HDEC.out, if_neg (by have := of_decide_eq_true hv; rintro (h | h); exact hlow h; exact h this)]) (by decide))
              clear HDEC hpg hpb HRV hv
              go_wp2_with fail
              refine (HRU.out _).mono ?_
              rintro e w' ⟨rfl, rfl⟩
              clear hacc
              go_wp2_with fail
              refine bodyPost_ret (res_piece rfl _ _ w.heap.size _ _ _ _ rfl (hokRow3.out 4)) rfl ?_
              rw [HP.out]
              exact ⟨rfl, hokB3.out 4⟩
end Go.Proofs.YtokdpfapakemmaaDoor
