/- WordSyllables: the statement's walk. -/
import Derived.Test.YtfjccjjdgbkbiaaDoorWs20
import Derived.Test.YtfjccjjdgbkbiaaDoorWs26
import Derived.Test.YtfjccjjdgbkbiaaDoorWs27
import Derived.Test.YtfjccjjdgbkbiaaDoorWs29
namespace Go.Proofs.YtfjccjjdgbkbiaaDoor
open Go.RowKit
open Go.Lib (Utf8Tabs)
set_option linter.unusedVariables false

/-- Some letters, numbers and spans in rows of their own. -/
structure TriSt (w : World) (X Y Z : Option Addr) (cx cy cz bx pb bz : Nat) (l : List Int) (pk : List Nat) (sp : List (Nat × Nat)) : Prop where
  x : w.ownsRow bx 21 1 (.slice X l.length cx) l.length (runeVs l)
  y : w.ownsRow pb 3 1 (.slice Y pk.length cy) pk.length (intVs pk)
  z : w.ownsRow bz 48 2 (.slice Z sp.length cz) sp.length (spVs sp)
theorem TriSt.on {w w' : World} {X Y Z : Option Addr} {cx cy cz bx pb bz : Nat} {l : List Int} {pk : List Nat} {sp : List (Nat × Nat)} (h : TriSt w X Y Z cx cy cz bx pb bz l pk sp) (hb : Below w.heap.size w w') : TriSt w' X Y Z cx cy cz bx pb bz l pk sp :=
  ⟨own_below h.x hb, own_below h.y hb, own_below h.z hb⟩

set_option maxHeartbeats 8000000 in
set_option maxRecDepth 100000 in
theorem syls_walk (A1 A2 : Option Addr) (c1 c2 : Nat) (a : Al) (s : ByteArray) (p m : Nat) (w : World) (hin : AlIn w 0 w.heap.size A1 A2 a) (hT : Utf8Tabs 0 1 w)
    (hm : s.size ≤ maxLen) (hp : p < 4294967296) (hmm : m < 4294967296) :
    Calls Tryd.prog 6 #[.agg #[.slice A1 a.feats.length c1, .slice A2 a.lets.length c2], .string s, .int .u32 (p : Int), .int .u32 (m : Int)] w fun e w' => e = .returned (.bool true) ∧ Below w.heap.size w w' := by
  have hs0 := LSt.new A1 A2 c1 c2 a w hin hT
  have HL1 := Lib.hid (fun (wx : World) (h : LSt A1 A2 c1 c2 a w wx) => letters_any A1 A2 c1 c2 0 a s wx h.al h.tabs hm)
  have HP1 := Lib.hid (fun (wx : World) (h : LSt A1 A2 c1 c2 a w wx) => peaks_any A1 A2 c1 c2 0 a s p m wx h.al h.tabs hm hp hmm)
  have HS1 := Lib.hid (fun (wx : World) (h : LSt A1 A2 c1 c2 a w wx) => syl_any A1 A2 c1 c2 0 a s p m wx h.al h.tabs hm hp hmm)
  have HH := Lib.hid (fun (r : Int) (hr : -2147483648 ≤ r ∧ r ≤ 2147483647) (wx : World) (h : LSt A1 A2 c1 c2 a w wx) => has_any A1 A2 c1 c2 0 a r p m wx h.al hr hp hmm)
  have HAW := Lib.hid (fun (wx : World) (h : LSt A1 A2 c1 c2 a w wx) => awake_any wx h.tabs)
  have hpe := peaks_err a s p m
  have hsyl : sylS a s p m = if (peaksS a s p m).2 ≠ 0 then ([], (peaksS a s p m).2) else (spansL (peaksS a s p m).1 (lettersS a s).1.length, 0) := rfl
  have hup := (peaks_up a s p m).1
  have hp64 := (peaks_up a s p m).2.2
  have hl64 := letters_len a s
  have hin1 := peaks_in a s p m
  have hhas := fun h i hi => @has_peak a s p m h i hi
  have hli := fun i hi => @letters_in a s i hi
  rw [hsyl] at HS1
  generalize peaksS a s p m = P at *
  generalize lettersS a s = L at *
  obtain ⟨pk, E⟩ := P
  obtain ⟨l, F⟩ := L
  simp only at hpe hup hp64 hl64 hin1 hhas hli HS1
  have hF : E = 0 → F = 0 := fun h => hpe.elim (fun x => x.2) (fun x => absurd h x.1)
  clear hsyl hin hT
  by_cases hE : E = 0
  · subst hE
    have hF0 := hF rfl
    subst hF0
    clear hF
    rw [if_neg (by simp)] at HS1
    have hin2 := hin1 rfl
    have hhas2 := hhas rfl
    clear hin1 hhas
    have hsf : ∀ i (h : i < pk.length), bndN pk l.length i ≤ pk[i] ∧ pk[i] < bndN pk l.length (i + 1) ∧ (0 < i → pk[i] ≤ bndN pk l.length i + 1) := fun i h => span_facts hup hin2 h
    have hsl : (spansL pk l.length).length = pk.length := spansL_len pk l.length
    have hsa : ∀ i (h : i < pk.length) (h' : i < (spansL pk l.length).length), (spansL pk l.length)[i] = (bndN pk l.length i, bndN pk l.length (i + 1)) := fun i h h' => spansL_at h h'
    have hb0 : bndN pk l.length 0 = 0 := by unfold bndN; split; rfl; rw [if_pos (by omega)]
    have hbe : pk.length ≠ 0 → bndN pk l.length pk.length = l.length := fun h => by unfold bndN; rw [if_neg (by omega), if_neg h]
    generalize spansL pk l.length = sp at *
    generalize bndN pk l.length = bn at *
    have HHAS := Lib.hid hhas2
    have HLI := Lib.hid hli
    have HSF := Lib.hid hsf
    have HSA := Lib.hid hsa
    have HPL := Lib.hid (fun i (h : i < pk.length) => hin2 _ (List.getElem_mem h))
    have HSLN := Lib.hid hsl
    have HB0 := Lib.hid hb0
    have HBE := Lib.hid hbe
    have hln : (pk.length : Int) = (sp.length : Int) := by rw [hsl]
    clear hhas2 hli hsf hsa hsl hb0 hbe hup hin2 hpe
    go_enter Tryd.func6, Tryd.ntmps6
    go_wp2_with fail
    refine (HAW.out _ hs0).mono ?_
    rintro e w1 ⟨rfl, hb1⟩
    have hs1 := hs0.on hb1
    have hl1 := hs1.row.lt
    obtain ⟨hr1, _⟩ := hs1.row.cel (i := 0) rfl
    obtain ⟨hq1, _⟩ := hs1.row.cel (i := 1) rfl
    clear hb1 hs0 HAW
    go_wp2_with fail
    refine (HL1.out _ hs1).mono ?_
    rintro e w2 ⟨X, cx, rfl, hx2, hb2⟩
    have hs2 := hs1.on hb2
    have hl2 := hs2.row.lt
    obtain ⟨hr2, _⟩ := hs2.row.cel (i := 0) rfl
    obtain ⟨hq2, _⟩ := hs2.row.cel (i := 1) rfl
    clear hs1 hr1 hq1
    go_wp2_with fail
    refine (HP1.out _ hs2).mono ?_
    rintro e w3 ⟨Y, cy, rfl, hy3, hb3⟩
    have hs3 := hs2.on hb3
    have hl3 := hs3.row.lt
    obtain ⟨hr3, _⟩ := hs3.row.cel (i := 0) rfl
    obtain ⟨hqq3, _⟩ := hs3.row.cel (i := 1) rfl
    clear hs2 hr2 hq2
    go_wp2_with fail
    refine (HS1.out _ hs3).mono ?_
    rintro e w4 ⟨Z, cz, rfl, hz4, hb4⟩
    have hs4 := hs3.on hb4
    have htri : TriSt w4 X Y Z cx cy cz w1.heap.size w2.heap.size w3.heap.size l pk sp := ⟨own_below (own_below hx2 hb3) hb4, own_below hy3 hb4, hz4⟩
    have HTR := Lib.hid htri
    have HS4 := Lib.hid hs4
    clear htri hs3 hs4 hr3 hqq3 hz4 hb4 hb3 hb2 hl1 hl2 hl3 HL1 HP1 HS1 hx2 hy3
    go_wp2_with fail
    go_loopw [16] (fun i wr => ∃ k : Nat, k ≤ l.length ∧ i = .int .i64 (k : Int) ∧ Hid (Below w4.heap.size w4 wr)) (fun i _ => l.length - (intOf i).toNat)
    case atStart => exact ⟨0, by omega, rfl, Below.refl _ _⟩
    case round =>
      obtain ⟨k, hk, rfl, hB⟩ := hrel
      by_cases hlt : k < l.length
      · obtain ⟨gx, ex, _, hgx, ⟨x0, y0⟩⟩ := own_rune (HTR.out.on hB.out).x hlt
        have hkk := HLI.out k hlt
        have hhk := HHAS.out k hlt
        have hsr := HS4.out.on hB.out
        have HC := Lib.hid (fun (wx : World) (hx : Below wr.heap.size wr wx) => And.intro (And.intro ((hsr.on hx).row.cel (i := 0) rfl).1 ((hsr.on hx).row.cel (i := 1) rfl).1) ((own_cel (w := wx) (g := gx) (by have := (HTR.out.on hB.out).on hx; rw [← ex]; exact this.x) (j := k) (u := .int .i32 l[k]) (by unfold runeVs; rw [List.getElem?_map, List.getElem?_eq_getElem hlt]; rfl)).1))
        have K1 : Hid (∀ wx, Below wr.heap.size wr wx → Calls Tryd.prog 29 #[.agg #[.slice A1 a.feats.length c1, .slice A2 a.lets.length c2], .int .i32 l[k], .int .u32 (p : Int), .int .u32 (m : Int)] wx fun e w' => e = .returned (.tuple #[.bool (decide (k ∈ pk)), .int .i64 0]) ∧ Below wr.heap.size wr w') := by
          intro wx hx
          refine (HH.out l[k] hkk wx (hsr.on hx)).mono ?_
          rintro e w' ⟨rfl, hy⟩
          rw [hhk]
          exact ⟨rfl, hx.trans (hy.mono hx.size)⟩
        have hd : Below wr.heap.size wr wr.drew := below_drewN (Below.refl _ _) 1
        have hmid : decide (k ∈ pk.take 0) = false := by simp
        have HMID := Lib.hid hmid
        have HSR := Lib.hid hsr
        have b1 : (k : Int) < (l.length : Int) := by omega
        have b2 : 0 ≤ (k : Int) := by omega
        subst ex
        generalize l[k] = v at *
        clear hkk hhk hsr hmid x0 y0 HS4
        go_upto_region 14 with (fail)
        refine wp_region_class (fun wx => Below wr.heap.size wr wx) (by kernel_rfl) (by kernel_rfl) hd ?_
        repeat (first
          | go_big_quiet_skip
          | (go_big_quiet_want; go_big_quiet_op; first
              | go_big_quiet_on
              | (apply Exists.intro
                 refine ⟨fun wx hx => ?_, ?_⟩
                 · (first
                    | exact rfl
                    | (have e1 := (HC.out wx hx).1.1; have e2 := (HC.out wx hx).1.2; simp only [e1, e2, Result.andThen]; exact ⟨trivial, rfl⟩)
                    | (have e3 := (HC.out wx hx).2; simp only [e3, Result.andThen]; exact ⟨trivial, rfl⟩)
                    | (go_at_call 29; with_reducible exact K1.out wx hx))
                 go_big_quiet_on)))
        refine wpQuiet_nil ?_
        intro w5 hq
        clear HC K1 hd b1 b2
        have hB5 := hB.out.trans (hq.mono hB.out.size)
        have hyrow := (HTR.out.on hB5).y
        have HB5 := Lib.hid hB5
        have HEND : Hid (decide (k ∈ pk) = decide (k ∈ pk.take pk.length)) := by show _ = _; rw [List.take_length]
        generalize decide (k ∈ pk) = D at *
        clear hB5 hq hB HSR hln
        go_wp2_with fail
        obtain ⟨w6, rfl⟩ : ∃ w6 : World, w6 = w5 := ⟨_, rfl⟩
        go_loop [19, 20] (fun b j => ∃ (q : Nat) (B : Bool), q ≤ pk.length ∧ j = .int .i64 (q : Int) ∧ b = .bool B ∧ Hid (decide (k ∈ pk.take q) = B)) (fun _ j => pk.length - (intOf j).toNat)
        case atStart => exact ⟨0, false, by omega, rfl, rfl, HMID.out⟩
        case round =>
          obtain ⟨q, B, hq, rfl, rfl, hBq⟩ := hrel
          by_cases hlq : q < pk.length
          · obtain ⟨gy, ey, _, hgy, ⟨x0, y0⟩⟩ := own_int hyrow hlq
            subst ey
            have hst := mem_take_step (i := k) hlq
            rw [hBq.out] at hst
            have b3 : (q : Int) < (pk.length : Int) := by omega
            have b4 : 0 ≤ (q : Int) := by omega
            cases B with
            | true =>
              have HN : Hid (decide (k ∈ pk.take (q + 1)) = true) := by show _ = _; rw [hst, Bool.true_or]
              clear hst hBq hyrow HEND HMID
              go_wp2_with fail
              exact ⟨⟨q + 1, true, by omega, by go_num, rfl, HN⟩, by simp [intOf]; omega⟩
            | false =>
              rw [Bool.false_or] at hst
              generalize pk[q] = z at *
              by_cases hzk : z = k
              · have HN : Hid (decide (k ∈ pk.take (q + 1)) = true) := by show _ = _; rw [hst, decide_eq_true hzk]
                have heq : ((z : Int) == (k : Int)) = true := by rw [beq_iff_eq]; omega
                clear hst hBq hyrow HEND HMID hzk
                go_wp2_with fail
                exact ⟨⟨q + 1, true, by omega, by go_num, rfl, HN⟩, by simp [intOf]; omega⟩
              · have HN : Hid (decide (k ∈ pk.take (q + 1)) = false) := by show _ = _; rw [hst, decide_eq_false hzk]
                have heq : ((z : Int) == (k : Int)) = false := by rw [beq_eq_false_iff_ne]; omega
                clear hst hBq hyrow HEND HMID hzk
                go_wp2_with fail
                exact ⟨⟨q + 1, false, by omega, by go_num, rfl, HN⟩, by simp [intOf]; omega⟩
          · obtain rfl : q = pk.length := by omega
            have hBD : B = D := by rw [← hBq.out, ← HEND.out]
            subst hBD
            have hne : (B != B) = false := by simp
            have b3 : ¬ (pk.length : Int) < (pk.length : Int) := by omega
            clear hBq HEND HMID hyrow hlq
            go_wp2_with fail
            exact ⟨⟨k + 1, by omega, by go_num, HB5⟩, by simp [intOf]; omega⟩
      · obtain rfl : k = l.length := by omega
        have h0 : Hid ((bn 0 : Nat) = 0) := HB0.out
        have HST : Hid (∃ j : Nat, j ≤ sp.length ∧ Value.int .i64 0 = .int .i64 (j : Int) ∧ Value.int .i64 0 = .int .i64 (bn j : Int) ∧ Hid (Below w4.heap.size w4 wr)) := ⟨0, by omega, rfl, by rw [h0.out]; rfl, hB⟩
        clear HB0 h0 HHAS HLI HH
        go_wp2_with fail
        go_loopw [21, 22] (fun t i wr => ∃ j : Nat, j ≤ sp.length ∧ i = .int .i64 (j : Int) ∧ t = .int .i64 (bn j : Int) ∧ Hid (Below w4.heap.size w4 wr)) (fun _ i _ => sp.length - (intOf i).toNat)
        case atStart => exact HST.out
        case round =>
          clear HST
          obtain ⟨wo, rfl⟩ : ∃ wo : World, wo = wr := ⟨_, rfl⟩
          obtain ⟨j, hj, rfl, rfl, hB2⟩ := hrel
          have tri := HTR.out.on hB2.out
          have HBD := Lib.hid (fun n => below_drewN hB2.out n)
          by_cases hlj : j < sp.length
          · have hlp : j < pk.length := by rw [← HSLN.out]; exact hlj
            obtain ⟨gy, ey, _, hgy, ⟨x0, y0⟩⟩ := own_int tri.y hlp
            obtain ⟨gz, ez, _, hgz, ⟨x1, y1⟩, ⟨x2, y2⟩⟩ := own_span tri.z hlj
            have hsa := HSA.out j hlp hlj
            obtain ⟨f1, f2, f3⟩ := HSF.out j hlp
            rw [hsa] at x1 x2
            simp only at x1 x2
            subst ey ez
            have hz64 := HPL.out j hlp
            generalize hu : bn j = u at *
            generalize hv : bn (j + 1) = v at *
            generalize pk[j] = z at *
            have HU := Lib.hid hu
            have HV := Lib.hid hv
            have j1 : 0 ≤ (j : Int) := by omega
            have j2 : (j : Int) < (sp.length : Int) := by omega
            have j3 : (j : Int) < (pk.length : Int) := by omega
            have t1 : ((u : Int) != (u : Int)) = false := by simp
            have d1 : decide (z < u) = false := decide_eq_false (by omega)
            have d2 : decide (v ≤ z) = false := decide_eq_false (by omega)
            have d1' : decide ((z : Int) < (u : Int)) = false := decide_eq_false (by omega)
            have d2' : decide ((v : Int) ≤ (z : Int)) = false := decide_eq_false (by omega)
            have HT4 := Lib.hid tri
            clear hu hv hsa HSF HSA HBE HPL tri HTR HSLN hB2 hB
            by_cases hj0 : 0 < j
            · have f4 := f3 hj0
              have hw : IntKind.i64.wrap ((z : Int) - (u : Int)) = (z : Int) - (u : Int) := IntWalk.i64_in _ (by omega)
              have d3 : decide (0 < j) = true := decide_eq_true hj0
              have d3' : decide (0 < (j : Int)) = true := decide_eq_true (by omega)
              have d4 : decide (1 < (z : Int) - (u : Int)) = false := decide_eq_false (by omega)
              clear f3 f4 f1 f2
              go_upto_region 26 with (fail)
              go_quiet (fail)
              clear d1 d2 d3 d4 d1' d2' d3' hw t1 j1 x1 x0
              go_wp2_with fail
              exact ⟨⟨j + 1, by omega, by go_num, by rw [HV.out], HBD.out _⟩, by simp [intOf]; omega⟩
            · obtain rfl : j = 0 := by omega
              have d3 : decide (0 < 0) = false := by decide
              clear f3 f1 f2
              go_upto_region 26 with (fail)
              go_quiet (fail)
              clear d1 d2 d3 d1' d2' t1 j1 x1 x0
              go_wp2_with fail
              exact ⟨⟨0 + 1, by omega, by go_num, by rw [HV.out], HBD.out _⟩, by simp [intOf]; omega⟩
          · obtain rfl : j = sp.length := by omega
            have hsl := HSLN.out
            have hbe := HBE.out
            have HBB := Lib.hid ((HS4.out.below).trans (hB2.out.mono HS4.out.below.size))
            rw [← hsl] at hbe
            clear HSF HSA HBE HPL tri HTR HSLN hB2 hB HBD hsl
            by_cases hp0 : sp.length = 0
            · have b1 : ((sp.length : Int) == 0) = true := by rw [hp0]; rfl
              have b3 : ¬ (sp.length : Int) < (sp.length : Int) := by omega
              clear hbe hp0 hlj hj
              go_wp2_with fail
              go_ret
              exact ⟨rfl, HBB.out⟩
            · have hbe := hbe hp0
              have b1 : ((sp.length : Int) == 0) = false := by rw [beq_eq_false_iff_ne]; omega
              have b2 : ((l.length : Int) == (l.length : Int)) = true := by simp
              have b3 : ¬ (sp.length : Int) < (sp.length : Int) := by omega
              rw [hbe]
              clear hp0 hlj hj hbe
              go_wp2_with fail
              go_ret
              exact ⟨rfl, HBB.out⟩
  · rw [if_pos hE] at HS1
    have hpk : pk = [] := by rcases hpe with ⟨h1, _⟩ | ⟨_, h2, _⟩; exact absurd h1 hE; exact h2
    subst hpk
    have hne : (E != 0) = true := by rw [bne_iff_ne]; exact hE
    have heq : (E == E) = true := by simp
    clear hpe hup hin1 hhas hli hF HH
    go_enter Tryd.func6, Tryd.ntmps6
    go_wp2_with fail
    refine (HAW.out _ hs0).mono ?_
    rintro e w1 ⟨rfl, hb1⟩
    have hs1 := hs0.on hb1
    have hl1 := hs1.row.lt
    obtain ⟨hr1, _⟩ := hs1.row.cel (i := 0) rfl
    obtain ⟨hq1, _⟩ := hs1.row.cel (i := 1) rfl
    clear hb1 hs0 HAW
    go_wp2_with fail
    refine (HL1.out _ hs1).mono ?_
    rintro e w2 ⟨X, cx, rfl, hx2, hb2⟩
    have hs2 := hs1.on hb2
    have hl2 := hs2.row.lt
    obtain ⟨hr2, _⟩ := hs2.row.cel (i := 0) rfl
    obtain ⟨hq2, _⟩ := hs2.row.cel (i := 1) rfl
    clear hs1 hr1 hq1 hx2
    go_wp2_with fail
    refine (HP1.out _ hs2).mono ?_
    rintro e w3 ⟨Y, cy, rfl, hy3, hb3⟩
    have hs3 := hs2.on hb3
    have hl3 := hs3.row.lt
    obtain ⟨hr3, _⟩ := hs3.row.cel (i := 0) rfl
    obtain ⟨hqq3, _⟩ := hs3.row.cel (i := 1) rfl
    clear hs2 hr2 hq2 hy3
    go_wp2_with fail
    refine (HS1.out _ hs3).mono ?_
    rintro e w4 ⟨Z, cz, rfl, hz4, hb4⟩
    have HF := Lib.hid (hs3.on hb4).below
    clear hs3 hr3 hqq3 hz4 hb4 hb3 hb2 hl1 hl2 hl3 HL1 HP1 HS1 hE
    go_wp2_with fail
    go_ret
    exact ⟨rfl, HF.out⟩
end Go.Proofs.YtfjccjjdgbkbiaaDoor
