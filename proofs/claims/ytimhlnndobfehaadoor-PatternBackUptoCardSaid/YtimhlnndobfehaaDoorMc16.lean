/- The ends of a node from a place: known, or found. -/
import Derived.Test.YtimhlnndobfehaaDoorMc15
import Derived.StillTailTactics
namespace Go.Proofs.YtimhlnndobfehaaDoor
open Go.RowKit
set_option linter.unusedVariables false

open Classical in
/-- A key's number. -/
noncomputable def code2 (kl : Lit) : Nat := if h : ∃ p : Nat × Nat, p.1 < 256 ∧ p.2 ≤ 64 ∧ kl = K2 p.1 p.2 then h.choose.1 * 65 + h.choose.2 else 0
theorem code2_of {k i : Nat} (hk : k < 256) (hi : i ≤ 64) : code2 (K2 k i) = k * 65 + i := by
  have h : ∃ p : Nat × Nat, p.1 < 256 ∧ p.2 ≤ 64 ∧ K2 k i = K2 p.1 p.2 := ⟨(k, i), hk, hi, rfl⟩
  unfold code2
  rw [dif_pos h]
  obtain ⟨h1, h2, h3⟩ := h.choose_spec
  obtain ⟨e1, e2⟩ := key2_inj (by omega) (by omega) (by omega) (by omega) h3
  rw [← e1, ← e2]
section
variable {ns : List Nd} {L : List Lt} {An Al : Option Addr} {cn cl sp b : Nat} {Z : Nat → Prop} {w wr w' : World}
theorem MapV.look {P : Program} {k e t : TypeId} {F : Lit → Option Value} {b : Nat} {w : World} (h : MapV P k w b F) (K : Maps.Keyed P k) (ht : P.underlying t = some (.map k e)) {z : Value} (hz : (zeroValue e).run P w = .ok z w) {key : Value} {kl : Lit} (hkey : keyOf P k key = some kl) :
    (Instr.lookup t (.map (some b)) key true).run P w = .ok (.tuple #[(F kl).getD z, .bool (F kl).isSome]) w := by
  obtain ⟨n, D, h1, h2, h3⟩ := h
  obtain ⟨v, ps, hrun, hv⟩ := h1.look_ok K ht hz (zd := .held z) (zp := []) rfl hkey
  have e : v = (F kl).getD z := by
    have := (h3 kl).2 z
    unfold heldR at hv
    simp only [Option.some.injEq, Prod.mk.injEq] at hv
    have h4 := hv.1.trans this
    injection h4
  subst e
  rw [(h3 kl).1] at hrun
  exact hrun
/-- Nodes that may be. -/
def NodesOk (ns : List Nd) : Prop := ∀ (k : Nat) (x : Nd), ns[k]? = some x → nodeOk x = true ∧ x.kids.length ≤ 256
theorem find_any {x : Nd} {k i : Nat} {B : Option Addr} {cc : Nat} (hno : nodeOk x = true) (hx : NdIn ns x k b B cc w) (H : ∀ c ∈ x.kids, EndsOk ns L An Al cn cl sp b c.toNat) (h : Srch ns L An Al cn cl sp b Z w) (hZ : ∀ g, Z g → g < w.heap.size) (hi : i ≤ L.length) :
    Calls Tryd.prog 75 #[.pointer (some ⟨sp, 0, none⟩), .agg #[.int .u8 x.kind, .int .i32 x.rune, .int .u32 x.plus, .int .u32 x.minus, .slice B x.kids.length cc], .int .i64 (i : Int)] w (FillOut ns L An Al cn cl sp b Z w (Lies ns L k i)) := by
  rw [nodeOk_eq, Bool.and_eq_true] at hno
  have har := hno.1
  unfold arOk at har
  by_cases k6 : x.kind = 6
  · exact find_seq hx k6 H h hZ hi
  by_cases k7 : x.kind = 7
  · exact find_or hx k7 H h hZ hi
  rw [if_neg (by omega)] at har
  by_cases k89 : x.kind = 8 ∨ x.kind = 9
  · rw [if_pos k89, decide_eq_true_eq] at har
    rcases k89 with k8 | k9
    · exact find_star hx k8 har H h hZ hi
    · exact find_opt hx k9 har H h hZ hi
  rw [if_neg k89] at har
  by_cases k15 : 1 ≤ x.kind ∧ x.kind ≤ 5
  · by_cases k1 : x.kind = 1
    · exact find_empty hx k1 h hZ hi
    by_cases k5 : x.kind = 5
    · exact find_edge hx k5 h hZ hi
    exact find_leaf hx (by omega) h hZ hi
  · rw [if_neg k15] at har
    cases har
/-- What is known, and one thing more. -/
theorem Known.more {T : Nat → Prop} {k i : Nat} {A : Option Addr} {c : Nat} {F : Lit → Option Value} (hk : k < ns.length) (hi : i ≤ L.length) (hv : ∀ kl v, F kl = some v → ∃ k i A c, kl = K2 k i ∧ k < ns.length ∧ i ≤ L.length ∧ v = .slice A (endsI ns L k i).length c ∧ SlZ T b w A (endsI ns L k i))
    (hsl : SlZ Z b w A (endsI ns L k i)) (hT : ∀ g, Z g → T g) (hf : Fr (fun g => g = b) w w') (hm : MapV Tryd.prog 128 w' b (setAt F (K2 k i) (some (.slice A (endsI ns L k i).length c)))) : Known ns L Z b w' := by
  refine ⟨_, hm, fun kl v h => ?_⟩
  unfold setAt at h
  by_cases e : kl = K2 k i
  · rw [if_pos e] at h
    obtain rfl := Option.some.inj h
    exact ⟨k, i, A, c, e, hk, hi, rfl, hsl.fr hf fun g _ h1 h2 => by have h2 : g = b := h2; omega⟩
  · rw [if_neg e] at h
    obtain ⟨k', i', A', c', e1, e2, e3, e4, e5⟩ := hv kl v h
    exact ⟨k', i', A', c', e1, e2, e3, e4, (e5.weak (T := Z) fun g _ _ hz => hT g hz).fr hf fun g _ h1 h2 => by have h2 : g = b := h2; omega⟩
/-- Keys that are known have numbers of their own. -/
theorem code2_known {F : Lit → Option Value} (h1 : ns.length ≤ 256) (h2 : L.length ≤ 64) (hv : ∀ kl v, F kl = some v → ∃ k i A c, kl = K2 k i ∧ k < ns.length ∧ i ≤ L.length ∧ v = .slice A (endsI ns L k i).length c ∧ SlZ Z b w A (endsI ns L k i)) :
    (∀ kl v, F kl = some v → code2 kl < 20000) ∧ ∀ a c u v, F a = some u → F c = some v → code2 a = code2 c → a = c := by
  constructor
  · intro kl v h
    obtain ⟨k, i, _, _, rfl, hk, hi, _⟩ := hv kl v h
    rw [code2_of (by omega) (by omega)]
    omega
  · intro a c u v ha hc he
    obtain ⟨k, i, _, _, rfl, hk, hi, _⟩ := hv a u ha
    obtain ⟨m, j, _, _, rfl, hm, hj, _⟩ := hv c v hc
    rw [code2_of (by omega) (by omega), code2_of (by omega) (by omega)] at he
    obtain rfl : i = j := by omega
    obtain rfl : k = m := by omega
    rfl
theorem zero_ints (w : World) : (zeroValue 42).run Tryd.prog w = .ok (.slice none 0 0) w := by kernel_rfl
set_option maxHeartbeats 8000000 in
set_option maxRecDepth 100000 in
theorem ends_step {k : Nat} {x : Nd} (hx : ns[k]? = some x) (hno : nodeOk x = true) (hkl : x.kids.length ≤ 256) (H : ∀ c ∈ x.kids, EndsOk ns L An Al cn cl sp b c.toNat) : EndsOk ns L An Al cn cl sp b k := by
  intro i Z w hi hZ h
  have hk := (List.getElem?_eq_some_iff.1 hx).1
  have hn1 := h.n1
  have hn2 := h.n2
  have hbw := h.lt
  have hspl := h.row.lt
  have hzb := h.zb
  obtain ⟨bn, on, B, cc, rfl, _, hbn, hc0, hc1, hc2, hc3, hc4, hl1, hl2, hks, kk0, kk1, kk2, kk3⟩ := nd_at h.nodes hk
  have hxx : ns[k] = x := (List.getElem?_eq_some_iff.1 hx).2
  rw [hxx] at hc0 hc1 hc2 hc3 hc4 hl1 hks kk0 kk1 kk2 kk3
  have HS := Lib.hid h
  obtain ⟨F, hF, hFv⟩ := h.known
  have hkey := key2 (n := k) (i := i) (by omega) (by omega)
  have hHB : Below w.heap.size w (w.alloc (.cells #[.int .i64 (k : Int), .int .i64 (i : Int)] 128)) := (Below.refl _ _).alloc (Nat.le_refl _) _
  have hrw : Row (w.alloc (.cells #[.int .i64 (k : Int), .int .i64 (i : Int)] 128)) w.heap.size 128 [.int .i64 (k : Int), .int .i64 (i : Int)] := Row.new w 128 _
  have HCS : Hid (∀ wx, Below (w.alloc (.cells #[.int .i64 (k : Int), .int .i64 (i : Int)] 128)).heap.size (w.alloc (.cells #[.int .i64 (k : Int), .int .i64 (i : Int)] 128)) wx → wx.cell? ⟨sp, 2, none⟩ = some (.map (some b))) := fun wx hwx => (((h.below hHB).row.below hwx (h.below hHB).row.lt).cel (i := 2) rfl).1
  have HCK : Hid (∀ wx, Below (w.alloc (.cells #[.int .i64 (k : Int), .int .i64 (i : Int)] 128)).heap.size (w.alloc (.cells #[.int .i64 (k : Int), .int .i64 (i : Int)] 128)) wx → wx.cell? ⟨w.heap.size, 0, none⟩ = some (.int .i64 (k : Int)) ∧ wx.cell? ⟨w.heap.size, 1, none⟩ = some (.int .i64 (i : Int))) := fun wx hwx =>
    ⟨((hrw.below hwx hrw.lt).cel (i := 0) rfl).1, ((hrw.below hwx hrw.lt).cel (i := 1) rfl).1⟩
  have HLK : Hid (∀ wx, Below (w.alloc (.cells #[.int .i64 (k : Int), .int .i64 (i : Int)] 128)).heap.size (w.alloc (.cells #[.int .i64 (k : Int), .int .i64 (i : Int)] 128)) wx → (Instr.lookup 101 (.map (some b)) (.agg #[.int .i64 (k : Int), .int .i64 (i : Int)]) true).run Tryd.prog wx = .ok (.tuple #[(F (K2 k i)).getD (.slice none 0 0), .bool (F (K2 k i)).isSome]) wx) := fun wx hwx =>
    (hF.below (hHB.trans (hwx.mono hHB.size)) hbw).look keyed_key Tryd.underlying101 (zero_ints wx) hkey
  cases hFk : F (K2 k i) with
  | some v =>
    obtain ⟨k', i', A, c, e1, hk', hi', rfl, hsl⟩ := hFv _ v hFk
    obtain ⟨rfl, rfl⟩ := key2_inj (by omega) (by omega) (by omega) (by omega) e1
    rw [hFk] at HLK
    simp only [Option.getD_some, Option.isSome_some] at HLK
    have HOUT : Hid (∀ wx, Below (w.alloc (.cells #[.int .i64 (k : Int), .int .i64 (i : Int)] 128)).heap.size (w.alloc (.cells #[.int .i64 (k : Int), .int .i64 (i : Int)] 128)) wx → PlOut ns L (some ⟨bn, on, none⟩) Al cn cl sp b Z w (endsI ns L k i) (.returned (.slice A (endsI ns L k i).length c)) wx) := fun wx hwx => by
      have hb := hHB.trans (hwx.mono hHB.size)
      exact ⟨A, c, rfl, hsl.fr (T := fun _ => False) (Fr.of_below hb) (fun _ _ _ h => h.elim), h.below hb, Fr.of_below hb⟩
    clear h HS hF hFv hFk hsl hrw hHB hc0 hc1 hc2 hc3 hc4 hks H hkey
    generalize endsI ns L k i = E at *
    go_enter Tryd.func56, Tryd.ntmps56
    go_upto_region 2 with (fail)
    generalize hW : w.alloc (.cells #[.int .i64 (k : Int), .int .i64 (i : Int)] 128) = W2 at *
    have hd : Below W2.heap.size W2 W2.drew := below_drewN (Below.refl _ _) 1
    refine wp_region_class (fun wx => Below W2.heap.size W2 wx) (by kernel_rfl) (by kernel_rfl) hd ?_
    repeat (first
      | go_big_quiet_skip
      | (go_big_quiet_want; go_big_quiet_op; first
          | go_big_quiet_on
          | (apply Exists.intro
             refine ⟨fun wx hx => ?_, ?_⟩
             · (first
                | exact rfl
                | (have e1 := HCS.out wx hx; simp only [e1, Result.andThen]; exact ⟨trivial, rfl⟩)
                | (obtain ⟨e1, e2⟩ := HCK.out wx hx; simp only [e1, e2, Result.andThen]; exact ⟨trivial, rfl⟩)
                | (have e1 := HLK.out wx hx; simp only [e1, Result.andThen]; exact ⟨trivial, rfl⟩))
             go_big_quiet_on)))
    refine wpQuiet_nil ?_
    intro w7 hq
    have HO := Lib.hid (HOUT.out w7 hq)
    clear hq hd HCS HCK HLK HOUT
    go_wp2_with fail
    go_ret
    exact HO.out
  | none =>
    rw [hFk] at HLK
    simp only [Option.getD_none, Option.isSome_none] at HLK
    have HC0 : Hid (∀ wx, Below (w.alloc (.cells #[.int .i64 (k : Int), .int .i64 (i : Int)] 128)).heap.size (w.alloc (.cells #[.int .i64 (k : Int), .int .i64 (i : Int)] 128)) wx → Srch ns L (some ⟨bn, on, none⟩) Al cn cl sp b Z wx) := fun wx hwx => h.below (hHB.trans (hwx.mono hHB.size))
    have HND : Hid (∀ wx, Below w.heap.size w wx → NdIn ns x k b B cc wx ∧ Cel wx bn (on + k * 5) (.int .u8 x.kind) ∧ Cel wx bn (on + k * 5 + 1) (.int .i32 x.rune) ∧ Cel wx bn (on + k * 5 + 2) (.int .u32 x.plus) ∧ Cel wx bn (on + k * 5 + 3) (.int .u32 x.minus) ∧ Cel wx bn (on + k * 5 + 4) (.slice B x.kids.length cc)) := fun wx hb =>
      ⟨⟨hx, hks.below (vInt_good _) hb (Nat.le_of_lt hbw), hkl, ⟨hl1, hl2⟩, kk0, kk1, kk2, kk3⟩, hc0.keep (Kp.of_below hb) (Nat.zero_le _) (by omega), hc1.keep (Kp.of_below hb) (Nat.zero_le _) (by omega), hc2.keep (Kp.of_below hb) (Nat.zero_le _) (by omega), hc3.keep (Kp.of_below hb) (Nat.zero_le _) (by omega), hc4.keep (Kp.of_below hb) (Nat.zero_le _) (by omega)⟩
    have HRW := Lib.hid hrw
    have HHB := Lib.hid hHB
    have HH := Lib.hid H
    have HKEY := Lib.hid hkey
    clear h HS hF hFv hFk hrw hHB hc0 hc1 hc2 hc3 hc4 hks H hkey
    go_enter Tryd.func56, Tryd.ntmps56
    go_upto_region 2 with (fail)
    generalize hW : w.alloc (.cells #[.int .i64 (k : Int), .int .i64 (i : Int)] 128) = W2 at *
    have hd : Below W2.heap.size W2 W2.drew := below_drewN (Below.refl _ _) 1
    refine wp_region_class (fun wx => Below W2.heap.size W2 wx) (by kernel_rfl) (by kernel_rfl) hd ?_
    repeat (first
      | go_big_quiet_skip
      | (go_big_quiet_want; go_big_quiet_op; first
          | go_big_quiet_on
          | (apply Exists.intro
             refine ⟨fun wx hx => ?_, ?_⟩
             · (first
                | exact rfl
                | (have e1 := HCS.out wx hx; simp only [e1, Result.andThen]; exact ⟨trivial, rfl⟩)
                | (obtain ⟨e1, e2⟩ := HCK.out wx hx; simp only [e1, e2, Result.andThen]; exact ⟨trivial, rfl⟩)
                | (have e1 := HLK.out wx hx; simp only [e1, Result.andThen]; exact ⟨trivial, rfl⟩))
             go_big_quiet_on)))
    refine wpQuiet_nil ?_
    intro w7 hq
    have hs7 := HC0.out w7 hq
    have hb7 := HHB.out.trans (hq.mono HHB.out.size)
    obtain ⟨hnd, ⟨y0, _⟩, ⟨y1, _⟩, ⟨y2, _⟩, ⟨y3, _⟩, ⟨y4, _⟩⟩ := HND.out w7 hb7
    obtain ⟨z0, _⟩ := hs7.row.cel (i := 0) rfl
    have hcall := Lib.hid (find_any hno hnd HH.out hs7 (fun g hg => Nat.lt_of_lt_of_le (hZ g hg) hb7.size) hi)
    have hkey7 : Row w7 w.heap.size 128 [.int .i64 (k : Int), .int .i64 (i : Int)] := HRW.out.below hq HRW.out.lt
    have HK7 := Lib.hid hkey7
    have HB7 := Lib.hid hb7
    have j1 : (k : Int) < (ns.length : Int) := by omega
    have j2 : 0 ≤ (k : Int) := by omega
    have hz7 := hb7.size
    have hbn7 : bn < w7.heap.size := by omega
    have hsp7 : sp < w7.heap.size := by omega
    clear hq hd HCS HCK HLK HC0 HND HRW HHB HH hnd hs7 hb7 hkey7
    go_wp2_with fail
    refine hcall.out.mono ?_
    rintro e w8 ⟨acc, A, c, rfl, hl, hm, hfill⟩
    have hsort := Lib.hid (sortInt_any hfill.own (by omega))
    have HFI := Lib.hid hfill
    clear hfill hcall y0 y1 y2 y3 y4 z0
    go_wp2_with fail
    refine hsort.out.mono ?_
    rintro e w9 ⟨rfl, hfr9, hown9⟩
    have hfill9 := HFI.out.grow (acc' := srtL acc) (by omega) (by rw [srt_len]; exact hown9) hfr9 (fun g hg => .inl (by rw [srt_len] at hg; exact hg))
    have hcomp := Lib.hid (compactInt_any hfill9.own (by rw [srt_len]; omega))
    have HFI9 := Lib.hid hfill9
    rw [srt_len] at hcomp
    clear hfill9 hown9 hfr9 hsort HFI
    go_wp2_with fail
    refine hcomp.out.mono ?_
    rintro e w10 ⟨A3, c3, e3, rfl, hfr10, hown10⟩
    injection e3 with e4 e5 e6
    subst e4 e6
    have ecut : Lib.compact (srtL acc) = endsI ns L k i := cut_ends hi hm
    rw [ecut] at hown10 ⊢
    have hfill10 := HFI9.out.grow (by omega) (acc' := endsI ns L k i) hown10 (by rw [srt_len]; exact hfr10) (fun g hg => .inl (by rw [own_blk _ _ _ (endsI ns L k i).length c]; exact hg))
    have hele := endsI_len ns L k i
    have hekin : ∀ y ∈ endsI ns L k i, kin .i64 y := fun y hy => by
      obtain ⟨q, rfl, hq⟩ := (endsI_mem hi).1 hy
      have := rel_max ns L _ _ _ _ hi hq
      exact kin_mk64 (by omega)
    have hsl10 : SlZ Z b w10 A (endsI ns L k i) := ⟨own_ints hfill10.own hekin (by omega), fun hn ad e hz => by
      subst e
      have h1 := (hfill10.own.lt ad.block rfl).1
      have h2 := hZ _ hz
      omega⟩
    obtain ⟨F2, hF2, hF2v⟩ := hfill10.s.known
    obtain ⟨hcode1, hcode2⟩ := code2_known hn1 hn2 hF2v
    have hfw : Fr (fun g => g = b) w w10 := (Fr.of_below HB7.out).trans hfill10.fr fun _ _ h => h
    obtain ⟨z2, _⟩ := hfill10.s.row.cel (i := 2) rfl
    have hk10 : Row w10 w.heap.size 128 [.int .i64 (k : Int), .int .i64 (i : Int)] := (hfill10.fr.block _ (by have := HK7.out.lt; omega) (by show ¬ w.heap.size = b; omega)).trans HK7.out
    obtain ⟨q0, _⟩ := hk10.cel (i := 0) rfl
    obtain ⟨q1, _⟩ := hk10.cel (i := 1) rfl
    have hkl10 := hk10.lt
    have hsp10 := hfill10.s.row.lt
    have HFIN : Hid (∀ w11, MapV Tryd.prog 128 w11 b (setAt F2 (K2 k i) (some (.slice A (endsI ns L k i).length c))) → w10.drew.grownBy w11 (some b) → PlOut ns L (some ⟨bn, on, none⟩) Al cn cl sp b Z w (endsI ns L k i) (.returned (.slice A (endsI ns L k i).length c)) w11) := fun w11 hm11 hg11 => by
      have hf11 : Fr (fun g => g = b) w10 w11 := (Fr.of_below (S := fun g => g = b) (below_drewN (Below.refl _ w10) 1)).trans (Fr.of_grown (S := fun g => g = b) hg11 fun g e => (Option.some.inj e).symm) fun _ _ h => h
      have hkn := Known.more hk hi hF2v hsl10 (fun g hz => .inl hz) hf11 hm11
      exact ⟨A, c, rfl, hsl10.fr hf11 fun g _ h1 h2 => by have h2 : g = b := h2; omega, (hfill10.s.weak (T := Z) (fun g _ hz => .inl hz) hzb).fr hf11 (fun g _ h => .inr h) hkn, hfw.trans hf11 fun _ _ h => h⟩
    have hF2d : MapV Tryd.prog 128 w10.drew b F2 := hF2.same rfl
    clear hcomp HFI9 hfr10 hown10 hfill10 hsl10 hF2 hF2v hfw hk10 hm ecut hekin HK7 HB7
    generalize endsI ns L k i = E at *
    go_wp2_with fail
    go_still_tail 6, (by kernel_rfl)
    change wpList _ _ _ _ _ w10.drew
    refine wpList_update_mapV (by rfl) _ _ _ 101 rfl 128 42 keyed_key Tryd.underlying101 b 20000 F2 code2 hcode1 hcode2 (by unfold maxLen; omega) rfl hF2d _ _ (K2 k i) rfl rfl HKEY.out ?_
    intro w11 hm11 hg11
    have HO := Lib.hid (HFIN.out w11 hm11 hg11)
    clear hm11 hg11 HFIN hF2d hcode1 hcode2 z2 q0 q1
    go_wp2_with fail
    go_ret
    exact HO.out
theorem ends_any (hns : NodesOk ns) (hkids : Kids ns) : ∀ (f k : Nat), ns.length - k ≤ f → k < ns.length → EndsOk ns L An Al cn cl sp b k
  | 0, k, h1, h2 => by omega
  | f + 1, k, h1, h2 => by
    have hx : ns[k]? = some ns[k] := List.getElem?_eq_getElem h2
    obtain ⟨hno, hkl⟩ := hns k _ hx
    refine ends_step hx hno hkl fun c hc => ?_
    have := hkids k _ hx c hc
    exact ends_any hns hkids f c.toNat (by omega) (by omega)
end
end Go.Proofs.YtimhlnndobfehaaDoor
