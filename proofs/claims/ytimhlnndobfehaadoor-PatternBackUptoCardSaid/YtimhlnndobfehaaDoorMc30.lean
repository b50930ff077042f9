/- A search begun. -/
import Derived.Test.YtimhlnndobfehaaDoorMc29
namespace Go.Proofs.YtimhlnndobfehaaDoor
open Go.RowKit
open Go.Lib (Utf8Tabs)
set_option linter.unusedVariables false

/-- What is wrong with a search. -/
def begE (a : Al) (ns : List Nd) (s : ByteArray) : Int := if patE a ns ≠ 0 then patE a ns else (lettersS a s).2
/-- A search, or what is wrong. -/
def BegOut (a : Al) (ns : List Nd) (s : ByteArray) (An : Option Addr) (cn : Nat) (w : World) (e : Ending) (w' : World) : Prop :=
  Below w.heap.size w w' ∧ ((begE a ns s ≠ 0 ∧ e = .returned (.tuple #[.pointer none, .int .i64 (begE a ns s)])) ∨
    (begE a ns s = 0 ∧ ∃ sp b Al cl, e = .returned (.tuple #[.pointer (some ⟨sp, 0, none⟩), .int .i64 0]) ∧ w.heap.size ≤ b ∧ Srch ns (matL a (lettersS a s).1) An Al cn cl sp b (fun _ => False) w'))
theorem pat_zero {a : Al} {ns : List Nd} (h : patE a ns = 0) : alE a = 0 ∧ IsTree ns := by
  unfold patE at h
  by_cases hE : alE a = 0
  · rw [if_neg (by simp [hE])] at h
    refine ⟨hE, (treeB_iff ns).1 ?_⟩
    unfold patOk at h
    cases ht : treeB ns with
    | true => rfl
    | false => rw [ht] at h; simp at h
  · rw [if_pos hE] at h; exact absurd h hE
theorem tree_nodes {ns : List Nd} (h : IsTree ns) : NodesOk ns := fun k x hx => by
  refine ⟨h.ok x (List.mem_of_getElem? hx), ?_⟩
  have ht := (treeB_iff ns).2 h
  unfold treeB at ht
  rw [if_neg (by have := h.pos; have := h.max; omega)] at ht
  cases hs : nodesOk ns.length 0 (List.replicate ns.length false) ns with
  | none => rw [hs] at ht; cases ht
  | some s =>
    obtain ⟨_, _, _, _, _, hnd⟩ := nodesOk_some (by omega) (by simp) hs
    have hk := h.kids k x hx
    have hmem := List.mem_of_getElem? hx
    have hsub : x.kids.Nodup := by
      obtain ⟨p, q, rfl⟩ := List.append_of_mem hmem
      have e : allKids (p ++ x :: q) = allKids p ++ (x.kids ++ allKids q) := by unfold allKids; simp
      rw [e] at hnd
      exact (List.nodup_append.1 (List.nodup_append.1 hnd).2.1).1
    have := nodup_sub Int.toNat x.kids 256 ((List.nodup_iff_pairwise_ne.1 hsub).imp_of_mem fun {a c} ha hc hne e => hne (by have := hk a ha; have := hk c hc; omega)) (fun c hc => by have := hk c hc; have := h.max; omega)
    exact this
def BgSt1 (a : Al) (bb : Nat) (W : World) (x : Value) (wr : World) : Prop :=
  ∃ k : Nat, x = .int .i64 (k : Int) ∧ k ≤ a.lets.length ∧ MapV Tryd.prog 21 wr bb (byF (a.lets.take k)) ∧ Fr (fun g => g = bb) W wr
def BgSt2 (a : Al) (ls : List Int) (An : Option Addr) (n cn b : Nat) (W : World) (x : Value) (wr : World) : Prop :=
  ∃ (k : Nat) (Al : Option Addr) (cl : Nat), x = .int .i64 (k : Int) ∧ k ≤ ls.length ∧ Row wr (b + 1) 103 [.slice An n cn, .slice Al k cl, .map (some b)] ∧ wr.ownsRow W.heap.size 89 3 (.slice Al k cl) k (ltVs (matL a (ls.take k))) ∧ Fr (fun g => g = b + 1) W wr
def BgSt2r (a : Al) (An : Option Addr) (n cn b k : Nat) (VS : List Value) (W wr : World) : Prop :=
  ∃ (Al : Option Addr) (cl : Nat), Row wr (b + 1) 103 [.slice An n cn, .slice Al (k + 1) cl, .map (some b)] ∧ wr.ownsRow W.heap.size 89 3 (.slice Al (k + 1) cl) (k + 1) VS ∧ Fr (fun g => g = b + 1) W wr
theorem num_mem : ∀ {l : List Lt} {i k : Nat} {r : Int}, numF l i r = some k → ∃ x ∈ l, x.rune = r
  | [], _, _, _, h => by cases h
  | x :: l, i, k, r, h => by
    unfold numF at h
    by_cases e : x.rune = r
    · exact ⟨x, by simp, e⟩
    · rw [if_neg e] at h
      obtain ⟨y, hy, e2⟩ := num_mem h
      exact ⟨y, by simp [hy], e2⟩
theorem let_kin {a : Al} {r : Int} (hl : ∀ x ∈ a.lets, LtOk x) (h : isLet a r = true) : -2147483648 ≤ r ∧ r ≤ 2147483647 := by
  unfold isLet at h
  obtain ⟨k, hk⟩ := Option.isSome_iff_exists.1 h
  obtain ⟨x, hx, rfl⟩ := num_mem hk
  exact (hl x hx).1
theorem letter_info : (Tryd.prog.info? 89).map (fun i => (i.zero, i.size, i.bytes)) = some (some (.agg #[.int .i32 0, .int .u32 0, .int .u32 0]), 3, 12) := by kernel_rfl
theorem zero_letter (w : World) : (zeroValue 89).run Tryd.prog w = .ok (.agg #[.int .i32 0, .int .u32 0, .int .u32 0]) w := by kernel_rfl
theorem MapV.get {P : Program} {k e t : TypeId} {F : Lit → Option Value} {b : Nat} {w : World} (h : MapV P k w b F) (K : Maps.Keyed P k) (ht : P.underlying t = some (.map k e)) {z : Value} (hz : (zeroValue e).run P w = .ok z w) {key : Value} {kl : Lit} (hkey : keyOf P k key = some kl) :
    (Instr.lookup t (.map (some b)) key false).run P w = .ok ((F kl).getD z) w := by
  obtain ⟨n, D, h1, h2, h3⟩ := h
  obtain ⟨v, ps, hrun, hv⟩ := h1.lookup K ht hz (zd := .held z) (zp := []) rfl hkey
  have e : v = (F kl).getD z := by
    have := (h3 kl).2 z
    unfold heldR at hv
    simp only [Option.some.injEq, Prod.mk.injEq] at hv
    have h4 := hv.1.trans this
    injection h4
  subst e
  exact hrun
set_option maxHeartbeats 8000000 in
set_option maxRecDepth 100000 in
theorem begun_ok (A1 A2 An : Option Addr) (c1 c2 cn lo : Nat) (a : Al) (ns : List Nd) (s : ByteArray) (w : World) (hin : AlIn w lo w.heap.size A1 A2 a) (hT : Utf8Tabs 0 1 w) (hns : Sl 5 vNd w lo w.heap.size An ns) (hm : ns.length ≤ 9223372036854775807) (hs : s.size ≤ maxLen)
    (hP : patE a ns = 0) (hL : (lettersS a s).2 = 0) :
    Calls Tryd.prog 53 #[.agg #[.slice A1 a.feats.length c1, .slice A2 a.lets.length c2], .agg #[.slice An ns.length cn], .string s] w (BegOut a ns s An cn w) := by
  have hal : Below w.heap.size w ((w.alloc (.cells #[.slice A1 a.feats.length c1, .slice A2 a.lets.length c2] 25)).alloc (.cells #[.slice An ns.length cn] 28)) := ((Below.refl _ _).alloc (Nat.le_refl _) _).alloc (by simp) _
  have hr0 := (Row.new w 25 [.slice A1 a.feats.length c1, .slice A2 a.lets.length c2]).alloc (.cells #[.slice An ns.length cn] 28)
  have hq0 := Row.new (w.alloc (.cells #[.slice A1 a.feats.length c1, .slice A2 a.lets.length c2] 25)) 28 [.slice An ns.length cn]
  have hsz : (w.alloc (.cells #[.slice A1 a.feats.length c1, .slice A2 a.lets.length c2] 25)).heap.size = w.heap.size + 1 := by simp
  rw [hsz] at hq0
  clear hsz
  obtain ⟨hE, htree⟩ := pat_zero hP
  have hcall := Lib.hid (check_any A1 A2 c1 c2 lo a _ (hin.on hal))
  have HIN := Lib.hid (fun (wx : World) (hb : Below w.heap.size w wx) => hin.on hb)
  have HNS := Lib.hid (fun (wx : World) (hb : Below w.heap.size w wx) => (hns.below vNd_good hb (Nat.le_refl _)).wide vNd_good (Nat.le_refl _) hb.size)
  have HPC := Lib.hid (fun (wx : World) (hb : Below w.heap.size w wx) => pcheck_any A1 A2 An c1 c2 cn lo a ns wx (hin.on hb) (HNS.out wx hb) hm)
  have HLE := Lib.hid (fun (wx : World) (hb : Below w.heap.size w wx) => letters_any A1 A2 c1 c2 lo a s wx (hin.on hb) (Utf8Tabs_below hT hb) hs)
  have hBE : begE a ns s = 0 := by unfold begE; rw [if_neg (by simp [hP])]; exact hL
  obtain ⟨hok, ⟨hlet, hl64⟩, hse⟩ := word_is hL
  clear hse
  rw [hE] at hcall
  rw [hP] at HPC
  have HTR := Lib.hid htree
  have hn256 := htree.max
  have hdef : BegOut a ns s An cn w = fun e w' => Below w.heap.size w w' ∧ ((begE a ns s ≠ 0 ∧ e = .returned (.tuple #[.pointer none, .int .i64 (begE a ns s)])) ∨
    (begE a ns s = 0 ∧ ∃ sp b Al cl, e = .returned (.tuple #[.pointer (some ⟨sp, 0, none⟩), .int .i64 0]) ∧ w.heap.size ≤ b ∧ Srch ns (matL a (lettersS a s).1) An Al cn cl sp b (fun _ => False) w')) := rfl
  have HOK : Hid (∀ e w', Below w.heap.size w w' → (∃ sp b Al cl, e = .returned (.tuple #[.pointer (some ⟨sp, 0, none⟩), .int .i64 0]) ∧ w.heap.size ≤ b ∧ Srch ns (matL a (lettersS a s).1) An Al cn cl sp b (fun _ => False) w') → BegOut a ns s An cn w e w') := fun e w' hb h => ⟨hb, .inr ⟨hBE, h⟩⟩
  clear hdef
  have hr1 : lettersS a s = ((lettersS a s).1, 0) := by rw [← hL]
  rw [hr1] at HLE HOK
  simp only at HLE HOK
  generalize (lettersS a s).1 = ls at *
  have hmm := @run_makeMap Tryd.prog
  have HOK1 := Lib.hid hok
  have HLET := Lib.hid hlet
  clear hBE hL hE hP hin hns hr1 htree hok hlet hT
  go_enter Tryd.func53, Tryd.ntmps53
  go_wp2_with fail
  refine hcall.out.mono ?_
  rintro e w1 ⟨rfl, hb1⟩
  have hbw1 := hal.trans (hb1.mono (by simp; omega))
  have hr1 := hr0.below hb1 hr0.lt
  have hq1 := hq0.below hb1 hq0.lt
  obtain ⟨y0, _⟩ := hr1.cel (i := 0) rfl
  obtain ⟨y1, _⟩ := hr1.cel (i := 1) rfl
  obtain ⟨z0, _⟩ := hq1.cel (i := 0) rfl
  have hl1 := hq1.lt
  have hl1' := hr1.lt
  have HB1 := Lib.hid hbw1
  have HR1 := Lib.hid hr1
  have HQ1 := Lib.hid hq1
  clear hcall hal hb1 hr0 hq0 hbw1 hr1 hq1
  go_wp2_with fail
  refine (HPC.out w1 HB1.out).mono ?_
  rintro e w2 ⟨rfl, hb2⟩
  have hbw2 := HB1.out.trans (hb2.mono HB1.out.size)
  have hr2 := HR1.out.below hb2 HR1.out.lt
  have hq2 := HQ1.out.below hb2 HQ1.out.lt
  obtain ⟨x0, _⟩ := hr2.cel (i := 0) rfl
  obtain ⟨x1, _⟩ := hr2.cel (i := 1) rfl
  have hl2 := hr2.lt
  have HB2 := Lib.hid hbw2
  have HR2 := Lib.hid hr2
  have HQ2 := Lib.hid hq2
  clear HPC hb2 hbw2 hr2 hq2 y0 y1 z0 HR1 HQ1 HB1
  go_wp2_with fail
  refine (HLE.out w2 HB2.out).mono ?_
  rintro e w3 ⟨A, c, rfl, hown3, hb3⟩
  have hbw3 := HB2.out.trans (hb3.mono HB2.out.size)
  have hr3 := HR2.out.below hb3 HR2.out.lt
  have hq3 := HQ2.out.below hb3 HQ2.out.lt
  obtain ⟨x2, _⟩ := hr3.cel (i := 1) rfl
  obtain ⟨z3, _⟩ := hq3.cel (i := 0) rfl
  have hl3 := hr3.lt
  have hl3' := hq3.lt
  have HB3 := Lib.hid hbw3
  have HR3 := Lib.hid hr3
  have HOW3 := Lib.hid hown3
  simp only at hown3 ⊢
  clear HLE hb3 hbw3 hr3 hq3 HR2 HQ2 HB2 x0 x1 hown3
  have hr4 := ((HR3.out.alloc (.map #[] 0)).alloc (.cells #[.slice An ns.length cn, .slice none 0 0, .map (some w3.heap.size)] 103)).alloc (.map #[] 0)
  obtain ⟨x4, _⟩ := hr4.cel (i := 1) rfl
  have hb4 : Below w3.heap.size w3 (((w3.alloc (.map #[] 0)).alloc (.cells #[.slice An ns.length cn, .slice none 0 0, .map (some w3.heap.size)] 103)).alloc (.map #[] 0)) := (((Below.refl _ _).alloc (Nat.le_refl _) _).alloc (by simp) _).alloc (by simp; omega) _
  have hm4 : MapV Tryd.prog 128 (((w3.alloc (.map #[] 0)).alloc (.cells #[.slice An ns.length cn, .slice none 0 0, .map (some w3.heap.size)] 103)).alloc (.map #[] 0)) w3.heap.size (fun _ => none) :=
    (MapV.made w3 Tryd.prog 128).same (by rw [Below.heap_alloc _ _ _ (by simp; omega), Below.heap_alloc _ _ _ (by simp)])
  have hs4 : Row (((w3.alloc (.map #[] 0)).alloc (.cells #[.slice An ns.length cn, .slice none 0 0, .map (some w3.heap.size)] 103)).alloc (.map #[] 0)) (w3.heap.size + 1) 103 [.slice An ns.length cn, .slice none 0 0, .map (some w3.heap.size)] := by
    have := (Row.new (w3.alloc (.map #[] 0)) 103 [.slice An ns.length cn, .slice none 0 0, .map (some w3.heap.size)]).alloc (.map #[] 0)
    simpa using this
  have hy4 : MapV Tryd.prog 21 (((w3.alloc (.map #[] 0)).alloc (.cells #[.slice An ns.length cn, .slice none 0 0, .map (some w3.heap.size)] 103)).alloc (.map #[] 0)) (w3.heap.size + 1 + 1) (byF (a.lets.take 0)) := by
    have := MapV.made ((w3.alloc (.map #[] 0)).alloc (.cells #[.slice An ns.length cn, .slice none 0 0, .map (some w3.heap.size)] 103)) Tryd.prog 21
    simpa [byF] using this
  have hz4 : (((w3.alloc (.map #[] 0)).alloc (.cells #[.slice An ns.length cn, .slice none 0 0, .map (some w3.heap.size)] 103)).alloc (.map #[] 0)).heap.size = w3.heap.size + 3 := by simp
  have HZ4 := Lib.hid hz4
  have HR4 := Lib.hid hr4
  have HB4 := Lib.hid hb4
  have HM4 := Lib.hid hm4
  have HS4 := Lib.hid hs4
  have HY4 := Lib.hid hy4
  have hl4 := hr4.lt
  clear hr4 hb4 hm4 hs4 hy4 hz4
  go_upto_region 12 with (fail)
  generalize hW4 : (((w3.alloc (.map #[] 0)).alloc (.cells #[.slice An ns.length cn, .slice none 0 0, .map (some w3.heap.size)] 103)).alloc (.map #[] 0)) = W4 at *
  generalize hbb : w3.heap.size = b at *
  have hLk : ∀ x ∈ a.lets, LtOk x := fun x hx => by
    obtain ⟨q, hq, rfl⟩ := List.getElem_of_mem hx
    obtain ⟨_, _, _, _, _, _, _, _, h⟩ := lt_at (HIN.out w3 HB3.out).l hq
    exact h
  have HLK := Lib.hid hLk
  have hBW4 : Below w.heap.size w W4 := HB3.out.trans (HB4.out.mono (by have := HB3.out.size; omega))
  have HBW4 := Lib.hid hBW4
  have hn2 := (HIN.out w3 HB3.out).n2
  have hst : BgSt1 a (b + 1 + 1) W4 (.int .i64 0) W4 := ⟨0, rfl, by omega, HY4.out, Fr.refl _ _⟩
  have HST := Lib.hid hst
  clear hst hLk hBW4 hW4 HY4
  go_wp2_with fail
  go_loopw [47] (fun x wr => BgSt1 a (b + 1 + 1) W4 x wr) (fun x _ => a.lets.length - (intOf x).toNat)
  case atStart => exact HST.out
  case round =>
    clear HST
    obtain ⟨k, rfl, hk, hmp, hfr⟩ := hrel
    have hbw : Below w.heap.size w wr := HBW4.out.trans (hfr.below (fun g hg => by have h1 : g = b + 1 + 1 := hg; have := HB3.out.size; omega) HBW4.out.size)
    have hbs := hfr.size
    have hz4 := HZ4.out
    by_cases hlt : k < a.lets.length
    · obtain ⟨gl, ol, e2, hg1, hg2, ⟨y0, _⟩, ⟨y1, _⟩, ⟨y2, _⟩, hlk⟩ := lt_at (HIN.out wr hbw).l hlt
      have hx := Lib.hid (List.take_succ_eq_append_getElem hlt)
      generalize a.lets[k] = x at *
      have hb1 : Below wr.heap.size wr (wr.alloc (.cells #[.int .i32 x.rune, .int .u32 (x.plus : Int), .int .u32 (x.minus : Int)] 89)) := (Below.refl _ _).alloc (Nat.le_refl _) _
      have hmp1 := hmp.below hb1 hmp.lt
      obtain ⟨hc1, hc2⟩ := codeR_ok (l := a.lets.take k) (fun y hy => (HLK.out y (List.mem_of_mem_take hy)).1)
      have hkey := key_rune hlk.1
      have HFR := Lib.hid hfr
      have j1 : (k : Int) < (a.lets.length : Int) := by omega
      have j2 : 0 ≤ (k : Int) := by omega
      subst e2
      clear hmp hbw hb1 hfr hz4
      go_wp2_with (at_mapUpdate; refine wpList_update_mapV (by rfl) _ _ _ 126 rfl 21 89 keyed_rune Tryd.underlying126 (b + 1 + 1) 4294967296 (byF (a.lets.take k)) codeR hc1 hc2 (by unfold maxLen; omega) rfl hmp1 _ _ (.int .i32 x.rune) rfl rfl hkey ?_)
      intro w5 hm5 hg5
      have hfin : BgSt1 a (b + 1 + 1) W4 (.int .i64 ((k : Int) + 1)) w5 := ⟨k + 1, by simp, by omega, by
        rw [hx.out, byF_snoc]; exact hm5, (HFR.out.alloc _).trans (Fr.of_grown hg5 fun g e => (Option.some.inj e).symm) fun _ _ h => h⟩
      have HFIN := Lib.hid hfin
      clear hfin hm5 hg5 hmp1 hc1 hc2 HFR
      go_wp2_with fail
      exact ⟨HFIN.out, by simp [intOf]; omega⟩
    · obtain rfl : k = a.lets.length := by omega
      rw [List.take_length] at hmp
      have j1 : ¬ (a.lets.length : Int) < (a.lets.length : Int) := by omega
      have hs5 : Row wr (b + 1) 103 [.slice An ns.length cn, .slice none 0 0, .map (some b)] := (hfr.block _ HS4.out.lt (by omega)).trans HS4.out
      have hm5 := HM4.out.same (hfr.block _ HM4.out.lt (by omega))
      have ho5 := own_fr (own_below HOW3.out (by rw [hbb]; exact HB4.out)) hfr (fun g hg e => by have h1 := (HOW3.out.lt g hg).2; have h2 : g = b + 1 + 1 := e; omega)
      have hst : BgSt2 a ls An ns.length cn b wr (.int .i64 0) wr := ⟨0, none, 0, rfl, by omega, hs5, World.ownsRow_nil _ _ _ _, Fr.refl _ _⟩
      have HST := Lib.hid hst
      have HM5 := Lib.hid hm5
      have HO5 := Lib.hid ho5
      have HRB : Hid (∀ g, (Value.slice A ls.length c).ownBlock = some g → g < b) := fun g hg => by have h1 := (HOW3.out.lt g hg).2; omega
      have HMP := Lib.hid hmp
      have HBW := Lib.hid hbw
      have HKB : Hid (∀ g, g < b → wr.heap[g]? = w3.heap[g]?) := fun g hg => (hfr.block g (by omega) (by show ¬ g = b + 1 + 1; omega)).trans (HB4.out.block g hg)
      have hle : b + 3 ≤ wr.heap.size := by omega
      clear hst hs5 hm5 ho5 hmp hfr hbw HOW3 HM4 HS4 hz4
      obtain ⟨W5, hW5⟩ : ∃ W5 : World, W5 = wr := ⟨_, rfl⟩
      subst hW5
      obtain ⟨i1, hi1, hy0, hy1, hy2⟩ := info_parts letter_info
      go_wp2_with fail
      go_loopw [58] (fun x wr => BgSt2 a ls An ns.length cn b W5 x wr) (fun x _ => ls.length - (intOf x).toNat)
      case atStart => exact HST.out
      case round =>
        clear HST
        obtain ⟨k, Al, cl, rfl, hk, hrow, hown, hfr⟩ := hrel
        have hbs := hfr.size
        by_cases hlt : k < ls.length
        · have horw := own_fr HO5.out hfr (fun g hg e => by have h1 := HRB.out g hg; have h2 : g = b + 1 := e; omega)
          obtain ⟨gr, cr, e3, _, _, _, hgr⟩ := own_pos horw (by omega)
          injection e3 with e4 _ e5
          subst e4 e5
          obtain ⟨r0, _⟩ := own_cel horw (j := k) (u := .int .i32 ls[k]) (by unfold runeVs; rw [List.getElem?_map, List.getElem?_eq_getElem hlt]; rfl)
          have hby := by_let HOK1.out (HLET.out ls[k] (List.getElem_mem hlt))
          have hsn : ltVs (matL a (ls.take (k + 1))) = ltVs (matL a (ls.take k)) ++ [.int .i32 (ofS a ls[k]).1.rune, .int .u32 ((ofS a ls[k]).1.plus : Int), .int .u32 ((ofS a ls[k]).1.minus : Int)] := by
            rw [← ltVs_snoc, List.take_succ_eq_append_getElem hlt]
            unfold matL
            rw [List.map_append]
            rfl
          have hkr := let_kin HLK.out (HLET.out ls[k] (List.getElem_mem hlt))
          have hlk : (Instr.lookup 126 (.map (some (b + 1 + 1))) (.int .i32 ls[k]) false).run Tryd.prog wr.drew = .ok (.agg #[.int .i32 (ofS a ls[k]).1.rune, .int .u32 ((ofS a ls[k]).1.plus : Int), .int .u32 ((ofS a ls[k]).1.minus : Int)]) wr.drew := by
            have := (show MapV Tryd.prog 21 wr.drew (b + 1 + 1) (byF a.lets) from HMP.out.same (hfr.block _ HMP.out.lt (by omega))).get keyed_rune Tryd.underlying126 (zero_letter wr.drew) (key_rune hkr)
            rw [hby] at this
            exact this
          generalize (ofS a ls[k]).1 = X at *
          obtain ⟨lr, lp, lm⟩ := X
          simp only at hlk hsn
          obtain ⟨VS, hVS⟩ : ∃ VS, VS = ltVs (matL a (ls.take k)) := ⟨_, rfl⟩
          obtain ⟨VS2, hVS2⟩ : ∃ VS2, VS2 = ltVs (matL a (ls.take (k + 1))) := ⟨_, rfl⟩
          rw [← hVS] at hown hsn
          rw [← hVS2] at hsn
          have HSN := Lib.hid hsn
          have HV2 := Lib.hid hVS2.symm
          clear hVS hVS2
          generalize ls[k] = r at *
          obtain ⟨c0, f0⟩ := hrow.cel (i := 1) rfl
          have hrowA := hrow.alloc (.cells #[.int .i32 lr, .int .u32 (lp : Int), .int .u32 (lm : Int)] 89)
          have hbA : Below wr.heap.size wr (wr.alloc (.cells #[.int .i32 lr, .int .u32 (lp : Int), .int .u32 (lm : Int)] 89)) := (Below.refl _ _).alloc (Nat.le_refl _) _
          have hownA := own_below hown hbA
          have hnews := (Row.new wr 89 [.int .i32 lr, .int .u32 (lp : Int), .int .u32 (lm : Int)]).news
          have hone : ∀ u ∈ [Value.int .i32 lr, .int .u32 (lp : Int), .int .u32 (lm : Int)], u.oneCell' = true := by
            intro u hu
            simp only [List.mem_cons, List.not_mem_nil, or_false] at hu
            rcases hu with rfl | rfl | rfl <;> rfl
          have h64 : k + 1 ≤ maxLen := by unfold maxLen; omega
          have h12 : (k + 1) * 12 ≤ 140737488355328 := by omega
          have hlo : W5.heap.size ≤ (wr.alloc (.cells #[.int .i32 lr, .int .u32 (lp : Int), .int .u32 (lm : Int)] 89)).heap.size := by simp; omega
          have hne : (Value.slice Al k cl).ownBlock ≠ some (b + 1) := fun e => by have h1 := (hown.lt _ e).1; omega
          have hrl := hrow.lt
          have hrlA := hrowA.lt
          have hdone : ∀ g5 cap5 w5, w5.ownsRow W5.heap.size 89 3 (.slice (some ⟨g5, 0, none⟩) (k + 1) cap5) (k + 1) (VS ++ [.int .i32 lr, .int .u32 (lp : Int), .int .u32 (lm : Int)]) → (wr.alloc (.cells #[.int .i32 lr, .int .u32 (lp : Int), .int .u32 (lm : Int)] 89)).drew.grownBy w5 (Value.slice Al k cl).ownBlock →
              BgSt2r a An ns.length cn b k VS2 W5 (w5.setCell ⟨b + 1, 1, none⟩ (.slice (some ⟨g5, 0, none⟩) (k + 1) cap5)) := fun g5 cap5 w5 h1 h2 => by
            have hr5 : Row w5 (b + 1) 103 [.slice An ns.length cn, .slice Al k cl, .map (some b)] := (h2.block _ hrlA (fun e => hne e.symm)).trans hrowA
            have h3 := hr5.set_ 1 (.slice (some ⟨g5, 0, none⟩) (k + 1) cap5)
            have h4 := own_fr (w' := w5.setCell ⟨b + 1, 1, none⟩ (.slice (some ⟨g5, 0, none⟩) (k + 1) cap5)) h1 (Fr.set_ (S := fun g => g = b + 1) w5 ⟨b + 1, 1, none⟩ _ rfl) (fun g hg e => by have h6 := (h1.lt g hg).1; have h7 : g = b + 1 := e; omega)
            have h5 : Fr (fun g => g = b + 1) W5 w5 := ((hfr.alloc (.cells #[.int .i32 lr, .int .u32 (lp : Int), .int .u32 (lm : Int)] 89)).drewN 1).trans (T := fun g => (Value.slice Al k cl).ownBlock = some g) (Fr.of_grown h2 fun g e => e) fun g hg e => absurd (hown.lt g e).1 (by omega)
            exact ⟨_, _, h3, by rw [hsn]; exact h4, h5.setc _ _ fun _ => rfl⟩
          have HD := Lib.hid hdone
          have HST2 : Hid (∀ wx, BgSt2r a An ns.length cn b k VS2 W5 wx → BgSt2 a ls An ns.length cn b W5 (.int .i64 ((k : Int) + 1)) wx) := fun wx ⟨Al, cl, h1, h2, h3⟩ => ⟨k + 1, Al, cl, by simp, by omega, h1, by rw [HV2.out]; exact h2, h3⟩
          have j1 : (k : Int) < (ls.length : Int) := by omega
          have j2 : 0 ≤ (k : Int) := by omega
          clear hdone horw hown hbA hfr hby hsn hrow
          go_upto_region 20 with (fail)
          go_region_law (refine step_append_lies _ rfl _ _ 23 rfl W5.heap.size 89 i1 (.agg #[.int .i32 0, .int .u32 0, .int .u32 0]) 3 12 Tryd.underlying23 hi1 hy0 hy1 hy2 rfl (by decide) (.slice Al k cl) k VS rfl hownA ⟨wr.heap.size, 0, none⟩ 1 1 [.int .i32 lr, .int .u32 (lp : Int), .int .u32 (lm : Int)] rfl rfl hnews hone (by decide) h64 h12 hlo _ rfl ?_; intro g5 cap5 w5 hown5 hgr5 hat5 hlt5; obtain ⟨cq5, fq5⟩ := (show Row w5 (b + 1) 103 [.slice An ns.length cn, .slice Al k cl, .map (some b)] from (hgr5.block _ hrlA (fun e => hne e.symm)).trans hrowA).cel (i := 1) rfl)
          all_goals
            have hst5 := HST2.out _ (HD.out _ _ _ hown5 hgr5)
            have HF5 := Lib.hid hst5
            clear hst5 hown5 hgr5 hat5 hlt5
            go_wp2_with fail
            exact ⟨HF5.out, by simp [intOf]; omega⟩
        · obtain rfl : k = ls.length := by omega
          rw [List.take_length] at hown
          have j1 : ¬ (ls.length : Int) < (ls.length : Int) := by omega
          have hkp : Kp 0 b w3 wr := fun g _ hg => ((hfr.block g (by omega) (by show ¬ g = b + 1; omega)).trans (HKB.out g hg))
          have hmw := HM5.out.same (hfr.block _ HM5.out.lt (by show ¬ b = b + 1; omega))
          have hlo2 : ∀ x ∈ matL a ls, LtOk x := fun x hx => by
            obtain ⟨r, hr, rfl⟩ := List.mem_map.1 hx
            exact ofS_kin a r (HIN.out w3 HB3.out).l
          have hown2 : wr.ownsRow W5.heap.size 89 3 (.slice Al (matL a ls).length cl) (matL a ls).length (ltVs (matL a ls)) := by rw [matL_len]; exact hown
          obtain ⟨A', c', e6, _, _, hsl⟩ := own_sl (lo := b + 1) (hi := wr.heap.size) hown2 (ltVs_fits (matL a ls) hlo2) vLt_good (by omega) (Nat.le_refl _)
          injection e6 with e7 _ e8
          subst e7 e8
          have hnd : Sl 5 vNd wr 0 b An ns := by
            have := (HNS.out w3 HB3.out).wide vNd_good (Nat.zero_le _) (Nat.le_of_eq hbb)
            exact this.keep vNd_good hkp
          have hsr : Srch ns (matL a ls) An Al cn cl (b + 1) b (fun _ => False) wr :=
            ⟨by rw [matL_len]; exact hrow, hnd, hsl, fun _ _ _ h => h, ⟨_, hmw, fun kl v h => by cases h⟩, by omega, fun h => h, fun g h => h.elim, hn256, by rw [matL_len]; exact hl64, HTR.out.kids⟩
          have hbww : Below w.heap.size w wr := HBW.out.trans (hfr.below (fun g hg => by have h1 : g = b + 1 := hg; have := HB3.out.size; omega) HBW.out.size)
          have HFIN := Lib.hid (HOK.out (.returned (.tuple #[.pointer (some ⟨b + 1, 0, none⟩), .int .i64 0])) wr hbww ⟨b + 1, b, Al, cl, rfl, by have := HB3.out.size; omega, hsr⟩)
          clear hsr hnd hsl hown2 hown hrow hfr hmw hkp hbww hlo2 HOK
          go_wp2_with fail
          go_ret2
          exact HFIN.out
set_option maxHeartbeats 8000000 in
set_option maxRecDepth 100000 in
theorem begun_any (A1 A2 An : Option Addr) (c1 c2 cn lo : Nat) (a : Al) (ns : List Nd) (s : ByteArray) (w : World) (hin : AlIn w lo w.heap.size A1 A2 a) (hT : Utf8Tabs 0 1 w) (hns : Sl 5 vNd w lo w.heap.size An ns) (hm : ns.length ≤ 9223372036854775807) (hs : s.size ≤ maxLen) :
    Calls Tryd.prog 53 #[.agg #[.slice A1 a.feats.length c1, .slice A2 a.lets.length c2], .agg #[.slice An ns.length cn], .string s] w (BegOut a ns s An cn w) := by
  have hal : Below w.heap.size w ((w.alloc (.cells #[.slice A1 a.feats.length c1, .slice A2 a.lets.length c2] 25)).alloc (.cells #[.slice An ns.length cn] 28)) := ((Below.refl _ _).alloc (Nat.le_refl _) _).alloc (by simp) _
  have hr0 := (Row.new w 25 [.slice A1 a.feats.length c1, .slice A2 a.lets.length c2]).alloc (.cells #[.slice An ns.length cn] 28)
  have hq0 := Row.new (w.alloc (.cells #[.slice A1 a.feats.length c1, .slice A2 a.lets.length c2] 25)) 28 [.slice An ns.length cn]
  have hsz : (w.alloc (.cells #[.slice A1 a.feats.length c1, .slice A2 a.lets.length c2] 25)).heap.size = w.heap.size + 1 := by simp
  rw [hsz] at hq0
  clear hsz
  have hcall := Lib.hid (check_any A1 A2 c1 c2 lo a _ (hin.on hal))
  have HIN := Lib.hid (fun (wx : World) (hb : Below w.heap.size w wx) => hin.on hb)
  have HNS := Lib.hid (fun (wx : World) (hb : Below w.heap.size w wx) => (hns.below vNd_good hb (Nat.le_refl _)).wide vNd_good (Nat.le_refl _) hb.size)
  have HPC := Lib.hid (fun (wx : World) (hb : Below w.heap.size w wx) => pcheck_any A1 A2 An c1 c2 cn lo a ns wx (hin.on hb) (HNS.out wx hb) hm)
  have HLE := Lib.hid (fun (wx : World) (hb : Below w.heap.size w wx) => letters_any A1 A2 c1 c2 lo a s wx (hin.on hb) (Utf8Tabs_below hT hb) hs)
  have hBE : begE a ns s = if patE a ns ≠ 0 then patE a ns else (lettersS a s).2 := rfl
  have HNO : Hid (∀ wx E, Below w.heap.size w wx → E ≠ 0 → begE a ns s = E → BegOut a ns s An cn w (.returned (.tuple #[.pointer none, .int .i64 E])) wx) := fun wx E hb h0 h => ⟨hb, .inl ⟨by rw [h]; exact h0, by rw [h]⟩⟩
  by_cases hE : alE a = 0
  · rw [hE] at hcall
    by_cases hP : patE a ns = 0
    · rw [hP] at HPC
      have htree := (pat_zero hP).2
      by_cases hL : (lettersS a s).2 = 0
      · exact begun_ok A1 A2 An c1 c2 cn lo a ns s w hin hT hns hm hs hP hL
      · have hbe : begE a ns s = (lettersS a s).2 := by rw [hBE, if_neg (by simp [hP])]
        have hr1 : lettersS a s = ((lettersS a s).1, (lettersS a s).2) := rfl
        generalize lettersS a s = R at *
        obtain ⟨ls, E⟩ := R
        simp only at *
        have HF := Lib.hid hbe
        have HL := Lib.hid hL
        have hne : (E != 0) = true := by rw [bne_iff_ne]; exact hL
        clear hbe hBE hL hE hP hin hns hr1
        go_enter Tryd.func53, Tryd.ntmps53
        go_wp2_with fail
        refine hcall.out.mono ?_
        rintro e w1 ⟨rfl, hb1⟩
        have hbw1 := hal.trans (hb1.mono (by simp; omega))
        have hr1 := hr0.below hb1 hr0.lt
        have hq1 := hq0.below hb1 hq0.lt
        obtain ⟨y0, _⟩ := hr1.cel (i := 0) rfl
        obtain ⟨y1, _⟩ := hr1.cel (i := 1) rfl
        obtain ⟨z0, _⟩ := hq1.cel (i := 0) rfl
        have hl1 := hq1.lt
        have hl1' := hr1.lt
        have HB1 := Lib.hid hbw1
        have HR1 := Lib.hid hr1
        have HQ1 := Lib.hid hq1
        clear hcall hal hb1 hr0 hq0 hbw1 hr1 hq1
        go_wp2_with fail
        refine (HPC.out w1 HB1.out).mono ?_
        rintro e w2 ⟨rfl, hb2⟩
        have hbw2 := HB1.out.trans (hb2.mono HB1.out.size)
        have hr2 := HR1.out.below hb2 HR1.out.lt
        obtain ⟨x0, _⟩ := hr2.cel (i := 0) rfl
        obtain ⟨x1, _⟩ := hr2.cel (i := 1) rfl
        have hl2 := hr2.lt
        have HB2 := Lib.hid hbw2
        clear HPC hb2 hbw2 hr2 y0 y1 z0
        go_wp2_with fail
        refine (HLE.out w2 HB2.out).mono ?_
        rintro e w3 ⟨A, c, rfl, _, hb3⟩
        have HFIN := Lib.hid (HNO.out w3 _ (HB2.out.trans (hb3.mono HB2.out.size)) HL.out HF.out)
        clear HLE hb3 HNO
        simp only
        go_wp2_with fail
        go_ret2
        exact HFIN.out
    · have hbe : begE a ns s = patE a ns := by rw [hBE, if_pos hP]
      generalize patE a ns = E at *
      have HF := Lib.hid hbe
      have HL := Lib.hid hP
      have hne : (E != 0) = true := by rw [bne_iff_ne]; exact hP
      clear hbe hBE hE hP hin hns HLE
      go_enter Tryd.func53, Tryd.ntmps53
      go_wp2_with fail
      refine hcall.out.mono ?_
      rintro e w1 ⟨rfl, hb1⟩
      have hbw1 := hal.trans (hb1.mono (by simp; omega))
      have hr1 := hr0.below hb1 hr0.lt
      have hq1 := hq0.below hb1 hq0.lt
      obtain ⟨y0, _⟩ := hr1.cel (i := 0) rfl
      obtain ⟨y1, _⟩ := hr1.cel (i := 1) rfl
      obtain ⟨z0, _⟩ := hq1.cel (i := 0) rfl
      have hl1 := hq1.lt
      have hl1' := hr1.lt
      have HB1 := Lib.hid hbw1
      clear hcall hal hb1 hr0 hq0 hbw1 hr1 hq1
      go_wp2_with fail
      refine (HPC.out w1 HB1.out).mono ?_
      rintro e w2 ⟨rfl, hb2⟩
      have HFIN := Lib.hid (HNO.out w2 _ (HB1.out.trans (hb2.mono HB1.out.size)) HL.out HF.out)
      clear HPC hb2 HNO
      go_wp2_with fail
      go_ret2
      exact HFIN.out
  · have hbe : begE a ns s = alE a := by
      have : patE a ns = alE a := by unfold patE; rw [if_pos hE]
      rw [hBE, this, if_pos hE]
    generalize alE a = E at *
    have HF := Lib.hid hbe
    have HL := Lib.hid hE
    have hne : (E != 0) = true := by rw [bne_iff_ne]; exact hE
    clear hbe hBE hE hin hns HLE HPC
    go_enter Tryd.func53, Tryd.ntmps53
    go_wp2_with fail
    refine hcall.out.mono ?_
    rintro e w1 ⟨rfl, hb1⟩
    have HFIN := Lib.hid (HNO.out w1 _ (hal.trans (hb1.mono (by simp; omega))) HL.out HF.out)
    clear hcall hb1 HNO
    go_wp2_with fail
    go_ret2
    exact HFIN.out
end Go.Proofs.YtimhlnndobfehaaDoor
