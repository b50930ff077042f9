/- Where a node lies any number of times. A region that draws its order, walked once for a class of worlds. -/
import Derived.Test.YtimhlnndobfehaaDoorMc10
import Derived.Test.YtimhlnndobfehaaDoorMc11
import Derived.WalkMore
import Derived.Test.YtimhlnndobfehaaDoorMc01
import Derived.BigQuiet
import Derived.Deep.RegionWith
namespace Go.Proofs.YtimhlnndobfehaaDoor
open Go.RowKit
set_option linter.unusedVariables false

def seenI (seen : List Int) : Lit → Bool := fun kl => seen.any fun r => kl.sameKey (.int .i64 r)
theorem sameKey_i64 (l : Lit) (r : Int) : l.sameKey (.int .i64 r) = true ↔ l = .int .i64 r := ⟨WideAt.sameKey_eq, fun h => by subst h; simp [Lit.sameKey]⟩
theorem seenI_snoc (seen : List Int) (r : Int) : setAt (seenI seen) (.int .i64 r) true = seenI (seen ++ [r]) := by
  funext l
  unfold setAt seenI
  rw [List.any_append, List.any_cons, List.any_nil, Bool.or_false]
  by_cases h : l = .int .i64 r
  · rw [if_pos h, (sameKey_i64 _ _).2 h, Bool.or_true]
  · rw [if_neg h]
    have : l.sameKey (.int .i64 r) = false := by
      rw [← Bool.not_eq_true]
      exact fun hh => h ((sameKey_i64 _ _).1 hh)
    rw [this, Bool.or_false]
theorem seenI_eq (seen : List Int) (r : Int) : seenI seen (.int .i64 r) = decide (r ∈ seen) := by
  unfold seenI
  rw [Bool.eq_iff_iff, List.any_eq_true, decide_eq_true_eq]
  constructor
  · rintro ⟨g, hg, h⟩
    have := (sameKey_i64 _ _).1 h
    injection this with _ this
    rw [this]
    exact hg
  · intro h
    exact ⟨r, h, (sameKey_i64 _ _).2 rfl⟩
theorem key_i64 {r : Int} (h : kin .i64 r) : keyOf Tryd.prog 3 (.int .i64 r) = some (.int .i64 r) := by
  unfold keyOf
  rw [Tryd.underlying3]
  have h' : (Lit.int .i64 r).wf = true := h
  simp [mapKey, Tryd.underlying3, h']
/-- The places met so far: each once, all of them to be come to, the first j of them gone on from. -/
structure Met (R : Nat → Nat → Prop) (i n j : Nat) (acc : List Int) : Prop where
  nd : acc.Nodup
  mem : ∀ x ∈ acc, ∃ q : Nat, x = (q : Int) ∧ q ≤ n ∧ Star R i q
  fst : (i : Int) ∈ acc
  done : ∀ p q : Nat, (p : Int) ∈ acc.take j → R p q → (q : Int) ∈ acc
theorem Met.len {R : Nat → Nat → Prop} {i n j : Nat} {acc : List Int} (h : Met R i n j acc) : acc.length ≤ n + 1 := by
  refine nodup_sub Int.toNat acc (n + 1) ?_ fun x hx => ?_
  · have := List.nodup_iff_pairwise_ne.1 h.nd
    refine this.imp_of_mem fun {x y} hx hy hne e => hne ?_
    obtain ⟨p, rfl, _⟩ := h.mem _ hx
    obtain ⟨q, rfl, _⟩ := h.mem _ hy
    simp at e
    rw [e]
  · obtain ⟨q, rfl, hq, _⟩ := h.mem x hx
    simp
    omega
/-- All gone on from: the places are those that can be come to. -/
theorem Met.all {R : Nat → Nat → Prop} {i n : Nat} {acc : List Int} (h : Met R i n acc.length acc) (x : Int) : x ∈ acc ↔ ∃ q : Nat, x = (q : Int) ∧ Star R i q := by
  constructor
  · intro hx
    obtain ⟨q, e, _, hs⟩ := h.mem x hx
    exact ⟨q, e, hs⟩
  · rintro ⟨q, rfl, hs⟩
    induction hs with
    | refl => exact h.fst
    | tail _ hr ih => exact h.done _ _ (by rw [List.take_length]; exact ih) hr
theorem Met.snoc {R : Nat → Nat → Prop} {i n j q : Nat} {acc : List Int} (h : Met R i n j acc) (hj : j ≤ acc.length) (hq : (q : Int) ∉ acc) (hn : q ≤ n) (hs : Star R i q) : Met R i n j (acc ++ [(q : Int)]) := by
  refine ⟨List.nodup_append.2 ⟨h.nd, by simp, fun a ha c hc e => hq (by rw [List.mem_singleton.1 hc] at e; rw [← e]; exact ha)⟩, fun x hx => ?_, List.mem_append_left _ h.fst, fun p r hp hr => ?_⟩
  · rcases List.mem_append.1 hx with hx | hx
    · exact h.mem x hx
    · exact ⟨q, List.mem_singleton.1 hx, hn, hs⟩
  · rw [List.take_append_of_le_length hj] at hp
    exact List.mem_append_left _ (h.done p r hp hr)
section
variable {ns : List Nd} {L : List Lt} {An Al : Option Addr} {cn cl sp b : Nat} {Z : Nat → Prop} {w wr w' : World}
theorem Fill.below {A : Option Addr} {c : Nat} {acc : List Int} (h : Fill ns L An Al cn cl sp b Z w A c acc wr) (hb : Below wr.heap.size wr w') : Fill ns L An Al cn cl sp b Z w A c acc w' :=
  h.call (h.s.below hb) (Fr.of_below hb)
theorem SlZ.grow {A A' B : Option Addr} {c c' n n' : Nat} {E : List Int} (h : SlZ (Zv Z (.slice A n c)) b wr B E) (hf : Fr (fun g => (Value.slice A n c).ownBlock = some g) wr w')
    (hn : ∀ g, (Value.slice A' n' c').ownBlock = some g → (Value.slice A n c).ownBlock = some g ∨ wr.heap.size ≤ g) : SlZ (Zv Z (.slice A' n' c')) b w' B E := by
  have h1 : SlZ (fun g => Zv Z (.slice A n c) g ∨ Zv Z (.slice A' n' c') g) b wr B E := h.weak fun g hg _ hz => by
    rcases hz with hz | hz | hz
    · exact hz
    · exact .inl hz
    · rcases hn g hz with h1 | h1
      · exact .inr h1
      · omega
  exact (h1.fr hf fun g _ _ hg => .inl (.inr hg)).weak fun g _ _ hz => .inr hz
end
/-- The map of what was met, in a block of its own. -/
abbrev MetB (w : World) (bm : Nat) (acc : List Int) : Prop := MapB Tryd.prog 3 4 w bm acc.length (seenI acc)
def AgSt (ns : List Nd) (L : List Lt) (An Al : Option Addr) (cn cl sp b k i bm : Nat) (Z : Nat → Prop) (W : World) (v x : Value) (wr : World) : Prop :=
  ∃ (j : Nat) (acc : List Int) (A : Option Addr) (c : Nat), v = .slice A acc.length c ∧ x = .int .i64 (j : Int) ∧ j ≤ acc.length ∧ Hid (Met (Lies ns L k) i L.length j acc) ∧ MetB wr bm acc ∧ Fill ns L An Al cn cl sp b (fun g => Z g ∨ g = bm) W A c acc wr
def AgIn (ns : List Nd) (L : List Lt) (An Al : Option Addr) (cn cl sp b k i bm j : Nat) (Z : Nat → Prop) (AE : Option Addr) (E : List Int) (p : Nat) (W : World) (v x : Value) (wr : World) : Prop :=
  ∃ (m : Nat) (acc : List Int) (A : Option Addr) (c : Nat), v = .slice A acc.length c ∧ x = .int .i64 (m : Int) ∧ m ≤ E.length ∧ acc[j]? = some (p : Int) ∧ Hid (Met (Lies ns L k) i L.length j acc ∧ ∀ y ∈ E.take m, y ∈ acc) ∧ MetB wr bm acc ∧ SlZ (Zv (fun g => Z g ∨ g = bm) (.slice A acc.length c)) b wr AE E ∧ Fill ns L An Al cn cl sp b (fun g => Z g ∨ g = bm) W A c acc wr
theorem own_fresh {w : World} {base : Nat} {t : TypeId} (vs : List Value) (hb : base ≤ w.heap.size) (hl : vs.length ≤ maxLen) : (w.alloc (.cells vs.toArray t)).ownsRow base t 1 (.slice (some ⟨w.heap.size, 0, none⟩) vs.length vs.length) vs.length vs :=
  ⟨by simp, .inr ⟨w.heap.size, vs.length, vs.toArray, rfl, hb, heap_alloc_new w _, Nat.le_refl _, hl, by simp, by simp⟩⟩
/-- A list of the call's own that has just been made. -/
theorem Fill.fresh {ns : List Nd} {L : List Lt} {An Al : Option Addr} {cn cl sp b : Nat} {Z : Nat → Prop} {w wr : World} (h : Srch ns L An Al cn cl sp b Z wr) (hf : Fr (fun k => k = b) w wr) (hz : ∀ g, Z g → g < wr.heap.size) (hb : b < w.heap.size) (l : List Int) (hl : l.length ≤ maxLen) :
    Fill ns L An Al cn cl sp b Z w (some ⟨wr.heap.size, 0, none⟩) l.length l (wr.alloc (.cells (l.map (Value.int .i64)).toArray 3)) := by
  have ho := own_fresh (w := wr) (t := 3) (l.map (Value.int .i64)) hf.size (by simpa using hl)
  simp only [List.length_map] at ho
  have hb1 : Below wr.heap.size wr (wr.alloc (.cells (l.map (Value.int .i64)).toArray 3)) := (Below.refl _ _).alloc (Nat.le_refl _) _
  have hs := (h.weak (T := Zv Z (.slice (some ⟨wr.heap.size, 0, none⟩) l.length l.length)) (fun g hg hz => hz.elim id fun e => by have := Option.some.inj e; simp only at this; omega) (fun g hz => hz.elim (h.zb g) fun e => by have := Option.some.inj e; simp only at this; have := hf.size; omega)).below hb1
  exact ⟨ho, hs, hf.trans (T := fun _ => False) (Fr.of_below hb1) fun _ _ h => h.elim, fun g hg => Nat.lt_of_lt_of_le (hz g hg) hb1.size⟩
theorem wpList_insert_mapB {P : Program} {k e : TypeId} {w : World} {ops : Array Oper} {rest : List Oper} {o : Oper} {a : Act} {Q : Exit → Act → World → Prop} (hw : Region.wanted o (yielded ops a.tmps) = true) (m x v : Operand) (t : TypeId) (hop : o.op = Op.insert t m x v)
    (K : Maps.Keyed P k) (ht : P.underlying t = some (.map k e)) (he : P.underlying e = some .bool) (b n : Nat) (S : Lit → Bool)
    (hm : a.eval m = .map (some b)) (hown : MapB P k e w b n S) (hn : n < maxLen) (key : Value) (y : Bool) (kl : Lit) (hx : a.eval x = key) (hv : a.eval v = .bool y) (hkey : keyOf P k key = some kl) (hik : WideAt.IsKeyLit kl)
    (hK : ∀ w', MapB P k e w' b (n + 1) (setAt S kl y) → w.grownBy w' (some b) → wpList P ops Q rest (a.put o.dst undef) w') : wpList P ops Q (o :: rest) a w := by
  refine wpList_wanted hw fun K' hK' => ?_
  obtain ⟨D, h1, h2, h3⟩ := hown
  obtain ⟨w', hrun, r1, r2⟩ := h1.update K ht hn hkey (plainElem_bool he y)
  unfold Oper.wp
  simp [execOp, hop, hm, hx, hv, hrun, Result.andThen]
  refine hK' _ _ (hK w' ⟨_, r1, h2.put _ _, fun l => ?_⟩ r2)
  unfold setAt
  by_cases hl : l = kl
  · subst hl
    rw [if_pos rfl, Maps.atKey_put_same h2 hik]
  · rw [if_neg hl, Maps.atKey_put_other hl]
    exact h3 l
set_option maxHeartbeats 8000000 in
set_option maxRecDepth 100000 in
theorem again_any {ns : List Nd} {L : List Lt} {An Al : Option Addr} {cn cl sp b k i : Nat} {Z : Nat → Prop} {w : World} (H : EndsOk ns L An Al cn cl sp b k) (h : Srch ns L An Al cn cl sp b Z w) (hZ : ∀ g, Z g → g < w.heap.size) (hi : i ≤ L.length) :
    Calls Tryd.prog 89 #[.pointer (some ⟨sp, 0, none⟩), .int .i64 (k : Int), .int .i64 (i : Int)] w fun e w' => ∃ (acc : List Int) (A : Option Addr) (c : Nat), e = .returned (.slice A acc.length c) ∧ acc.length ≤ 65 ∧ (∀ x, x ∈ acc ↔ ∃ q : Nat, x = (q : Int) ∧ Star (Lies ns L k) i q) ∧ Fill ns L An Al cn cl sp b Z w A c acc w' := by
  obtain ⟨i1, hi1, hy0, hy1, hy2⟩ := info_parts mint_info
  have H' := Lib.hid H
  have n1 := h.n1
  have n2 := h.n2
  have hbw := h.lt
  have hsp := h.row.lt
  have hki := key_i64 (r := (i : Int)) (kin_mk64 (by omega))
  have hm0 : MapB Tryd.prog 3 4 (w.alloc (.map #[] 0)) w.heap.size 0 (seenI []) := MapB.made w Tryd.prog 3 4
  have hmm := @run_makeMap Tryd.prog
  have H0 := Lib.hid h
  clear H
  go_enter Tryd.func89, Tryd.ntmps89
  go_wp2_with (refine wpList_insert_mapB (by rfl) _ _ _ 162 rfl keyed_int Tryd.underlying162 Tryd.underlying4 w.heap.size 0 (seenI []) rfl hm0 (by unfold maxLen; omega) _ true _ rfl rfl hki trivial ?_)
  intro w1 hm1 hg1
  rw [show setAt (seenI []) (.int .i64 (i : Int)) true = seenI [(i : Int)] from seenI_snoc [] _] at hm1
  have hfr1 : Fr (fun k => k = w.heap.size) (w.alloc (.map #[] 0)) w1 := Fr.of_grown hg1 fun k e => (Option.some.inj e).symm
  have hbw0 : Below w.heap.size w (w.alloc (.map #[] 0)) := (Below.refl _ _).alloc (Nat.le_refl _) _
  have hs1 : Srch ns L An Al cn cl sp b (fun g => Z g ∨ g = w.heap.size) w1 := by
    have h1 := H0.out.weak (T := fun g => Z g ∨ g = w.heap.size) (fun g hg hz => hz.elim id fun e => by omega) (fun g hz => hz.elim (H0.out.zb g) fun e => by omega)
    exact (h1.below hbw0).touch hfr1 fun g _ e => .inr e
  have hfw1 : Fr (fun k => k = b) w w1 := (Fr.of_below hbw0).trans hfr1 fun k hk e => absurd hk (by have e : k = w.heap.size := e; omega)
  have hsz1 := hfw1.size
  have hsz2 := hfr1.size
  clear hg1 hm0
  have hz1 : ∀ g, (Z g ∨ g = w.heap.size) → g < w1.heap.size := fun g hz => hz.elim (fun hz => by have := hZ g hz; omega) fun e => by
    have h3 := hm1.lt
    omega
  have hfill := Fill.fresh hs1 hfw1 hz1 hbw [(i : Int)] (by unfold maxLen; simp)
  have hmet : Met (Lies ns L k) i L.length 0 [(i : Int)] := ⟨by simp, fun x hx => ⟨i, List.mem_singleton.1 hx, hi, .refl i⟩, by simp, fun p q hp => by simp at hp⟩
  have hst : AgSt ns L An Al cn cl sp b k i w.heap.size Z w (.slice (some ⟨w1.heap.size, 0, none⟩) 1 1) (.int .i64 0) (w1.alloc (.cells #[.int .i64 (i : Int)] 3)) :=
    ⟨0, [(i : Int)], _, _, rfl, rfl, by simp, hmet, hm1.below (Below.alloc (Below.refl w1.heap.size w1) (Nat.le_refl _) _) hm1.lt, hfill⟩
  have HST := Lib.hid hst
  clear hst hfill hmet hz1 hsz1 hsz2 hfw1 hs1 hbw0 hfr1 hm1 hki hmm
  generalize hbm : w.heap.size = bm at *
  go_wp2_with fail
  go_loopw [8, 9] (fun v x wr => AgSt ns L An Al cn cl sp b k i bm Z w v x wr) (fun _ x _ => 66 - (intOf x).toNat)
  case atStart => exact HST.out
  case round =>
    clear HST
    obtain ⟨j, acc, B, d, rfl, rfl, hj, hM, hmap, hfill⟩ := hrel
    have hbs := hfill.fr.size
    have hlen := hM.out.len
    by_cases hlt : j < acc.length
    · obtain ⟨p, hp, hpn, hps⟩ := hM.out.mem acc[j] (List.getElem_mem hlt)
      obtain ⟨gb, cb, e, _, _, _, hgw⟩ := own_pos hfill.own (by omega)
      injection e with e1 _ e2
      subst e1 e2
      obtain ⟨z0, z1⟩ := own_cel hfill.own (j := j) (u := .int .i64 (p : Int)) (by rw [List.getElem?_map, List.getElem?_eq_getElem hlt, hp]; rfl)
      have hcall := Lib.hid (H'.out p _ wr hpn hfill.zlt hfill.s)
      have j1 : (j : Int) < (acc.length : Int) := by omega
      have j2 : 0 ≤ (j : Int) := by omega
      have HFI := Lib.hid hfill
      have HMP := Lib.hid hmap
      have HPJ := Lib.hid (show acc[j]? = some (p : Int) by rw [List.getElem?_eq_getElem hlt, hp])
      have hee := endsI_len ns L k p
      have HEM := Lib.hid (fun x => endsI_mem (ns := ns) (k := k) hpn (x := x))
      clear hfill hmap hp
      generalize endsI ns L k p = E at *
      go_wp2_with fail
      go_step3
      go_wp2_with fail
      go_step3
      go_wp2_with fail
      refine hcall.out.mono ?_
      rintro e w2 ⟨A2, c2, rfl, hsl2, hs2, hfr2⟩
      have hst : AgIn ns L An Al cn cl sp b k i bm j Z A2 E p w (.slice (some ⟨gb, 0, none⟩) acc.length d) (.int .i64 0) w2 := by
        have hne : bm ≠ b := by omega
        exact ⟨0, acc, _, _, rfl, rfl, by omega, HPJ.out, ⟨hM.out, fun y hy => by simp at hy⟩, HMP.out.same (hfr2.block bm HMP.out.lt hne), hsl2, HFI.out.call hs2 hfr2⟩
      have HST2 := Lib.hid hst
      have hel : E.length ≤ 65 := by omega
      clear hst hcall hsl2 hs2 hfr2 z0 z1 HFI HMP hM HPJ
      go_wp2_with fail
      go_loopw [8, 31] (fun v x wr => AgIn ns L An Al cn cl sp b k i bm j Z A2 E p w v x wr) (fun _ x _ => E.length - (intOf x).toNat)
      case atStart => exact HST2.out
      case round =>
        clear HST2
        obtain ⟨m, acc, B, d, rfl, rfl, hm, hpj, hM, hmap, hsl, hfill⟩ := hrel
        have hbs := hfill.fr.size
        by_cases hlt2 : m < E.length
        · obtain ⟨ge, oe, rfl, _, hge, ⟨y0, y1⟩, _⟩ := ints_at hsl.1 hlt2
          obtain ⟨q, hq, hrel⟩ := (HEM.out E[m]).1 (List.getElem_mem hlt2)
          have hqn : q ≤ L.length := rel_max ns L _ _ _ _ hpn hrel
          have hqs : Star (Lies ns L k) i q := hps.tail hrel
          rw [hq] at y0
          have hkq := key_i64 (r := (q : Int)) (kin_mk64 (by omega))
          have j1 : (m : Int) < (E.length : Int) := by omega
          have j2 : 0 ≤ (m : Int) := by omega
          have hbml := hmap.lt
          have hbm' : MapB Tryd.prog 3 4 wr bm acc.length (seenI acc) := hmap
          by_cases hin : (q : Int) ∈ acc
          · have hse : seenI acc (.int .i64 (q : Int)) = true := by rw [seenI_eq]; exact decide_eq_true hin
            have hfin : AgIn ns L An Al cn cl sp b k i bm j Z (some ⟨ge, oe, none⟩) E p w (.slice B acc.length d) (.int .i64 ((m : Int) + 1)) wr :=
              ⟨m + 1, acc, _, _, rfl, by simp, by omega, hpj, ⟨hM.out.1, fun y hy => by
                rw [List.take_succ_eq_append_getElem hlt2, hq] at hy
                rcases List.mem_append.1 hy with hy | hy
                · exact hM.out.2 y hy
                · rw [List.mem_singleton.1 hy]; exact hin⟩, hmap, hsl, hfill⟩
            have HFIN := Lib.hid hfin
            clear hfin hfill hsl hmap hM hq
            go_wp2_with (at_lookup; refine wpList_lookup_mapB (by rfl) _ _ 162 rfl 3 4 keyed_int Tryd.underlying162 Tryd.underlying4 (zero_bool _) bm acc.length (seenI acc) rfl hbm' _ _ rfl hkq ?_; rw [hse])
            exact ⟨HFIN.out, by simp [intOf]; omega⟩
          · have hse : seenI acc (.int .i64 (q : Int)) = false := by rw [seenI_eq]; exact decide_eq_false hin
            have hst2 := hM.out.1.snoc (by have := (List.getElem?_eq_some_iff.1 hpj).1; omega) hin hqn hqs
            have hM2 : Hid (Met (Lies ns L k) i L.length j (acc ++ [(q : Int)]) ∧ ∀ y ∈ E.take (m + 1), y ∈ acc ++ [(q : Int)]) := ⟨hst2, fun y hy => by
              rw [List.take_succ_eq_append_getElem hlt2, hq] at hy
              rcases List.mem_append.1 hy with hy | hy
              · exact List.mem_append_left _ (hM.out.2 y hy)
              · exact List.mem_append_right _ hy⟩
            have hal := hM.out.1.len
            have hal2 := hst2.len
            have hpj2 : (acc ++ [(q : Int)])[j]? = some (p : Int) := by rw [List.getElem?_append_left (List.getElem?_eq_some_iff.1 hpj).1]; exact hpj
            have hnb := own_ne_map hfill.own hmap
            have HFI := Lib.hid hfill
            have HSL := Lib.hid hsl
            clear hfill hsl hM hq hst2 hmap
            go_wp2_with (first
              | (at_lookup; refine wpList_lookup_mapB (by rfl) _ _ 162 rfl 3 4 keyed_int Tryd.underlying162 Tryd.underlying4 (zero_bool _) bm acc.length (seenI acc) rfl hbm' _ _ rfl hkq ?_; rw [hse])
              | (at_mapUpdate; refine wpList_update_mapB (by rfl) _ _ _ 162 rfl 3 4 keyed_int Tryd.underlying162 Tryd.underlying4 bm acc.length (seenI acc) rfl hbm' (by unfold maxLen; omega) _ true _ rfl rfl hkq trivial ?_))
            intro w3 hm3 hg3
            rw [seenI_snoc] at hm3
            have hfr3 : Fr (fun k => k = bm) wr w3 := Fr.of_grown hg3 fun k e => (Option.some.inj e).symm
            have hf3 := HFI.out.touch hfr3 (.inr rfl) (by omega) hnb
            have hs3 := HSL.out.fr hfr3 fun g _ _ e => .inl (.inr e)
            have hb4 : Below w3.heap.size w3 (w3.alloc (.cells #[.int .i64 (q : Int)] 3)) := (Below.refl _ _).alloc (Nat.le_refl _) _
            have hf4 := hf3.below hb4
            have hs4 := hs3.fr (T := fun _ => False) (Fr.of_below hb4) fun _ _ _ h => h.elim
            have hm4 := hm3.below hb4 hm3.lt
            have hq4 : Sl 1 (vInt .i64) (w3.alloc (.cells #[.int .i64 (q : Int)] 3)) w3.heap.size (w3.heap.size + 1) (some ⟨w3.heap.size, 0, none⟩) [(q : Int)] :=
              (Row.new w3 3 [.int .i64 (q : Int)]).sl rfl (Nat.le_refl _) (by omega) (fun i x v hx hv => by
                match i, hx, hv with
                | 0, hx, hv =>
                  simp at hx hv
                  subst hx hv
                  exact ⟨rfl, kin_mk64 (by omega)⟩)
            have hown4 := hf4.own
            have hbs4 := hf4.fr.size
            have h63 : acc.length + [(q : Int)].length ≤ maxLen := by unfold maxLen; simp; omega
            have h8 : (acc.length + [(q : Int)].length) * 8 ≤ 140737488355328 := by simp; omega
            have HF4 := Lib.hid hf4
            have HS4 := Lib.hid hs4
            have HM4 := Lib.hid hm4
            have hb4l := hm4.lt
            clear hf3 hs3 hf4 hs4 hb4 hm3 hg3 hfr3 HFI HSL hm4
            go_wp2_with (at_builtin; refine wpList_append_ints rfl _ _ 42 rfl 3 i1 8 Tryd.underlying42 hi1 hy0 hy1 hy2 rfl rfl hown4 hq4 h63 h8 hbs4 ?_)
            intro A5 c5 w5 hown5 hfr5 hat5
            have hown6 : w5.ownsRow w.heap.size 3 1 (.slice A5 (acc ++ [(q : Int)]).length c5) (acc ++ [(q : Int)]).length ((acc ++ [(q : Int)]).map (Value.int .i64)) := by rw [hbm]; simpa using hown5
            have hat6 : ∀ g, (Value.slice A5 (acc ++ [(q : Int)]).length c5).ownBlock = some g → (Value.slice B acc.length d).ownBlock = some g ∨ (w3.alloc (.cells #[.int .i64 (q : Int)] 3)).heap.size ≤ g := fun g hg => (hat5 g (by simpa using hg)).imp id fun h => by simpa using h
            have hfill5 := HF4.out.grow (by omega) hown6 hfr5 hat6
            have hsl5 := HS4.out.grow hfr5 hat6
            have hmm5 := HM4.out.same (hfr5.block bm HM4.out.lt (own_ne_map HF4.out.own HM4.out))
            have hfin : AgIn ns L An Al cn cl sp b k i bm j Z (some ⟨ge, oe, none⟩) E p w (.slice A5 (acc ++ [(q : Int)]).length c5) (.int .i64 ((m : Int) + 1)) w5 :=
              ⟨m + 1, acc ++ [(q : Int)], _, _, rfl, by simp, by omega, hpj2, hM2.out, by
                have e : (acc ++ [(q : Int)]).length = acc.length + 1 := by simp
                unfold MetB
                rw [e]
                exact hmm5, hsl5, hfill5⟩
            have e : (acc ++ [(q : Int)]).length = acc.length + 1 := by simp
            rw [e] at hfin
            have HFIN := Lib.hid hfin
            clear hfin hfill5 hsl5 hmm5 hown5 hown6 hfr5 hat5 hat6 HF4 HS4 HM4 hM2
            go_wp2_with fail
            exact ⟨HFIN.out, by simp [intOf]; omega⟩
        · obtain rfl : m = E.length := by omega
          have j1 : ¬ (E.length : Int) < (E.length : Int) := by omega
          have hjl : j < acc.length := (List.getElem?_eq_some_iff.1 hpj).1
          have hfin : AgSt ns L An Al cn cl sp b k i bm Z w (.slice B acc.length d) (.int .i64 ((j : Int) + 1)) wr :=
            ⟨j + 1, acc, _, _, rfl, by simp, by omega, ⟨hM.out.1.nd, hM.out.1.mem, hM.out.1.fst, fun p' q' hp' hr' => by
              have hpa : acc[j] = (p : Int) := (List.getElem?_eq_some_iff.1 hpj).2
              rw [List.take_succ_eq_append_getElem hjl, hpa] at hp'
              rcases List.mem_append.1 hp' with hp' | hp'
              · exact hM.out.1.done p' q' hp' hr'
              · have e3 := List.mem_singleton.1 hp'
                obtain rfl : p' = p := by omega
                exact hM.out.2 _ (by rw [List.take_length]; exact (HEM.out _).2 ⟨q', rfl, hr'⟩)⟩, hmap, hfill⟩
          have HFIN := Lib.hid hfin
          clear hfin hfill hsl hmap hM
          go_wp2_with fail
          exact ⟨HFIN.out, by simp [intOf]; omega⟩
    · obtain rfl : j = acc.length := by omega
      have j1 : ¬ (acc.length : Int) < (acc.length : Int) := by omega
      have HFIN := Lib.hid (hfill.weak (T := Z) fun g hg => .inl hg)
      have HMA := Lib.hid hM.out.all
      clear hfill hmap hM
      go_wp2_with fail
      go_ret
      exact ⟨acc, _, _, rfl, by omega, HMA.out, HFIN.out⟩
end Go.Proofs.YtimhlnndobfehaaDoor
namespace Go.Proofs.YtimhlnndobfehaaDoor
open Go.RowKit
set_option linter.unusedVariables false

/-- A region that draws its order, where all operations yield the same in all worlds of a class, and leave a world of the class: one walk of it. -/
theorem wp_region_class {P : Program} {id : Nat} {Q : Exit → Act → World → Prop} {a : Act} {w : World} {l : List Oper} (C : World → Prop) (hm : P.follows .mixedOrders = true) (hB : Region.lexB .any l.toArray = true) (hC : C w.drew)
    (h : wpQuiet P l.toArray C (fun a' => ∀ w', C w' → Q .normal a' w') l a) : (Code.region id l.toArray true).wp P Q a w :=
  wp_region_quiet (C := C) hm hB hC (by simpa using h)

end Go.Proofs.YtimhlnndobfehaaDoor
