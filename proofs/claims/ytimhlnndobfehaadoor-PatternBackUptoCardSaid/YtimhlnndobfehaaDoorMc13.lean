/- The ends of a node from a place, kind by kind. The ends of a sequence, of one of several, of a thing or nothing, of a star, of a letter. -/
import Derived.Test.YtimhlnndobfehaaDoorMc12
import Derived.BigRegion
import Derived.Deep.DeepCutAuto
import Derived.Deep.CutBlock
namespace Go.Proofs.YtimhlnndobfehaaDoor
open Go.RowKit
set_option linter.unusedVariables false

section
variable {ns : List Nd} {L : List Lt} {An Al : Option Addr} {cn cl sp b : Nat} {Z : Nat → Prop} {w wr w' : World}
/-- What a search's step answers: places in memory of the call's own. -/
def FillOut (ns : List Nd) (L : List Lt) (An Al : Option Addr) (cn cl sp b : Nat) (Z : Nat → Prop) (w : World) (S : Nat → Prop) (e : Ending) (w' : World) : Prop :=
  ∃ (acc : List Int) (A : Option Addr) (c : Nat), e = .returned (.slice A acc.length c) ∧ acc.length ≤ 70000 ∧ (∀ x, x ∈ acc ↔ ∃ q : Nat, x = (q : Int) ∧ S q) ∧ Fill ns L An Al cn cl sp b Z w A c acc w'
theorem Fill.on {A : Option Addr} {c : Nat} {acc : List Int} (h : Fill ns L An Al cn cl sp b Z wr A c acc w') (hf : Fr (fun k => k = b) w wr) : Fill ns L An Al cn cl sp b Z w A c acc w' :=
  ⟨own_low h.own hf.size, h.s, hf.trans h.fr fun _ _ h => h, h.z⟩
/-- A node, as its cells stand in a call's arguments. -/
def ndV (x : Nd) (B : Option Addr) (cc : Nat) : Value := .agg #[.int .u8 x.kind, .int .i32 x.rune, .int .u32 x.plus, .int .u32 x.minus, .slice B x.kids.length cc]
structure NdIn (ns : List Nd) (x : Nd) (k b : Nat) (B : Option Addr) (cc : Nat) (w : World) : Prop where
  at_ : ns[k]? = some x
  kids : Sl 1 (vInt .i64) w 0 b B x.kids
  len : x.kids.length ≤ 256
  lec : x.kids.length ≤ cc ∧ cc ≤ maxLen
  k0 : kin .u8 x.kind
  k1 : kin .i32 x.rune
  k2 : kin .u32 x.plus
  k3 : kin .u32 x.minus
theorem find_empty {x : Nd} {k i : Nat} {B : Option Addr} {cc : Nat} (hx : NdIn ns x k b B cc w) (hk : x.kind = 1) (h : Srch ns L An Al cn cl sp b Z w) (hZ : ∀ g, Z g → g < w.heap.size) (hi : i ≤ L.length) :
    Calls Tryd.prog 75 #[.pointer (some ⟨sp, 0, none⟩), .agg #[.int .u8 x.kind, .int .i32 x.rune, .int .u32 x.plus, .int .u32 x.minus, .slice B x.kids.length cc], .int .i64 (i : Int)] w (FillOut ns L An Al cn cl sp b Z w (Lies ns L k i)) := by
  have hl : ∀ q, Lies ns L k i q ↔ i = q := fun q => by rw [lies_iff h.kids hx.at_]; unfold Body; rw [if_pos hk]
  have hb1 : Below w.heap.size w (w.alloc (.cells #[.int .u8 x.kind, .int .i32 x.rune, .int .u32 x.plus, .int .u32 x.minus, .slice B x.kids.length cc] 44)) := (Below.refl _ _).alloc (Nat.le_refl _) _
  have hfill := Fill.fresh (h.below hb1) (Fr.of_below hb1) (fun g hg => Nat.lt_of_lt_of_le (hZ g hg) hb1.size) h.lt [(i : Int)] (by unfold maxLen; simp)
  have hout : FillOut ns L An Al cn cl sp b Z w (Lies ns L k i) (.returned (.slice (some ⟨w.heap.size + 1, 0, none⟩) 1 1)) ((w.alloc (.cells #[.int .u8 x.kind, .int .i32 x.rune, .int .u32 x.plus, .int .u32 x.minus, .slice B x.kids.length cc] 44)).alloc (.cells #[.int .i64 (i : Int)] 3)) :=
    ⟨[(i : Int)], _, _, rfl, by simp, fun y => by simp [hl], by simpa using hfill⟩
  have HOUT := Lib.hid hout
  clear hout hfill hl
  obtain ⟨kd, rn, pl, mi, ks⟩ := x
  simp only at *
  subst hk
  clear h hx hb1
  go_enter Tryd.func75, Tryd.ntmps75
  go_wp2_with fail
  go_ret
  exact HOUT.out
theorem find_edge {x : Nd} {k i : Nat} {B : Option Addr} {cc : Nat} (hx : NdIn ns x k b B cc w) (hk : x.kind = 5) (h : Srch ns L An Al cn cl sp b Z w) (hZ : ∀ g, Z g → g < w.heap.size) (hi : i ≤ L.length) :
    Calls Tryd.prog 75 #[.pointer (some ⟨sp, 0, none⟩), .agg #[.int .u8 x.kind, .int .i32 x.rune, .int .u32 x.plus, .int .u32 x.minus, .slice B x.kids.length cc], .int .i64 (i : Int)] w (FillOut ns L An Al cn cl sp b Z w (Lies ns L k i)) := by
  have hl : ∀ q, Lies ns L k i q ↔ i = q ∧ (i = 0 ∨ i = L.length) := fun q => by rw [lies_iff h.kids hx.at_]; unfold Body; rw [if_neg (by omega), if_pos hk]
  have hb1 : Below w.heap.size w (w.alloc (.cells #[.int .u8 x.kind, .int .i32 x.rune, .int .u32 x.plus, .int .u32 x.minus, .slice B x.kids.length cc] 44)) := (Below.refl _ _).alloc (Nat.le_refl _) _
  have hs1 := h.below hb1
  obtain ⟨c1, f1⟩ := hs1.row.cel (i := 1) rfl
  have hspl := h.row.lt
  have hn2 := h.n2
  by_cases hed : i = 0 ∨ i = L.length
  · have hfill := Fill.fresh hs1 (Fr.of_below hb1) (fun g hg => Nat.lt_of_lt_of_le (hZ g hg) hb1.size) h.lt [(i : Int)] (by unfold maxLen; simp)
    have hout : FillOut ns L An Al cn cl sp b Z w (Lies ns L k i) (.returned (.slice (some ⟨w.heap.size + 1, 0, none⟩) 1 1)) ((w.alloc (.cells #[.int .u8 x.kind, .int .i32 x.rune, .int .u32 x.plus, .int .u32 x.minus, .slice B x.kids.length cc] 44)).alloc (.cells #[.int .i64 (i : Int)] 3)) :=
      ⟨[(i : Int)], _, _, rfl, by simp, fun y => by simp [hl, hed], by simpa using hfill⟩
    have HOUT := Lib.hid hout
    clear hout hfill hl
    obtain ⟨kd, rn, pl, mi, ks⟩ := x
    simp only at *
    subst hk
    clear h hx hb1 hs1
    by_cases h0 : i = 0
    · subst h0
      clear hed
      go_enter Tryd.func75, Tryd.ntmps75
      go_wp2_with fail
      go_ret
      exact HOUT.out
    · have e1 : ((i : Int) == 0) = false := by rw [beq_eq_false_iff_ne]; omega
      have e2 : ((i : Int) == (L.length : Int)) = true := by rw [beq_iff_eq]; omega
      clear hed
      go_enter Tryd.func75, Tryd.ntmps75
      go_wp2_with fail
      go_ret
      exact HOUT.out
  · have hout : FillOut ns L An Al cn cl sp b Z w (Lies ns L k i) (.returned (.slice none 0 0)) (w.alloc (.cells #[.int .u8 x.kind, .int .i32 x.rune, .int .u32 x.plus, .int .u32 x.minus, .slice B x.kids.length cc] 44)) :=
      ⟨[], _, _, rfl, by simp, fun y => by simp [hl, hed], (Fill.nil hs1 fun g hg => Nat.lt_of_lt_of_le (hZ g hg) hb1.size).on (Fr.of_below hb1)⟩
    have HOUT := Lib.hid hout
    have e1 : ((i : Int) == 0) = false := by rw [beq_eq_false_iff_ne]; omega
    have e2 : ((i : Int) == (L.length : Int)) = false := by rw [beq_eq_false_iff_ne]; omega
    clear hout hl hed
    obtain ⟨kd, rn, pl, mi, ks⟩ := x
    simp only at *
    subst hk
    clear h hx hb1 hs1
    go_enter Tryd.func75, Tryd.ntmps75
    go_wp2_with fail
    go_ret
    exact HOUT.out
end
end Go.Proofs.YtimhlnndobfehaaDoor
namespace Go.Proofs.YtimhlnndobfehaaDoor
open Go.RowKit
set_option linter.unusedVariables false

section
variable {ns : List Nd} {L : List Lt} {An Al : Option Addr} {cn cl sp b : Nat} {Z : Nat → Prop} {w wr w' : World}
theorem seqR_snoc {R : Nat → Nat → Nat → Prop} {c : Int} : ∀ {l : List Int} {i j : Nat}, SeqR R (l ++ [c]) i j ↔ ∃ m, SeqR R l i m ∧ R c.toNat m j
  | [], i, j => by
    simp only [List.nil_append, SeqR]
    exact ⟨fun ⟨m, h, e⟩ => ⟨i, rfl, e ▸ h⟩, fun ⟨m, e, h⟩ => ⟨j, e ▸ h, rfl⟩⟩
  | d :: l, i, j => by
    simp only [List.cons_append, SeqR]
    constructor
    · rintro ⟨m, h1, h2⟩
      obtain ⟨q, h3, h4⟩ := seqR_snoc.1 h2
      exact ⟨q, ⟨m, h1, h3⟩, h4⟩
    · rintro ⟨q, ⟨m, h1, h3⟩, h4⟩
      exact ⟨m, h1, seqR_snoc.2 ⟨q, h3, h4⟩⟩
def SeqSt (ns : List Nd) (L : List Lt) (An Al : Option Addr) (cn cl sp b i : Nat) (Z : Nat → Prop) (ks : List Int) (W : World) (v x : Value) (wr : World) : Prop :=
  ∃ (j : Nat) (l : List Nat) (A : Option Addr) (c : Nat), v = .slice A l.length c ∧ x = .int .i64 (j : Int) ∧ j ≤ ks.length ∧ l.length ≤ 65 ∧ Hid (∀ q, q ∈ l ↔ SeqR (Lies ns L) (ks.take j) i q) ∧ Fill ns L An Al cn cl sp b Z W A c (toI l) wr
set_option maxHeartbeats 4000000 in
theorem find_seq {x : Nd} {k i : Nat} {B : Option Addr} {cc : Nat} (hx : NdIn ns x k b B cc w) (hk : x.kind = 6) (H : ∀ c ∈ x.kids, EndsOk ns L An Al cn cl sp b c.toNat) (h : Srch ns L An Al cn cl sp b Z w) (hZ : ∀ g, Z g → g < w.heap.size) (hi : i ≤ L.length) :
    Calls Tryd.prog 75 #[.pointer (some ⟨sp, 0, none⟩), .agg #[.int .u8 x.kind, .int .i32 x.rune, .int .u32 x.plus, .int .u32 x.minus, .slice B x.kids.length cc], .int .i64 (i : Int)] w (FillOut ns L An Al cn cl sp b Z w (Lies ns L k i)) := by
  have HL : Hid (∀ q, Lies ns L k i q ↔ SeqR (Lies ns L) x.kids i q) := fun q => by rw [lies_iff h.kids hx.at_]; unfold Body; rw [if_neg (by omega), if_neg (by omega), if_pos hk]
  have HR : Hid (∀ c ∈ x.kids, 0 ≤ c ∧ c < 256) := fun c hc => by
    have := h.kids k x hx.at_ c hc
    have := h.n1
    omega
  have hmx : Hid (∀ q, ∀ j, SeqR (Lies ns L) (x.kids.take j) i q → q ≤ L.length) := fun q j hq => SeqR.max (rel_max ns L ns.length) hi hq
  have HK := Lib.hid H
  clear H
  have hb1 : Below w.heap.size w (w.alloc (.cells #[.int .u8 x.kind, .int .i32 x.rune, .int .u32 x.plus, .int .u32 x.minus, .slice B x.kids.length cc] 44)) := (Below.refl _ _).alloc (Nat.le_refl _) _
  have hs1 := h.below hb1
  have hfill := Fill.fresh hs1 (Fr.of_below hb1) (fun g hg => Nat.lt_of_lt_of_le (hZ g hg) hb1.size) h.lt [(i : Int)] (by unfold maxLen; simp)
  have hspl := h.row.lt
  have hn2 := h.n2
  have hn1 := h.n1
  have hbw := h.lt
  have hkl := hx.len
  have hlec := hx.lec
  have HKS := Lib.hid hx.kids
  obtain ⟨kd, rn, pl, mi, ks⟩ := x
  simp only at *
  subst hk
  have hst : SeqSt ns L An Al cn cl sp b i Z ks w (.slice (some ⟨w.heap.size + 1, 0, none⟩) 1 1) (.int .i64 0) ((w.alloc (.cells #[.int .u8 6, .int .i32 rn, .int .u32 pl, .int .u32 mi, .slice B ks.length cc] 44)).alloc (.cells #[.int .i64 (i : Int)] 3)) :=
    ⟨0, [i], _, _, rfl, rfl, by simp, by simp, fun q => by simp [SeqR]; exact ⟨fun e => e.symm, fun e => e.symm⟩, by simpa [toI] using hfill⟩
  have HST := Lib.hid hst
  clear hst hfill hs1 hb1 h hx
  go_enter Tryd.func75, Tryd.ntmps75
  go_wp2_with fail
  go_loopw [7, 41] (fun v x wr => SeqSt ns L An Al cn cl sp b i Z ks w v x wr) (fun _ x _ => ks.length - (intOf x).toNat)
  case atStart => exact HST.out
  case round =>
    clear HST
    obtain ⟨j, l, A, c, rfl, rfl, hj, hl, hm, hfill⟩ := hrel
    have hbs := hfill.fr.size
    by_cases hlt : j < ks.length
    · have hks : Sl 1 (vInt .i64) wr 0 b B ks := HKS.out.keep (vInt_good _) (fun g _ h2 => hfill.fr.block g (by omega) (by show ¬ g = b; omega))
      obtain ⟨gb, off, rfl, _, hb2, ⟨z0, z1⟩, _⟩ := ints_at hks hlt
      have hc := HR.out ks[j] (List.getElem_mem hlt)
      have hok := HK.out ks[j] (List.getElem_mem hlt)
      obtain ⟨cN, hcN⟩ : ∃ q : Nat, ks[j] = (q : Int) := ⟨ks[j].toNat, by omega⟩
      rw [hcN] at z0 hok
      have hmem := hm.out
      have hp : ∀ p ∈ l, p ≤ L.length := fun p hp => hmx.out p j ((hmem p).1 hp)
      have hsl := own_ints hfill.own (fun y hy => by
        obtain ⟨q, rfl, hq⟩ := toI_mem.1 hy
        have := hp q hq
        exact kin_mk64 (by omega)) (lo := b + 1) (by omega)
      have hcall := Lib.hid (each_any (c := c) hok (hfill.s.weak (T := Z) (fun g _ hg => .inl hg) fun g hg => hfill.s.zb g (.inl hg)) hfill.z hp hl hsl)
      have hgw : gb < wr.heap.size := by omega
      have j1 : (j : Int) < (ks.length : Int) := by omega
      have j2 : 0 ≤ (j : Int) := by omega
      have HFR := Lib.hid hfill.fr
      have HM := Lib.hid (fun (l2 : List Nat) (h2 : ∀ q, q ∈ l2 ↔ ∃ p ∈ l, Lies ns L cN p q) => show ∀ q, q ∈ l2 ↔ SeqR (Lies ns L) (ks.take (j + 1)) i q from fun q => by
        rw [h2 q, List.take_succ_eq_append_getElem hlt, hcN, seqR_snoc]
        exact exists_congr fun p => and_congr_left fun _ => hmem p)
      have e0 : (cN : Int).toNat = cN := rfl
      rw [e0] at hcall
      clear hks hsl hfill hm hmem hok hcN HL
      go_wp2_with fail
      refine hcall.out.mono ?_
      rintro e w2 ⟨l2, A2, c2, rfl, hl2, hm2, hfill2⟩
      have hfin : SeqSt ns L An Al cn cl sp b i Z ks w (.slice A2 l2.length c2) (.int .i64 ((j : Int) + 1)) w2 := ⟨j + 1, l2, _, _, rfl, by simp, by omega, hl2, HM.out l2 hm2, hfill2.on HFR.out⟩
      have HFIN := Lib.hid hfin
      clear hfin hfill2 hm2 hcall HM HFR z0 z1
      go_wp2_with fail
      exact ⟨HFIN.out, by simp [intOf]; omega⟩
    · obtain rfl : j = ks.length := by omega
      have j1 : ¬ (ks.length : Int) < (ks.length : Int) := by omega
      have hout : FillOut ns L An Al cn cl sp b Z w (Lies ns L k i) (.returned (.slice A l.length c)) wr := ⟨toI l, A, c, by rw [toI_len], by rw [toI_len]; omega, fun y => by
        rw [toI_mem]
        exact exists_congr fun q => and_congr_right fun _ => by rw [hm.out q, List.take_length]; exact (HL.out q).symm, hfill⟩
      have HOUT := Lib.hid hout
      clear hout hfill hm HL
      go_wp2_with fail
      go_ret
      exact HOUT.out
end
end Go.Proofs.YtimhlnndobfehaaDoor
