/- The ends of one of several, of a thing or nothing, of a star. -/
import Derived.Test.YtimhlnndobfehaaDoorMc13
namespace Go.Proofs.YtimhlnndobfehaaDoor
open Go.RowKit
set_option linter.unusedVariables false

section
variable {ns : List Nd} {L : List Lt} {An Al : Option Addr} {cn cl sp b : Nat} {Z : Nat → Prop} {w wr w' : World}
def OrSt (ns : List Nd) (L : List Lt) (An Al : Option Addr) (cn cl sp b i : Nat) (Z : Nat → Prop) (ks : List Int) (W : World) (v x : Value) (wr : World) : Prop :=
  ∃ (j : Nat) (acc : List Int) (A : Option Addr) (c : Nat), v = .slice A acc.length c ∧ x = .int .i64 (j : Int) ∧ j ≤ ks.length ∧ acc.length ≤ j * 65 ∧ Hid (∀ x, x ∈ acc ↔ ∃ q : Nat, x = (q : Int) ∧ ∃ d ∈ ks.take j, Lies ns L d.toNat i q) ∧ Fill ns L An Al cn cl sp b Z W A c acc wr
set_option maxHeartbeats 4000000 in
theorem find_or {x : Nd} {k i : Nat} {B : Option Addr} {cc : Nat} (hx : NdIn ns x k b B cc w) (hk : x.kind = 7) (H : ∀ c ∈ x.kids, EndsOk ns L An Al cn cl sp b c.toNat) (h : Srch ns L An Al cn cl sp b Z w) (hZ : ∀ g, Z g → g < w.heap.size) (hi : i ≤ L.length) :
    Calls Tryd.prog 75 #[.pointer (some ⟨sp, 0, none⟩), .agg #[.int .u8 x.kind, .int .i32 x.rune, .int .u32 x.plus, .int .u32 x.minus, .slice B x.kids.length cc], .int .i64 (i : Int)] w (FillOut ns L An Al cn cl sp b Z w (Lies ns L k i)) := by
  obtain ⟨i1, hi1, hy0, hy1, hy2⟩ := info_parts mint_info
  have HL : Hid (∀ q, Lies ns L k i q ↔ ∃ d ∈ x.kids, Lies ns L d.toNat i q) := fun q => by rw [lies_iff h.kids hx.at_]; unfold Body; rw [if_neg (by omega), if_neg (by omega), if_neg (by omega), if_pos hk]
  have HR : Hid (∀ c ∈ x.kids, 0 ≤ c ∧ c < 256) := fun c hc => by
    have := h.kids k x hx.at_ c hc
    have := h.n1
    omega
  have HK := Lib.hid H
  clear H
  have hb1 : Below w.heap.size w (w.alloc (.cells #[.int .u8 x.kind, .int .i32 x.rune, .int .u32 x.plus, .int .u32 x.minus, .slice B x.kids.length cc] 44)) := (Below.refl _ _).alloc (Nat.le_refl _) _
  have hs1 := h.below hb1
  have hfill := (Fill.nil hs1 fun g hg => Nat.lt_of_lt_of_le (hZ g hg) hb1.size).on (Fr.of_below hb1)
  have hspl := h.row.lt
  have hn2 := h.n2
  have hn1 := h.n1
  have hbw := h.lt
  have hkl := hx.len
  have hlec := hx.lec
  have HKS := Lib.hid hx.kids
  obtain ⟨kd, rn, pl, mi, ks⟩ := x
  simp only at *
  subst hk
  have hst : OrSt ns L An Al cn cl sp b i Z ks w (.slice none 0 0) (.int .i64 0) (w.alloc (.cells #[.int .u8 7, .int .i32 rn, .int .u32 pl, .int .u32 mi, .slice B ks.length cc] 44)) :=
    ⟨0, [], _, _, rfl, rfl, by simp, by simp, fun q => by simp, hfill⟩
  have HST := Lib.hid hst
  clear hst hfill hs1 hb1 h hx
  go_enter Tryd.func75, Tryd.ntmps75
  go_wp2_with fail
  go_loopw [10, 56] (fun v x wr => OrSt ns L An Al cn cl sp b i Z ks w v x wr) (fun _ x _ => ks.length - (intOf x).toNat)
  case atStart => exact HST.out
  case round =>
    clear HST
    obtain ⟨j, acc, A, c, rfl, rfl, hj, hal, hm, hfill⟩ := hrel
    have hbs := hfill.fr.size
    by_cases hlt : j < ks.length
    · have hks : Sl 1 (vInt .i64) wr 0 b B ks := HKS.out.keep (vInt_good _) (fun g _ h2 => hfill.fr.block g (by omega) (by show ¬ g = b; omega))
      obtain ⟨gb, off, rfl, _, hb2, ⟨z0, z1⟩, _⟩ := ints_at hks hlt
      have hc := HR.out ks[j] (List.getElem_mem hlt)
      have hok := HK.out ks[j] (List.getElem_mem hlt)
      obtain ⟨cN, hcN⟩ : ∃ q : Nat, ks[j] = (q : Int) := ⟨ks[j].toNat, by omega⟩
      rw [hcN] at z0 hok
      have e0 : (cN : Int).toNat = cN := rfl
      rw [e0] at hok
      have hcall := Lib.hid (hok i _ wr hi hfill.zlt hfill.s)
      have hnx : ∀ x, x ∈ acc ++ endsI ns L cN i ↔ ∃ q : Nat, x = (q : Int) ∧ ∃ d ∈ ks.take (j + 1), Lies ns L d.toNat i q := fun x => by
        rw [List.mem_append, hm.out x, endsI_mem hi, List.take_succ_eq_append_getElem hlt, hcN]
        constructor
        · rintro (⟨q, e, p, hp, hl⟩ | ⟨q, e, hl⟩)
          · exact ⟨q, e, p, List.mem_append_left _ hp, hl⟩
          · exact ⟨q, e, (cN : Int), List.mem_append_right _ (List.mem_singleton.2 rfl), hl⟩
        · rintro ⟨q, e, p, hp, hl⟩
          rcases List.mem_append.1 hp with hp | hp
          · exact .inl ⟨q, e, p, hp, hl⟩
          · rw [List.mem_singleton.1 hp] at hl
            exact .inr ⟨q, e, hl⟩
      have HNX := Lib.hid hnx
      have hel := endsI_len ns L cN i
      generalize endsI ns L cN i = E at *
      have hgw : gb < wr.heap.size := by omega
      have j1 : (j : Int) < (ks.length : Int) := by omega
      have j2 : 0 ≤ (j : Int) := by omega
      have HFI := Lib.hid hfill
      clear hks hfill hm hnx hok hcN HL
      go_wp2_with fail
      refine hcall.out.mono ?_
      rintro e w2 ⟨A2, c2, rfl, hsl2, hs2, hfr2⟩
      have hfill2 := HFI.out.call hs2 hfr2
      have h63 : acc.length + E.length ≤ maxLen := by unfold maxLen; omega
      have h8 : (acc.length + E.length) * 8 ≤ 140737488355328 := by omega
      have hbs2 := hfill2.fr.size
      have hown2 := hfill2.own
      have HFI2 := Lib.hid hfill2
      have hsl3 := hsl2.1
      clear hcall HFI hs2 hfr2 z0 z1 hsl2 hfill2
      go_wp2_with (at_builtin; refine wpList_append_ints rfl _ _ 42 rfl 3 i1 8 Tryd.underlying42 hi1 hy0 hy1 hy2 rfl rfl hown2 hsl3 h63 h8 hbs2 ?_)
      intro A5 c5 w5 hown5 hfr5 hat5
      simp only [← List.length_append, ← List.map_append] at hown5 hat5 ⊢
      have hfill5 := HFI2.out.grow hbw hown5 hfr5 hat5
      have hfin : OrSt ns L An Al cn cl sp b i Z ks w (.slice A5 (acc ++ E).length c5) (.int .i64 ((j : Int) + 1)) w5 := ⟨j + 1, _, _, _, rfl, by simp, by omega, by rw [List.length_append]; omega, HNX.out, hfill5⟩
      have HFIN := Lib.hid hfin
      clear hfin hfill5 hown5 hfr5 hat5 hown2 hsl3 HFI2
      generalize (acc ++ E).length = q at *
      go_wp2_with fail
      exact ⟨HFIN.out, by simp [intOf]; omega⟩
    · obtain rfl : j = ks.length := by omega
      have j1 : ¬ (ks.length : Int) < (ks.length : Int) := by omega
      have hout : FillOut ns L An Al cn cl sp b Z w (Lies ns L k i) (.returned (.slice A acc.length c)) wr := ⟨acc, A, c, rfl, by omega, fun y => by
        rw [hm.out y, List.take_length]
        exact exists_congr fun q => and_congr_right fun _ => (HL.out q).symm, hfill⟩
      have HOUT := Lib.hid hout
      clear hout hfill hm HL
      go_wp2_with fail
      go_ret
      exact HOUT.out
set_option maxHeartbeats 4000000 in
theorem find_star {x : Nd} {k i : Nat} {B : Option Addr} {cc : Nat} (hx : NdIn ns x k b B cc w) (hk : x.kind = 8) (h1 : x.kids.length = 1) (H : ∀ c ∈ x.kids, EndsOk ns L An Al cn cl sp b c.toNat) (h : Srch ns L An Al cn cl sp b Z w) (hZ : ∀ g, Z g → g < w.heap.size) (hi : i ≤ L.length) :
    Calls Tryd.prog 75 #[.pointer (some ⟨sp, 0, none⟩), .agg #[.int .u8 x.kind, .int .i32 x.rune, .int .u32 x.plus, .int .u32 x.minus, .slice B x.kids.length cc], .int .i64 (i : Int)] w (FillOut ns L An Al cn cl sp b Z w (Lies ns L k i)) := by
  obtain ⟨kd, rn, pl, mi, ks⟩ := x
  simp only at *
  obtain ⟨c, rfl⟩ := List.length_eq_one_iff.1 h1
  have hc := h.kids k _ hx.at_ c (by simp)
  have hn1 := h.n1
  obtain ⟨cN, rfl⟩ : ∃ q : Nat, c = (q : Int) := ⟨c.toNat, by omega⟩
  have HL : Hid (∀ q, Lies ns L k i q ↔ Star (Lies ns L cN) i q) := fun q => by
    rw [lies_iff h.kids hx.at_]
    unfold Body
    simp only
    rw [if_neg (by omega), if_neg (by omega), if_neg (by omega), if_neg (by omega), if_neg (by omega), if_pos hk]
    simp only [List.head?_cons, Option.some.injEq]
    exact ⟨fun e => by
      rcases e with rfl | ⟨_, rfl, hs⟩
      · exact .refl _
      · exact hs, fun hs => .inr ⟨_, rfl, hs⟩⟩
  have hok := H (cN : Int) (by simp)
  have e0 : (cN : Int).toNat = cN := rfl
  rw [e0] at hok
  subst hk
  have hb1 : Below w.heap.size w (w.alloc (.cells #[.int .u8 8, .int .i32 rn, .int .u32 pl, .int .u32 mi, .slice B [(cN : Int)].length cc] 44)) := (Below.refl _ _).alloc (Nat.le_refl _) _
  have hs1 := h.below hb1
  have hcall := Lib.hid (again_any hok hs1 (fun g hg => Nat.lt_of_lt_of_le (hZ g hg) hb1.size) hi)
  have hks : Sl 1 (vInt .i64) (w.alloc (.cells #[.int .u8 8, .int .i32 rn, .int .u32 pl, .int .u32 mi, .slice B [(cN : Int)].length cc] 44)) 0 b B [(cN : Int)] := hx.kids.below (vInt_good _) hb1 (Nat.le_of_lt h.lt)
  obtain ⟨gb, off, rfl, _, hb2, ⟨z0, z1⟩, _⟩ := ints_at hks (i := 0) (by simp)
  have hbw := h.lt
  have hgw : gb < w.heap.size := by omega
  have HB := Lib.hid hb1
  simp only [List.getElem_cons_zero, Nat.add_zero, List.length_singleton] at *
  clear hks hs1 h hx hok H hb1
  go_enter Tryd.func75, Tryd.ntmps75
  go_wp2_with fail
  refine hcall.out.mono ?_
  rintro e w2 ⟨acc, A, c, rfl, hl, hm, hfill⟩
  have hout : FillOut ns L An Al cn cl sp b Z w (Lies ns L k i) (.returned (.slice A acc.length c)) w2 := ⟨acc, A, c, rfl, by omega, fun y => by
    rw [hm y]
    exact exists_congr fun q => and_congr_right fun _ => (HL.out q).symm, hfill.on (Fr.of_below HB.out)⟩
  have HOUT := Lib.hid hout
  clear hout hfill hm HL
  go_wp2_with fail
  go_ret
  exact HOUT.out
set_option maxHeartbeats 4000000 in
set_option maxRecDepth 100000 in
theorem find_opt {x : Nd} {k i : Nat} {B : Option Addr} {cc : Nat} (hx : NdIn ns x k b B cc w) (hk : x.kind = 9) (h1 : x.kids.length = 1) (H : ∀ c ∈ x.kids, EndsOk ns L An Al cn cl sp b c.toNat) (h : Srch ns L An Al cn cl sp b Z w) (hZ : ∀ g, Z g → g < w.heap.size) (hi : i ≤ L.length) :
    Calls Tryd.prog 75 #[.pointer (some ⟨sp, 0, none⟩), .agg #[.int .u8 x.kind, .int .i32 x.rune, .int .u32 x.plus, .int .u32 x.minus, .slice B x.kids.length cc], .int .i64 (i : Int)] w (FillOut ns L An Al cn cl sp b Z w (Lies ns L k i)) := by
  obtain ⟨i1, hi1, hy0, hy1, hy2⟩ := info_parts mint_info
  obtain ⟨kd, rn, pl, mi, ks⟩ := x
  simp only at *
  obtain ⟨c, rfl⟩ := List.length_eq_one_iff.1 h1
  have hc := h.kids k _ hx.at_ c (by simp)
  have hn1 := h.n1
  have hn2 := h.n2
  obtain ⟨cN, rfl⟩ : ∃ q : Nat, c = (q : Int) := ⟨c.toNat, by omega⟩
  have HL : Hid (∀ q, Lies ns L k i q ↔ i = q ∨ Lies ns L cN i q) := fun q => by
    rw [lies_iff h.kids hx.at_]
    unfold Body
    simp only
    rw [if_neg (by omega), if_neg (by omega), if_neg (by omega), if_neg (by omega), if_pos hk]
    simp only [List.head?_cons, Option.some.injEq]
    exact or_congr Iff.rfl ⟨fun ⟨_, e, hs⟩ => by subst e; exact hs, fun hs => ⟨_, rfl, hs⟩⟩
  have hok := H (cN : Int) (by simp)
  have e0 : (cN : Int).toNat = cN := rfl
  rw [e0] at hok
  subst hk
  have hb1 : Below w.heap.size w (w.alloc (.cells #[.int .u8 9, .int .i32 rn, .int .u32 pl, .int .u32 mi, .slice B [(cN : Int)].length cc] 44)) := (Below.refl _ _).alloc (Nat.le_refl _) _
  have hs1 := h.below hb1
  have hfill0 := Fill.fresh hs1 (Fr.of_below hb1) (fun g hg => Nat.lt_of_lt_of_le (hZ g hg) hb1.size) h.lt [(i : Int)] (by unfold maxLen; simp)
  have hfill : Fill ns L An Al cn cl sp b Z w (some ⟨w.heap.size + 1, 0, none⟩) 1 [(i : Int)] ((w.alloc (.cells #[.int .u8 9, .int .i32 rn, .int .u32 pl, .int .u32 mi, .slice B [(cN : Int)].length cc] 44)).alloc (.cells #[.int .i64 (i : Int)] 3)) := by simpa using hfill0
  clear hfill0
  have hcall := Lib.hid (hok i _ _ hi hfill.zlt hfill.s)
  have hks := hx.kids.keep (w' := (w.alloc (.cells #[.int .u8 9, .int .i32 rn, .int .u32 pl, .int .u32 mi, .slice B [(cN : Int)].length cc] 44)).alloc (.cells #[.int .i64 (i : Int)] 3)) (vInt_good _) (fun g _ h2 => hfill.fr.block g (by have := h.lt; omega) (by show ¬ g = b; omega))
  obtain ⟨gb, off, rfl, _, hb2, ⟨z0, z1⟩, _⟩ := ints_at hks (i := 0) (by simp)
  have hbw := h.lt
  have hgw : gb < w.heap.size := by omega
  have HFI := Lib.hid hfill
  simp only [List.getElem_cons_zero, Nat.add_zero, List.length_singleton] at *
  have hrw := Row.new w 44 [.int .u8 9, .int .i32 rn, .int .u32 pl, .int .u32 mi, .slice (some ⟨gb, off, none⟩) 1 cc]
  obtain ⟨y0, y1⟩ := (hrw.alloc (.cells #[.int .i64 (i : Int)] 3)).cel (i := 4) rfl
  have hnx : ∀ x, x ∈ [(i : Int)] ++ endsI ns L cN i ↔ ∃ q : Nat, x = (q : Int) ∧ Lies ns L k i q := fun x => by
    rw [List.mem_append, endsI_mem hi, List.mem_singleton]
    constructor
    · rintro (e | ⟨q, e, hl⟩)
      · exact ⟨i, e, (HL.out i).2 (.inl rfl)⟩
      · exact ⟨q, e, (HL.out q).2 (.inr hl)⟩
    · rintro ⟨q, e, hl⟩
      rcases (HL.out q).1 hl with rfl | hl
      · exact .inl e
      · exact .inr ⟨q, e, hl⟩
  have HNX := Lib.hid hnx
  have hel := endsI_len ns L cN i
  generalize endsI ns L cN i = E at *
  clear hks hs1 h hx hok H hb1 hnx HL hfill
  go_enter Tryd.func75, Tryd.ntmps75
  go_wp2_with fail
  refine hcall.out.mono ?_
  rintro e w2 ⟨A2, c2, rfl, hsl2, hs2, hfr2⟩
  have hfill2 := HFI.out.call hs2 hfr2
  have h63 : [(i : Int)].length + E.length ≤ maxLen := by unfold maxLen; simp; omega
  have h8 : ([(i : Int)].length + E.length) * 8 ≤ 140737488355328 := by simp; omega
  have hbs2 := hfill2.fr.size
  have hown2 := hfill2.own
  have HFI2 := Lib.hid hfill2
  have hsl3 := hsl2.1
  clear hcall HFI hs2 hfr2 z0 z1 hsl2 hfill2 y0 y1
  go_wp2_with (at_builtin; refine wpList_append_ints rfl _ _ 42 rfl 3 i1 8 Tryd.underlying42 hi1 hy0 hy1 hy2 (A := some ⟨w.heap.size + 1, 0, none⟩) (c := 1) (xs := [(i : Int)]) rfl rfl hown2 hsl3 h63 h8 hbs2 ?_)
  intro A5 c5 w5 hown5 hfr5 hat5
  have hown6 : w5.ownsRow w.heap.size 3 1 (.slice A5 ([(i : Int)] ++ E).length c5) ([(i : Int)] ++ E).length (([(i : Int)] ++ E).map (Value.int .i64)) := by simpa using hown5
  have hfill5 := HFI2.out.grow hbw hown6 (by simpa using hfr5) (fun g hg => by simpa using hat5 g (by simpa using hg))
  have hout : FillOut ns L An Al cn cl sp b Z w (Lies ns L k i) (.returned (.slice A5 (E.length + 1) c5)) w5 := ⟨[(i : Int)] ++ E, A5, c5, by simp, by simp; omega, HNX.out, hfill5⟩
  have HOUT := Lib.hid hout
  clear hout hfill5 hown6 hown5 hfr5 hat5 hown2 hsl3 HFI2
  go_wp2_with fail
  go_ret
  exact HOUT.out
end
end Go.Proofs.YtimhlnndobfehaaDoor
