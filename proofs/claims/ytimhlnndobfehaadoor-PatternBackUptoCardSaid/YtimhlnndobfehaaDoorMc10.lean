/- A node's ends from each of some places. -/
import Derived.Test.YtimhlnndobfehaaDoorMc08
import Derived.Test.YtimhlnndobfehaaDoorMc09
namespace Go.Proofs.YtimhlnndobfehaaDoor
open Go.RowKit
set_option linter.unusedVariables false

/-- The contract of 'ends' at a node. -/
def EndsOk (ns : List Nd) (L : List Lt) (An Al : Option Addr) (cn cl sp b k : Nat) : Prop :=
  ∀ (i : Nat) (Z : Nat → Prop) (w : World), i ≤ L.length → (∀ g, Z g → g < w.heap.size) → Srch ns L An Al cn cl sp b Z w → Calls Tryd.prog 56 #[.pointer (some ⟨sp, 0, none⟩), .int .i64 (k : Int), .int .i64 (i : Int)] w (PlOut ns L An Al cn cl sp b Z w (endsI ns L k i))
theorem endsI_mem {ns : List Nd} {L : List Lt} {k i : Nat} (hi : i ≤ L.length) {x : Int} : x ∈ endsI ns L k i ↔ ∃ q : Nat, x = (q : Int) ∧ Lies ns L k i q := by
  unfold endsI
  rw [toI_mem]
  exact exists_congr fun q => and_congr_right fun _ => mem_ends hi
theorem endsI_len (ns : List Nd) (L : List Lt) (k i : Nat) : (endsI ns L k i).length ≤ L.length + 1 := by unfold endsI; rw [toI_len]; exact ends_len ns L k i
/-- What is owned of later than the search's map is read beside it. -/
theorem own_ints {w : World} {base : Nat} {A : Option Addr} {c : Nat} {l : List Int} (h : w.ownsRow base 3 1 (.slice A l.length c) l.length (l.map (Value.int .i64))) (hk : ∀ x ∈ l, kin .i64 x) {lo : Nat} (hlo : lo ≤ base) : Sl 1 (vInt .i64) w lo w.heap.size A l := fun hn => by
  obtain ⟨g, c', e, _, _, h1, h2⟩ := own_pos h hn
  injection e with e1 _ e2
  subst e1 e2
  refine ⟨g, 0, rfl, by omega, h2, fun i x hx => ⟨[.int .i64 x], rfl, fun j v hj => ?_, rfl, hk x (List.mem_of_getElem? hx)⟩⟩
  match j, hj with
  | 0, hj =>
    simp only [List.getElem?_cons_zero, Option.some.injEq] at hj
    subst hj
    have := own_cel h (j := i) (u := .int .i64 x) (by rw [List.getElem?_map, hx]; rfl)
    simpa using this
theorem places_kin {l : List Int} {S : Nat → Prop} {m : Nat} (hm : m ≤ 64) (h : ∀ x, x ∈ l ↔ ∃ j : Nat, x = (j : Int) ∧ S j) (hS : ∀ j, S j → j ≤ m) : ∀ x ∈ l, kin .i64 x := fun x hx => by
  obtain ⟨j, rfl, hj⟩ := (h x).1 hx
  have := hS j hj
  exact kin_mk64 (by omega)

section
variable {ns : List Nd} {L : List Lt} {An Al : Option Addr} {cn cl sp b : Nat} {Z : Nat → Prop} {w wr w' : World} {base : Nat} {v : Value} {e : TypeId} {sz n : Nat} {xs : List Value}
/-- The state of a list that is filled by a call: its own row, and a search beside it. -/
structure Fill (ns : List Nd) (L : List Lt) (An Al : Option Addr) (cn cl sp b : Nat) (Z : Nat → Prop) (W : World) (A : Option Addr) (c : Nat) (acc : List Int) (wr : World) : Prop where
  own : wr.ownsRow W.heap.size 3 1 (.slice A acc.length c) acc.length (acc.map (Value.int .i64))
  s : Srch ns L An Al cn cl sp b (Zv Z (.slice A acc.length c)) wr
  fr : Fr (fun k => k = b) W wr
  z : ∀ g, Z g → g < wr.heap.size
theorem Fill.nil (h : Srch ns L An Al cn cl sp b Z w) (hz : ∀ g, Z g → g < w.heap.size) : Fill ns L An Al cn cl sp b Z w none 0 [] w :=
  ⟨World.ownsRow_nil _ _ _ _, h.weak (fun g _ hg => hg.elim id fun h => by cases h) (fun g hg => hg.elim (h.zb g) fun h => by cases h), Fr.refl _ _, hz⟩
/-- Behind a call of the search's. -/
theorem Fill.call {A : Option Addr} {c : Nat} {acc : List Int} (h : Fill ns L An Al cn cl sp b Z w A c acc wr) (hs : Srch ns L An Al cn cl sp b (Zv Z (.slice A acc.length c)) w') (hf : Fr (fun k => k = b) wr w') : Fill ns L An Al cn cl sp b Z w A c acc w' :=
  ⟨own_fr h.own hf fun g hg e => by
      have h1 := h.s.zb g (.inr hg)
      have e : g = b := e
      omega, hs, h.fr.trans hf fun _ _ h => h, fun g hg => Nat.lt_of_lt_of_le (h.z g hg) hf.size⟩
theorem Fill.zlt {A : Option Addr} {c : Nat} {acc : List Int} (h : Fill ns L An Al cn cl sp b Z w A c acc wr) : ∀ g, Zv Z (.slice A acc.length c) g → g < wr.heap.size := fun g hg => by
  rcases hg with hg | hg
  · exact h.z g hg
  · exact (h.own.lt g hg).2
/-- Behind a growth of the list. -/
theorem Fill.grow {A A' : Option Addr} {c c' : Nat} {acc acc' : List Int} (h : Fill ns L An Al cn cl sp b Z w A c acc wr) (hb : b < w.heap.size)
    (ho : w'.ownsRow w.heap.size 3 1 (.slice A' acc'.length c') acc'.length (acc'.map (Value.int .i64))) (hf : Fr (fun g => (Value.slice A acc.length c).ownBlock = some g) wr w')
    (hn : ∀ g, (Value.slice A' acc'.length c').ownBlock = some g → (Value.slice A acc.length c).ownBlock = some g ∨ wr.heap.size ≤ g) : Fill ns L An Al cn cl sp b Z w A' c' acc' w' := by
  have hs2 : Srch ns L An Al cn cl sp b (fun g => Zv Z (.slice A acc.length c) g ∨ Zv Z (.slice A' acc'.length c') g) wr := h.s.weak (fun g hg hz => by
    rcases hz with hz | hz | hz
    · exact hz
    · exact .inl hz
    · rcases hn g hz with h1 | h1
      · exact .inr h1
      · omega) (fun g hz => by
    rcases hz with hz | hz | hz
    · exact h.s.zb g hz
    · exact h.s.zb g (.inl hz)
    · have := (ho.lt g hz).1; omega)
  have hs3 := hs2.touch hf fun g _ hg => .inl (.inr hg)
  exact ⟨ho, hs3.weak (fun g _ hz => .inr hz) (fun g hz => hs3.zb g (.inr hz)), h.fr.trans hf fun k hk hg => absurd (h.own.lt k hg).1 (by omega), fun g hg => Nat.lt_of_lt_of_le (h.z g hg) hf.size⟩
theorem own_ne_map {k et : TypeId} {bm q : Nat} {S : Lit → Bool} (h : w.ownsRow base e sz v n xs) (hm : MapB Tryd.prog k et w bm q S) : v.ownBlock ≠ some bm := fun hg => by
  obtain ⟨D, ⟨es, clock, h1, _⟩, _⟩ := hm
  rcases h.2 with ⟨rfl, _⟩ | ⟨g, cap, cur, rfl, _, hh, _⟩
  · cases hg
  · obtain rfl : g = bm := Option.some.inj hg
    rw [h1] at hh
    cases hh
/-- Behind a change of a block of Z that is not the list's. -/
theorem Fill.touch {A : Option Addr} {c : Nat} {acc : List Int} {g : Nat} (h : Fill ns L An Al cn cl sp b Z w A c acc wr) (hf : Fr (fun k => k = g) wr w') (hg : Z g) (hw : w.heap.size ≤ g) (hn : (Value.slice A acc.length c).ownBlock ≠ some g) : Fill ns L An Al cn cl sp b Z w A c acc w' :=
  ⟨own_fr h.own hf fun k hk e => hn (by have e : k = g := e; rw [← e]; exact hk), h.s.touch hf fun k _ e => .inl (by have e : k = g := e; rw [e]; exact hg),
    h.fr.trans hf fun k hk e => by have e : k = g := e; omega, fun k hk => Nat.lt_of_lt_of_le (h.z k hk) hf.size⟩
theorem Fill.weak {T : Nat → Prop} {A : Option Addr} {c : Nat} {acc : List Int} (h : Fill ns L An Al cn cl sp b Z w A c acc wr) (hT : ∀ g, T g → Z g) : Fill ns L An Al cn cl sp b T w A c acc wr :=
  ⟨h.own, h.s.weak (fun g _ hz => hz.elim (fun hz => .inl (hT g hz)) .inr) (fun g hz => h.s.zb g (hz.elim (fun hz => .inl (hT g hz)) .inr)), h.fr, fun g hg => h.z g (hT g hg)⟩
end
theorem own_blk (A : Option Addr) (n c m d : Nat) : (Value.slice A n c).ownBlock = (Value.slice A m d).ownBlock := by cases A <;> rfl
theorem nat_list {cl : List Int} {S : Nat → Prop} (h : ∀ x, x ∈ cl ↔ ∃ q : Nat, x = (q : Int) ∧ S q) : ∃ l : List Nat, toI l = cl ∧ ∀ j, j ∈ l ↔ S j := by
  have hl : toI (cl.map Int.toNat) = cl := by
    unfold toI
    rw [List.map_map]
    conv => rhs; rw [← List.map_id cl]
    refine List.map_congr_left fun x hx => ?_
    obtain ⟨q, rfl, _⟩ := (h x).1 hx
    rfl
  refine ⟨_, hl, fun j => ?_⟩
  have h1 := h (j : Int)
  rw [← hl, toI_mem] at h1
  constructor
  · intro hj
    obtain ⟨q, e, hq⟩ := h1.1 ⟨j, rfl, hj⟩
    obtain rfl : j = q := by omega
    exact hq
  · intro hj
    obtain ⟨q, e, hq⟩ := h1.2 ⟨j, rfl, hj⟩
    obtain rfl : j = q := by omega
    exact hq
theorem rising_len {l : List Nat} {m : Nat} (hp : (toI l).Pairwise (· < ·)) (h : ∀ x ∈ l, x ≤ m) : l.length ≤ m + 1 := by
  refine nodup_sub id l (m + 1) ?_ (fun x hx => Nat.lt_succ_of_le (h x hx))
  unfold toI at hp
  rw [List.pairwise_map] at hp
  exact hp.imp fun h => by simp only [id]; omega
def MEachSt (ns : List Nd) (L : List Lt) (An Al : Option Addr) (cn cl sp b k : Nat) (Z : Nat → Prop) (fl : List Nat) (W : World) (v i : Value) (wr : World) : Prop :=
  ∃ (j : Nat) (acc : List Int) (A : Option Addr) (c : Nat), v = .slice A acc.length c ∧ i = .int .i64 (j : Int) ∧ j ≤ fl.length ∧ acc.length ≤ j * 65 ∧ Hid (∀ x, x ∈ acc ↔ ∃ q : Nat, x = (q : Int) ∧ ∃ p ∈ fl.take j, Lies ns L k p q) ∧
    Fill ns L An Al cn cl sp b Z W A c acc wr
set_option maxHeartbeats 4000000 in
set_option maxRecDepth 100000 in
theorem each_any {ns : List Nd} {L : List Lt} {An Al : Option Addr} {cn cl sp b k : Nat} {Z : Nat → Prop} {w : World} (H : EndsOk ns L An Al cn cl sp b k) (h : Srch ns L An Al cn cl sp b Z w) (hZ : ∀ g, Z g → g < w.heap.size) {A : Option Addr} {c : Nat} {fl : List Nat} (hf : ∀ i ∈ fl, i ≤ L.length) (hfl : fl.length ≤ 65) (hsl : Sl 1 (vInt .i64) w (b + 1) w.heap.size A (toI fl)) :
    Calls Tryd.prog 88 #[.pointer (some ⟨sp, 0, none⟩), .int .i64 (k : Int), .slice A fl.length c] w fun e w' => ∃ (l : List Nat) (A' : Option Addr) (c' : Nat), e = .returned (.slice A' l.length c') ∧ l.length ≤ 65 ∧ (∀ j, j ∈ l ↔ ∃ p ∈ fl, Lies ns L k p j) ∧ Fill ns L An Al cn cl sp b Z w A' c' (toI l) w' := by
  obtain ⟨i1, hi1, hy0, hy1, hy2⟩ := info_parts mint_info
  have H' := Lib.hid H
  have n1 := h.n1
  have n2 := h.n2
  have hbw := h.lt
  have hst : MEachSt ns L An Al cn cl sp b k Z fl w (.slice none 0 0) (.int .i64 0) w := ⟨0, [], none, 0, rfl, rfl, by omega, by simp, (fun x => by simp), Fill.nil h hZ⟩
  have HST := Lib.hid hst
  clear hst H
  go_enter Tryd.func88, Tryd.ntmps88
  go_wp2_with fail
  go_loopw [7, 12] (fun v i wr => MEachSt ns L An Al cn cl sp b k Z fl w v i wr) (fun _ i _ => fl.length - (intOf i).toNat)
  case atStart => exact HST.out
  case round =>
    clear HST
    obtain ⟨j, acc, B, d, rfl, rfl, hj, hal, hm, hfill⟩ := hrel
    have hbs := hfill.fr.size
    by_cases hlt : j < fl.length
    · have hsl' := Sl.same (w := w) (w' := wr) (fun _ _ h => h) hsl (fun hn ad e => by
        obtain ⟨b', off, e', h1, h2, _⟩ := hsl hn
        rw [e] at e'
        injection e' with e'
        subst e'
        exact hfill.fr.block _ h2 (by have h3 : b + 1 ≤ b' := h1; show ¬ b' = b; omega))
      obtain ⟨gb, off, rfl, hb1, hb2, ⟨z0, z1⟩, _⟩ := ints_at hsl' (i := j) (by rw [toI_len]; exact hlt)
      have hgw : gb < wr.heap.size := by omega
      have hfi := hf fl[j] (List.getElem_mem hlt)
      have ei : (toI fl)[j]'(by rw [toI_len]; exact hlt) = ((fl[j] : Nat) : Int) := by unfold toI; simp
      rw [ei] at z0
      have hcall := Lib.hid (H'.out fl[j] _ wr hfi hfill.zlt hfill.s)
      have hnx : ∀ x, x ∈ acc ++ endsI ns L k fl[j] ↔ ∃ q : Nat, x = (q : Int) ∧ ∃ p ∈ fl.take (j + 1), Lies ns L k p q := fun x => by
        rw [List.mem_append, hm.out x, endsI_mem hfi, List.take_succ_eq_append_getElem hlt]
        constructor
        · rintro (⟨q, e, p, hp, hl⟩ | ⟨q, e, hl⟩)
          · exact ⟨q, e, p, List.mem_append_left _ hp, hl⟩
          · exact ⟨q, e, fl[j], List.mem_append_right _ (List.mem_singleton.2 rfl), hl⟩
        · rintro ⟨q, e, p, hp, hl⟩
          rcases List.mem_append.1 hp with hp | hp
          · exact .inl ⟨q, e, p, hp, hl⟩
          · rw [List.mem_singleton.1 hp] at hl
            exact .inr ⟨q, e, hl⟩
      have HNX := Lib.hid hnx
      have hel := endsI_len ns L k fl[j]
      generalize endsI ns L k fl[j] = E at *
      generalize fl[j] = p at *
      have j1 : (j : Int) < (fl.length : Int) := by omega
      have j2 : 0 ≤ (j : Int) := by omega
      have HFI := Lib.hid hfill
      clear hnx hm hsl' ei hfill
      go_wp2_with fail
      refine hcall.out.mono ?_
      rintro e w2 ⟨A2, c2, rfl, hsl2, hs2, hfr2⟩
      have hfill2 := HFI.out.call hs2 hfr2
      have h63 : acc.length + E.length ≤ maxLen := by unfold maxLen; omega
      have h8 : (acc.length + E.length) * 8 ≤ 140737488355328 := by omega
      have hbs2 := hfill2.fr.size
      have hown2 := hfill2.own
      have HFI2 := Lib.hid hfill2
      have hsl3 := hsl2.1
      clear hcall HFI hs2 hfr2 z0 z1 hsl2 hfill2
      go_wp2_with (at_builtin; refine wpList_append_ints rfl _ _ 42 rfl 3 i1 8 Tryd.underlying42 hi1 hy0 hy1 hy2 rfl rfl hown2 hsl3 h63 h8 hbs2 ?_)
      intro A5 c5 w5 hown5 hfr5 hat5
      simp only [← List.length_append, ← List.map_append] at hown5 hat5 ⊢
      have hfill5 := HFI2.out.grow hbw hown5 hfr5 hat5
      have hfin : MEachSt ns L An Al cn cl sp b k Z fl w (.slice A5 (acc ++ E).length c5) (.int .i64 ((j : Int) + 1)) w5 := ⟨j + 1, _, _, _, rfl, by simp, by omega, by rw [List.length_append]; omega, HNX.out, hfill5⟩
      have HFIN := Lib.hid hfin
      clear hfin hfill5 hown5 hfr5 hat5 hown2 hsl3 HFI2
      generalize (acc ++ E).length = q at *
      go_wp2_with fail
      exact ⟨HFIN.out, by simp [intOf]; omega⟩
    · obtain rfl : j = fl.length := by omega
      have j1 : ¬ (fl.length : Int) < (fl.length : Int) := by omega
      have hsort := Lib.hid (sortInt_any hfill.own (by omega))
      have HFI := Lib.hid hfill
      clear hfill
      go_wp2_with fail
      refine hsort.out.mono ?_
      rintro e w2 ⟨rfl, hfr2, hown2⟩
      have hfill2 := HFI.out.grow (acc' := srtL acc) hbw (by rw [srt_len]; exact hown2) hfr2 (fun g hg => .inl (by rw [srt_len] at hg; exact hg))
      have hcomp := Lib.hid (compactInt_any hfill2.own (by rw [srt_len]; omega))
      have HFI2 := Lib.hid hfill2
      rw [srt_len] at hcomp
      clear hfill2 hown2 hfr2 hsort HFI
      go_wp2_with fail
      refine hcomp.out.mono ?_
      rintro e w3 ⟨A3, c3, e3, rfl, hfr3, hown3⟩
      obtain ⟨l, hl, hlm⟩ := nat_list (cl := Lib.compact (srtL acc)) (S := fun q => ∃ p ∈ fl, Lies ns L k p q) fun x => by
        have h1 : x ∈ Lib.compact (srtL acc) ↔ x ∈ acc := cut_mem
        rw [h1, hm.out x, List.take_length]
      have hll : l.length ≤ 65 := by
        have := rising_len (m := L.length) (by rw [hl]; exact cut_lt acc) fun x hx => by
          obtain ⟨p, hp, hq⟩ := (hlm x).1 hx
          exact rel_max ns L _ _ _ _ (hf p hp) hq
        omega
      rw [← hl] at hown3 ⊢
      injection e3 with e4 e5 e6
      subst e4 e6
      have hfill3 := HFI2.out.grow hbw (acc' := toI l) hown3 (by rw [srt_len]; exact hfr3) (fun g hg => .inl (by rw [own_blk _ _ _ (toI l).length d]; exact hg))
      rw [toI_len]
      have HFIN := Lib.hid hfill3
      clear hfill3 hown3 hfr3 HFI2 hl
      go_wp2_with fail
      go_ret
      exact ⟨l, _, _, rfl, hll, hlm, HFIN.out⟩
end Go.Proofs.YtimhlnndobfehaaDoor
