/- What ends and what begins, and what is whole: plain. The law's has and long. A law's state with one pattern boxed; a list that a call gave. pattern.walked, walked. Patterns of one node, walked. A law's state with two patterns boxed, one of them its own. Integers that were copied; of what kind they are. -/
import Derived.Test.YtimhlnndobfehaaGreatDoorMd27
import Derived.Test.YtimhlnndobfehaaGreatDoorMd34
import Derived.Laws.EntriesVeiled
import Derived.Test.YtimhlnndobfehaaGreatDoorMd26
import Derived.Test.YtimhlnndobfehaaGreatDoorMd17
import Derived.Test.YtimhlnndobfehaaGreatDoorChecked
import Derived.Laws.ResultCell
namespace Go.Proofs.YtimhlnndobfehaaGreatDoor
open Go.RowKit
set_option linter.unusedVariables false

theorem mem_toI {l : List Nat} {x : Int} : x ∈ toI l ↔ ∃ k : Nat, k ∈ l ∧ x = (k : Int) := by
  unfold toI
  rw [List.mem_map]
  constructor
  · rintro ⟨k, h, rfl⟩; exact ⟨k, h, rfl⟩
  · rintro ⟨k, h, rfl⟩; exact ⟨k, h, rfl⟩
theorem mem_toI_nat {l : List Nat} {k : Nat} : (k : Int) ∈ toI l ↔ k ∈ l := by
  rw [mem_toI]
  constructor
  · rintro ⟨j, h, e⟩; have : k = j := by omega
    rw [this]; exact h
  · exact fun h => ⟨k, h, rfl⟩
theorem toI_sorted {l : List Nat} (h : l.Pairwise (· < ·)) : (toI l).Pairwise (· < ·) := by
  unfold toI
  rw [List.pairwise_map]
  exact h.imp fun h => by omega
theorem matW_length (a : Al) (s : ByteArray) : (matW a s).length = (lettersS a s).1.length := by
  unfold matW
  rw [matL_len]
theorem ends_ok {a : Al} {ns : List Nd} {s : ByteArray} (hb : begE a ns s = 0) {i : Nat} (hi : i ≤ (matW a s).length) : endsS a ns s (i : Int) = (toI (endsL ns (matW a s) 0 i), 0) := by
  have hp : placeB (matW a s) (i : Int) = true := by unfold placeB; rw [decide_eq_true_eq]; omega
  unfold endsS
  rw [if_neg (by simp [hb]), if_pos hp]
  rfl
theorem begins_ok {a : Al} {ns : List Nd} {s : ByteArray} (hb : begE a ns s = 0) {i : Nat} (hi : i ≤ (matW a s).length) : beginsS a ns s (i : Int) = (toI (begL ns (matW a s) i), 0) := by
  have hp : placeB (matW a s) (i : Int) = true := by unfold placeB; rw [decide_eq_true_eq]; omega
  unfold beginsS
  rw [if_neg (by simp [hb]), if_pos hp]
  rfl
/-- What the law asks of each place. -/
structure BothAt (E B : Int → List Int × Int) (W : Bool) (n i : Nat) : Prop where
  e : (E (i : Int)).2 = 0
  el : (E (i : Int)).1.length ≤ n + 1
  em : ∀ x ∈ (E (i : Int)).1, ∃ k : Nat, x = (k : Int) ∧ i ≤ k ∧ k ≤ n ∧ (B x).2 = 0 ∧ (B x).1.length ≤ n + 1 ∧ (i : Int) ∈ (B x).1
  es : (E (i : Int)).1.Pairwise (· < ·)
  b : (B (i : Int)).2 = 0
  bl : (B (i : Int)).1.length ≤ n + 1
  bm : ∀ x ∈ (B (i : Int)).1, ∃ k : Nat, x = (k : Int) ∧ k ≤ i ∧ (E x).2 = 0 ∧ (E x).1.length ≤ n + 1 ∧ (i : Int) ∈ (E x).1
  w : i = 0 → W = decide ((n : Int) ∈ (E (i : Int)).1)
theorem BothAt.ex {E B : Int → List Int × Int} {W : Bool} {n i : Nat} (h : BothAt E B W n i) {E1 : List Int} (he : E (i : Int) = (E1, 0)) {k : Nat} (hk : k < E1.length) :
    ∃ q : Nat, E1[k] = (q : Int) ∧ i ≤ q ∧ q ≤ n ∧ (B (q : Int)).2 = 0 ∧ (B (q : Int)).1.length ≤ n + 1 ∧ (i : Int) ∈ (B (q : Int)).1 ∧ (∀ j : Nat, k = j + 1 → ∃ z : Nat, E1[j]? = some (z : Int) ∧ z < q) := by
  have h1 := h.em
  have h2 := h.es
  rw [he] at h1 h2
  obtain ⟨q, e, h3, h4, h5, h6, h7⟩ := h1 _ (List.getElem_mem hk)
  refine ⟨q, e, h3, h4, e ▸ h5, e ▸ h6, e ▸ h7, ?_⟩
  rintro j rfl
  obtain ⟨z, ez, _⟩ := h1 _ (List.getElem_mem (show j < E1.length by omega))
  have h8 := List.pairwise_iff_getElem.1 h2 j (j + 1) (show j < E1.length by omega) hk (by omega)
  simp only at h8
  rw [e, ez] at h8
  exact ⟨z, by rw [List.getElem?_eq_getElem (by omega)]; exact congrArg some ez, by omega⟩
theorem BothAt.bx {E B : Int → List Int × Int} {W : Bool} {n i : Nat} (h : BothAt E B W n i) {B1 : List Int} (he : B (i : Int) = (B1, 0)) {k : Nat} (hk : k < B1.length) :
    ∃ q : Nat, B1[k] = (q : Int) ∧ q ≤ i ∧ (E (q : Int)).2 = 0 ∧ (E (q : Int)).1.length ≤ n + 1 ∧ (i : Int) ∈ (E (q : Int)).1 := by
  have h1 := h.bm
  rw [he] at h1
  obtain ⟨q, e, h3, h4, h5, h6⟩ := h1 _ (List.getElem_mem hk)
  exact ⟨q, e, h3, e ▸ h4, e ▸ h5, e ▸ h6⟩
theorem BothAt.eb {E B : Int → List Int × Int} {W : Bool} {n i : Nat} (h : BothAt E B W n i) (hn : n ≤ 64) : ∀ x ∈ (E (i : Int)).1, ∃ k : Nat, x = (k : Int) ∧ k ≤ 64 := fun x hx => by
  obtain ⟨k, e, _, h2, _⟩ := h.em x hx
  exact ⟨k, e, by omega⟩
theorem BothAt.bb {E B : Int → List Int × Int} {W : Bool} {n i : Nat} (h : BothAt E B W n i) (hn : n ≤ 64) (hi : i ≤ n) : ∀ x ∈ (B (i : Int)).1, ∃ k : Nat, x = (k : Int) ∧ k ≤ 64 := fun x hx => by
  obtain ⟨k, e, h2, _⟩ := h.bm x hx
  exact ⟨k, e, by omega⟩
theorem whole_no {a : Al} {ns : List Nd} {s : ByteArray} (h : (wholeS a ns s).2 ≠ 0) : (wholeS a ns s).1 = false := by
  unfold wholeS at *
  by_cases hb : begE a ns s = 0
  · rw [if_neg (by simp [hb])] at h; exact absurd rfl h
  · rw [if_pos hb]
theorem whole_zero {a : Al} {ns : List Nd} {s : ByteArray} (h : (wholeS a ns s).2 = 0) : begE a ns s = 0 := by
  unfold wholeS at h
  by_cases hb : begE a ns s = 0
  · exact hb
  · rw [if_pos hb] at h; exact h
theorem both_at {a : Al} {ns : List Nd} {s : ByteArray} (h : (wholeS a ns s).2 = 0) : (lettersS a s).2 = 0 ∧ (lettersS a s).1.length ≤ 64 ∧ ∀ i, i ≤ (lettersS a s).1.length → BothAt (endsS a ns s) (beginsS a ns s) (wholeS a ns s).1 (lettersS a s).1.length i := by
  have hb := whole_zero h
  have hl := (beg_zero hb).2
  have hn := matW_len hl
  have hwl := matW_length a s
  refine ⟨hl, by omega, fun i hi => ?_⟩
  rw [← hwl] at hi ⊢
  have he := ends_ok hb hi
  have hbg := begins_ok hb hi
  refine ⟨by rw [he], by rw [he, toI_len]; exact ends_len _ _ _ _, ?_, by rw [he]; exact toI_sorted (ends_sorted _ _ _ _), by rw [hbg], by rw [hbg, toI_len]; have := beg_len ns (matW a s) i; omega, ?_, ?_⟩
  · intro x hx
    rw [he] at hx
    obtain ⟨k, hk, rfl⟩ := mem_toI.1 hx
    have h1 := ends_ge hi hk
    have h2 := ends_le hk
    have h3 := begins_ok hb h2
    exact ⟨k, rfl, h1, h2, by rw [h3], by rw [h3, toI_len]; have := beg_len ns (matW a s) k; omega, by rw [h3]; exact mem_toI_nat.2 ((mem_beg h2).2 ⟨h1, (mem_ends hi).1 hk⟩)⟩
  · intro x hx
    rw [hbg] at hx
    obtain ⟨k, hk, rfl⟩ := mem_toI.1 hx
    obtain ⟨h1, h2⟩ := (mem_beg hi).1 hk
    have h3 := ends_ok hb (show k ≤ (matW a s).length by omega)
    exact ⟨k, rfl, h1, by rw [h3], by rw [h3, toI_len]; exact ends_len _ _ _ _, by rw [h3]; exact mem_toI_nat.2 ((mem_ends (by omega)).2 h2)⟩
  · rintro rfl
    rw [he]
    unfold wholeS
    rw [if_neg (by simp [hb])]
    rfl
end Go.Proofs.YtimhlnndobfehaaGreatDoor
namespace Go.Proofs.YtimhlnndobfehaaGreatDoor
open Go.RowKit
open Go.Lib (Utf8Tabs)
set_option linter.unusedVariables false

def HaSt (l : List Int) (n : Int) (w : World) (x : Value) (wr : World) : Prop := wr = w ∧ ∃ k : Nat, x = .int .i64 (k : Int) ∧ k ≤ l.length ∧ Hid (decide (n ∈ l) = decide (n ∈ l.drop k))
def longS (a : Al) (s : ByteArray) : Int := if (lettersS a s).2 ≠ 0 then -1 else ((lettersS a s).1.length : Int)
set_option maxHeartbeats 4000000 in
theorem long_any (A1 A2 : Option Addr) (c1 c2 lo : Nat) (a : Al) (s : ByteArray) (w : World) (hin : AlIn w lo w.heap.size A1 A2 a) (hT : Utf8Tabs 0 1 w) (hs : s.size ≤ maxLen) :
    Calls Tryz.prog 36 #[.agg #[.slice A1 a.feats.length c1, .slice A2 a.lets.length c2], .string s] w fun e w' => e = .returned (.int .i64 (longS a s)) ∧ Below w.heap.size w w' := by
  have hal : Below w.heap.size w (w.alloc (.cells #[.slice A1 a.feats.length c1, .slice A2 a.lets.length c2] 25)) := (Below.refl _ _).alloc (Nat.le_refl _) _
  have hlet := Lib.hid (letters_any A1 A2 c1 c2 lo a s _ (hin.on hal) (Utf8Tabs_below hT hal) hs)
  have HS : Hid (longS a s = if (lettersS a s).2 ≠ 0 then -1 else ((lettersS a s).1.length : Int)) := rfl
  have HAL := Lib.hid hal
  generalize longS a s = R at *
  generalize lettersS a s = W at *
  obtain ⟨l, E⟩ := W
  simp only at HS
  clear hin hT hs hal
  go_enter Tryz.func36, Tryz.ntmps36
  go_wp2_with fail
  refine hlet.out.mono ?_
  rintro e w1 ⟨A, c, rfl, _, hb1⟩
  have HB := Lib.hid (HAL.out.trans (hb1.mono HAL.out.size))
  clear hlet hb1 HAL
  by_cases hE : E = 0
  · have e1 : (E != 0) = false := by rw [hE]; rfl
    have HF : Hid (R = (l.length : Int)) := by show _ = _; rw [HS.out, if_neg (by simp [hE])]
    clear hE HS
    go_wp2_with fail
    go_ret
    exact ⟨by rw [HF.out]; rfl, HB.out⟩
  · have e1 : (E != 0) = true := by rw [bne_iff_ne]; exact hE
    have HF : Hid (R = -1) := by show _ = _; rw [HS.out, if_pos hE]
    clear hE HS
    go_wp2_with fail
    go_ret
    exact ⟨by rw [HF.out]; rfl, HB.out⟩
end Go.Proofs.YtimhlnndobfehaaGreatDoor
namespace Go.Proofs.YtimhlnndobfehaaGreatDoor
open Go.RowKit
open Go.Lib (Utf8Tabs)
set_option linter.unusedVariables false

/-- A law's state: an alphabet and a pattern, boxed; what came in stands. -/
structure M1St (A1 A2 An : Option Addr) (c1 c2 cn : Nat) (a : Al) (ns : List Nd) (W w : World) : Prop where
  al : AlIn w 0 w.heap.size A1 A2 a
  tabs : Utf8Tabs 0 1 w
  l : Sl 5 vNd w 0 w.heap.size An ns
  r0 : Row w W.heap.size 25 [.slice A1 a.feats.length c1, .slice A2 a.lets.length c2]
  r1 : Row w (W.heap.size + 1) 28 [.slice An ns.length cn]
  below : Below W.heap.size W w
/-- A list that stands in the heap, of places. -/
structure Lst (A : Option Addr) (c : Nat) (l : List Int) (w : World) : Prop where
  sl : Sl 1 (vInt .i64) w 0 w.heap.size A l
section
variable {A1 A2 An : Option Addr} {c1 c2 cn : Nat} {a : Al} {ns : List Nd} {W w w' : World}
theorem M1St.on (h : M1St A1 A2 An c1 c2 cn a ns W w) (hb : Below w.heap.size w w') : M1St A1 A2 An c1 c2 cn a ns W w' :=
  ⟨h.al.on hb, Utf8Tabs_below h.tabs hb, (h.l.below vNd_good hb (Nat.le_refl _)).wide vNd_good (Nat.le_refl _) hb.size, h.r0.below hb h.r0.lt, h.r1.below hb h.r1.lt, h.below.trans (hb.mono h.below.size)⟩
theorem M1St.new (hin : AlIn w 0 w.heap.size A1 A2 a) (hT : Utf8Tabs 0 1 w) (hl : Sl 5 vNd w 0 w.heap.size An ns) :
    M1St A1 A2 An c1 c2 cn a ns w ((w.alloc (.cells #[.slice A1 a.feats.length c1, .slice A2 a.lets.length c2] 25)).alloc (.cells #[.slice An ns.length cn] 28)) := by
  have h1 := Row.new w 25 [.slice A1 a.feats.length c1, .slice A2 a.lets.length c2]
  have h2 := Row.new (w.alloc (.cells #[.slice A1 a.feats.length c1, .slice A2 a.lets.length c2] 25)) 28 [.slice An ns.length cn]
  have hb : Below w.heap.size w ((w.alloc (.cells #[.slice A1 a.feats.length c1, .slice A2 a.lets.length c2] 25)).alloc (.cells #[.slice An ns.length cn] 28)) := ((Below.refl _ _).alloc (Nat.le_refl _) _).alloc (by simp) _
  have hsz : (w.alloc (.cells #[.slice A1 a.feats.length c1, .slice A2 a.lets.length c2] 25)).heap.size = w.heap.size + 1 := by simp
  rw [hsz] at h2
  exact ⟨hin.on hb, Utf8Tabs_below hT hb, (hl.below vNd_good hb (Nat.le_refl _)).wide vNd_good (Nat.le_refl _) hb.size, h1.alloc _, h2, hb⟩
theorem M1St.drew (h : M1St A1 A2 An c1 c2 cn a ns W w) : M1St A1 A2 An c1 c2 cn a ns W w.drew := h.on (below_drewN (Below.refl _ _) 1)
theorem Lst.on {A : Option Addr} {c : Nat} {l : List Int} (h : Lst A c l w) (hb : Below w.heap.size w w') : Lst A c l w' := ⟨(h.sl.below (vInt_good _) hb (Nat.le_refl _)).wide (vInt_good _) (Nat.le_refl _) hb.size⟩
theorem Lst.of {base : Nat} {A : Option Addr} {c : Nat} {l : List Int} (h : w.ownsRow base 3 1 (.slice A l.length c) l.length (l.map (Value.int .i64))) (hk : ∀ x ∈ l, ∃ k : Nat, x = (k : Int) ∧ k ≤ 64) : Lst A c l w :=
  ⟨own_ints h (fun x hx => by obtain ⟨k, rfl, hk⟩ := hk x hx; exact kin_mk64 (by omega)) (Nat.zero_le _)⟩
/-- A member, and where it lies. -/
theorem Lst.at_ {A : Option Addr} {c : Nat} {l : List Int} (h : Lst A c l w) {k : Nat} {x : Int} (hx : l[k]? = some x) :
    ∃ g o, A = some ⟨g, o, none⟩ ∧ g < w.heap.size ∧ w.cell? ⟨g, o + k, none⟩ = some (.int .i64 x) := by
  obtain ⟨hk, rfl⟩ := List.getElem?_eq_some_iff.1 hx
  obtain ⟨g, o, e, _, h2, h3, _⟩ := ints_at h.sl hk
  exact ⟨g, o, e, h2, h3.1⟩
end
end Go.Proofs.YtimhlnndobfehaaGreatDoor
namespace Go.Proofs.YtimhlnndobfehaaGreatDoor
open Go.RowKit
set_option linter.unusedVariables false

set_option maxHeartbeats 4000000 in
set_option maxRecDepth 100000 in
theorem walked_any {ns : List Nd} (tn : Bool) {A : Option Addr} {c flo lo : Nat} {v : Value} {es : List (Nd × Value)} {w : World} (ht : IsTree ns) (hes : es.length ≤ 4000) (hlo : lo ≤ w.heap.size)
    (hsl : Sl 5 vNd w flo lo A ns) (hnd : Nodes w lo v es) :
    Calls Tryz.prog 49 #[v, .slice A ns.length c, .int .i64 0, .bool tn] w fun e w' =>
      ∃ v' es', e = .returned v' ∧ Nodes w' lo v' (es ++ es') ∧ es'.map Prod.fst = sub ns tn ns.length es.length 0 ∧ Fr (fun k => v.ownBlock = some k) w w' := by
  have hpos := ht.pos
  have hmax := ht.max
  obtain ⟨Av, cv, rfl, _, _⟩ := own_form hnd.row
  obtain ⟨wa, hwa⟩ : ∃ wa : World, wa = w.alloc (.cells #[.slice Av es.length cv] 26) := ⟨_, rfl⟩
  obtain ⟨wb, hwb⟩ : ∃ wb : World, wb = wa.alloc (.cells #[.slice A ns.length c] 26) := ⟨_, rfl⟩
  obtain ⟨wc, hwc⟩ : ∃ wc : World, wc = wb.alloc (.cells #[.bool tn] 4) := ⟨_, rfl⟩
  obtain ⟨wd, hwd⟩ : ∃ wd : World, wd = wc.alloc (.cells #[.func (.func 80) #[] #[.pointer (some ⟨w.heap.size + 1, 0, none⟩), .pointer (some ⟨w.heap.size + 2, 0, none⟩), .pointer (some ⟨w.heap.size, 0, none⟩), .pointer (some ⟨w.heap.size + 3, 0, none⟩)]] 71) := ⟨_, rfl⟩
  have sa : wa.heap.size = w.heap.size + 1 := by rw [hwa]; simp
  have sb : wb.heap.size = w.heap.size + 2 := by rw [hwb]; simp; omega
  have sc : wc.heap.size = w.heap.size + 3 := by rw [hwc]; simp; omega
  have sd : wd.heap.size = w.heap.size + 4 := by rw [hwd]; simp; omega
  have hbd : Below w.heap.size w wd := by
    have h1 : Below w.heap.size w wa := by rw [hwa]; exact (Below.refl _ _).alloc (Nat.le_refl _) _
    have h2 : Below w.heap.size w wb := by rw [hwb]; exact h1.alloc (by omega) _
    have h3 : Below w.heap.size w wc := by rw [hwc]; exact h2.alloc (by omega) _
    rw [hwd]; exact h3.alloc (by omega) _
  have ra : Row wd w.heap.size 26 [.slice Av es.length cv] := by
    have h : Row wa w.heap.size 26 [.slice Av es.length cv] := by rw [hwa]; exact Row.new w _ _
    rw [hwd, hwc, hwb]; exact ((h.alloc _).alloc _).alloc _
  have rb : Row wd (w.heap.size + 1) 26 [.slice A ns.length c] := by
    have h : Row wb wa.heap.size 26 [.slice A ns.length c] := by rw [hwb]; exact Row.new wa _ _
    rw [sa] at h
    rw [hwd, hwc]; exact (h.alloc _).alloc _
  have rc : Row wd (w.heap.size + 2) 4 [.bool tn] := by
    have h : Row wc wb.heap.size 4 [.bool tn] := by rw [hwc]; exact Row.new wb _ _
    rw [sb] at h
    rw [hwd]; exact h.alloc _
  have rd : Row wd (w.heap.size + 3) 71 [.func (.func 80) #[] #[.pointer (some ⟨w.heap.size + 1, 0, none⟩), .pointer (some ⟨w.heap.size + 2, 0, none⟩), .pointer (some ⟨w.heap.size, 0, none⟩), .pointer (some ⟨w.heap.size + 3, 0, none⟩)]] := by
    have h := Row.new wc 71 [.func (.func 80) #[] #[.pointer (some ⟨w.heap.size + 1, 0, none⟩), .pointer (some ⟨w.heap.size + 2, 0, none⟩), .pointer (some ⟨w.heap.size, 0, none⟩), .pointer (some ⟨w.heap.size + 3, 0, none⟩)]]
    rw [sc] at h
    rw [hwd]; exact h
  have hsz := tree_size ht
  have hcall := walk_any ns tn A c flo lo (w.heap.size + 1) (w.heap.size + 2) w.heap.size (w.heap.size + 3) ht.inr (by omega) (fun x hx => by have := kids_le ht hx; omega) ns.length 0 es (.slice Av es.length cv) wd hpos (by omega) (by rw [hsz]; omega) (hsl.below vNd_good hbd hlo) (by omega) (by omega) hlo (by omega) (by omega) rb rc ra rd (hnd.below hbd)
  rw [hwd, hwc, hwb, hwa] at hcall
  have HWD : Hid (wd = ((((w.alloc (.cells #[.slice Av es.length cv] 26)).alloc (.cells #[.slice A ns.length c] 26)).alloc (.cells #[.bool tn] 4)).alloc (.cells #[.func (.func 80) #[] #[.pointer (some ⟨w.heap.size + 1, 0, none⟩), .pointer (some ⟨w.heap.size + 2, 0, none⟩), .pointer (some ⟨w.heap.size, 0, none⟩), .pointer (some ⟨w.heap.size + 3, 0, none⟩)]] 71))) := by
    show _ = _
    rw [hwd, hwc, hwb, hwa]
  have HSD := Lib.hid sd
  clear hwa hwb hwc hwd sa sb sc sd hsz
  go_enter Tryz.func49, Tryz.ntmps49
  go_wp2_with fail
  refine hcall.mono ?_
  rw [← HWD.out]
  rintro e w5 ⟨rfl, v5, es5, hr5, hn5, hes5, hF5, hat5⟩
  have HE := Lib.hid hes5
  clear hes5 hcall
  obtain ⟨c5, f5⟩ := hr5.cel (i := 0) rfl
  go_wp2_with fail
  go_ret
  refine ⟨v5, es5, rfl, hn5, HE.out, (Fr.of_below hbd).trans hF5 (fun k h1 h2 => ?_)⟩
  rcases h2 with h2 | h2
  · omega
  · exact h2
end Go.Proofs.YtimhlnndobfehaaGreatDoor
namespace Go.Proofs.YtimhlnndobfehaaGreatDoor
open Go.RowKit
set_option linter.unusedVariables false

/-- A pattern of new memory. -/
def PatRes (w w' : World) (v : Value) (ns : List Nd) : Prop := ∃ u es, v = .agg #[u] ∧ Nodes w' w.heap.size u es ∧ es.map Prod.fst = ns ∧ Below w.heap.size w w'
theorem PatRes.nothing {w w' : World} (h : Below w.heap.size w w') : PatRes w w' (.agg #[.slice none 0 0]) [] := ⟨_, [], rfl, Nodes.nil _ _, rfl, h⟩

theorem Nodes.low {w : World} {lo lo' : Nat} {v : Value} {es : List (Nd × Value)} (h : Nodes w lo v es) (hl : lo' ≤ lo) : Nodes w lo' v es :=
  ⟨own_low h.row hl, fun i x u hi => ⟨own_low (h.kid i x u hi).1 hl, (h.kid i x u hi).2⟩, h.far, h.apart⟩
theorem PatRes.up {w wA w1 : World} {H : Nat} {v : Value} {ns : List Nd} (h : PatRes wA w1 v ns) (hb : Below w.heap.size w wA) (hH : w.heap.size ≤ H) (hA : H < wA.heap.size) (z : Value) : PatRes w (w1.setCell ⟨H, 0, none⟩ z) v ns := by
  obtain ⟨u, es, rfl, hn, he, hB⟩ := h
  refine ⟨u, es, rfl, (hn.same fun g hg => Below.heap_setCell _ _ _ g (fun e => ?_)).low hb.size, he, (hb.trans (hB.mono hb.size)).setCell hH _⟩
  have := (hn.lt hg).1
  simp only at e
  omega
theorem res_cell {fn : Func} {p : Tmp} (h : fn.results = #[.cell p 28]) (tmps : Array Value) (w : World) (g : Nat) (u : Value) (hp : tmps.getD p undef = .pointer (some ⟨g, 0, none⟩)) (hg : Row w g 28 [u]) :
    (results fn tmps).run Tryz.prog w = .ok (.agg #[u]) w :=
  results_cell_row h tmps w g 28 #[u] (0, 0) _ hp hg Tryz.underlying28 rfl (by kernel_rfl)
theorem res_cell_tmp {fn : Func} {p q : Tmp} (h : fn.results = #[.cell p 28, .tmp q]) (tmps : Array Value) (w : World) (g : Nat) (u : Value) (hp : tmps.getD p undef = .pointer (some ⟨g, 0, none⟩)) (hg : Row w g 28 [u]) :
    (results fn tmps).run Tryz.prog w = .ok (.tuple #[.agg #[u], tmps.getD q undef]) w := by
  have hl := run_loadVar_row (P := Tryz.prog) w g 28 28 #[u] (0, 0) _ hg Tryz.underlying28 rfl (by kernel_rfl)
  rw [results_cell_tmp h, hp]
  simp [asAddr, hl, Result.andThen]

def leafN (k r p m : Int) : Nd := ⟨k, r, p, m, []⟩
section
variable (k r p m : Int) (w : World)
end
end Go.Proofs.YtimhlnndobfehaaGreatDoor
namespace Go.Proofs.YtimhlnndobfehaaGreatDoor
open Go.RowKit
open Go.Lib (Utf8Tabs)
set_option linter.unusedVariables false

/-- A law's state with one pattern more boxed. -/
structure TuSt (A1 A2 An Aq : Option Addr) (c1 c2 cn cq b : Nat) (a : Al) (ns qs : List Nd) (W w : World) : Prop where
  m : M1St A1 A2 An c1 c2 cn a ns W w
  q : Sl 5 vNd w 0 w.heap.size Aq qs
  r2 : Row w b 28 [.slice Aq qs.length cq]
theorem TuSt.on {A1 A2 An Aq : Option Addr} {c1 c2 cn cq b : Nat} {a : Al} {ns qs : List Nd} {W w w' : World} (h : TuSt A1 A2 An Aq c1 c2 cn cq b a ns qs W w) (hb : Below w.heap.size w w') : TuSt A1 A2 An Aq c1 c2 cn cq b a ns qs W w' :=
  ⟨h.m.on hb, (h.q.below vNd_good hb (Nat.le_refl _)).wide vNd_good (Nat.le_refl _) hb.size, h.r2.below hb h.r2.lt⟩
theorem patRes_sl {w w' : World} {v : Value} {ns : List Nd} (h : PatRes w w' v ns) : ∃ A c, v = .agg #[.slice A ns.length c] ∧ c ≤ maxLen ∧ Sl 5 vNd w' w.heap.size w'.heap.size A ns ∧ Below w.heap.size w w' := by
  obtain ⟨u, es, rfl, hn, he, hb⟩ := h
  obtain ⟨A, c, rfl, _, hc, hs⟩ := hn.sl
  rw [he] at hs
  have hl : es.length = ns.length := by rw [← he, List.length_map]
  exact ⟨A, c, by rw [hl], hc, hs, hb⟩
theorem small_of {r : List Int × Int} {l : List Int} (h : r = (l, 0)) (hl : l.length ≤ 66) (hm : ∀ x ∈ l, ∃ k : Nat, x = (k : Int) ∧ k ≤ 64) : r.1.length ≤ 66 ∧ ∀ x ∈ r.1, ∃ k : Nat, x = (k : Int) ∧ k ≤ 64 := by
  rw [h]
  exact ⟨hl, hm⟩
theorem endsS_small (a : Al) (ns : List Nd) (s : ByteArray) (f : Int) : (endsS a ns s f).1.length ≤ 66 ∧ ∀ x ∈ (endsS a ns s f).1, ∃ k : Nat, x = (k : Int) ∧ k ≤ 64 := by
  by_cases hb : begE a ns s = 0
  · have hn := matW_len (beg_zero hb).2
    cases hp : placeB (matW a s) f with
    | true =>
      obtain ⟨i, rfl, hi⟩ := place_nat hp
      refine small_of (ends_ok hb hi) (by rw [toI_len]; have := ends_len ns (matW a s) 0 i; omega) fun x hx => ?_
      obtain ⟨k, hk, rfl⟩ := mem_toI.1 hx
      exact ⟨k, rfl, by have := ends_le hk; omega⟩
    | false =>
      have : (endsS a ns s f).1 = [] := by unfold endsS; rw [if_neg (by simp [hb]), hp]; rfl
      rw [this]
      exact ⟨by simp, fun x hx => by cases hx⟩
  · have : (endsS a ns s f).1 = [] := by unfold endsS; rw [if_pos hb]
    rw [this]
    exact ⟨by simp, fun x hx => by cases hx⟩
theorem beginsS_small (a : Al) (ns : List Nd) (s : ByteArray) (f : Int) : (beginsS a ns s f).1.length ≤ 66 ∧ ∀ x ∈ (beginsS a ns s f).1, ∃ k : Nat, x = (k : Int) ∧ k ≤ 64 := by
  by_cases hb : begE a ns s = 0
  · have hn := matW_len (beg_zero hb).2
    cases hp : placeB (matW a s) f with
    | true =>
      obtain ⟨i, rfl, hi⟩ := place_nat hp
      refine small_of (begins_ok hb hi) (by rw [toI_len]; have := beg_len ns (matW a s) i; omega) fun x hx => ?_
      obtain ⟨k, hk, rfl⟩ := mem_toI.1 hx
      exact ⟨k, rfl, by have := ((mem_beg hi).1 hk).1; omega⟩
    | false =>
      have : (beginsS a ns s f).1 = [] := by unfold beginsS; rw [if_neg (by simp [hb]), hp]; rfl
      rw [this]
      exact ⟨by simp, fun x hx => by cases hx⟩
  · have : (beginsS a ns s f).1 = [] := by unfold beginsS; rw [if_pos hb]
    rw [this]
    exact ⟨by simp, fun x hx => by cases hx⟩
theorem allM_small (a : Al) (ns : List Nd) (s : ByteArray) : (allM a ns s).1.length ≤ 66 := by
  unfold allM
  by_cases hb : begE a ns s = 0
  · rw [if_neg (by simp [hb])]
    have hn := matW_len (beg_zero hb).2
    have := span_len ns (matW a s) ((matW a s).length + 1) 0
    show (spanF ns (matW a s) ((matW a s).length + 1) 0).length ≤ 66
    omega
  · rw [if_pos hb]
    simp
end Go.Proofs.YtimhlnndobfehaaGreatDoor
namespace Go.Proofs.YtimhlnndobfehaaGreatDoor
open Go.RowKit
set_option linter.unusedVariables false

theorem fits_ints {w : World} {lo hi : Nat} {news : List Value} {xs : List Int} (h : Fits 1 (vInt .i64) w lo hi news xs) : news = xs.map (Value.int .i64) := by
  have hl := h.1
  rw [Nat.mul_one] at hl
  refine List.ext_getElem? fun i => ?_
  rw [List.getElem?_map]
  by_cases hi' : i < xs.length
  · have h2 := (h.2 i _ (List.getElem?_eq_getElem hi')).1
    rw [List.getElem?_eq_getElem hi', List.getElem?_eq_getElem (by omega)]
    have e : (slot 1 news i)[0]? = some (Value.int .i64 xs[i]) := by rw [h2]; rfl
    unfold slot at e
    rw [List.getElem?_take, if_pos (by omega), List.getElem?_drop] at e
    rw [List.getElem?_eq_getElem (by omega)] at e
    simp only [Nat.mul_one, Nat.add_zero] at e
    rw [e]
    rfl
  · rw [List.getElem?_eq_none (by omega), List.getElem?_eq_none (by omega)]
    rfl
theorem ints_kin {k : IntKind} {w : World} {lo hi : Nat} {A : Option Addr} {l : List Int} (h : Sl 1 (vInt k) w lo hi A l) : ∀ n ∈ l, kin k n := by
  intro n hn
  obtain ⟨i, hi', rfl⟩ := List.getElem_of_mem hn
  obtain ⟨_, _, _, _, _, _, h2⟩ := ints_at h hi'
  exact h2
theorem int_one {k : IntKind} : ∀ {w lo hi cs x}, vInt k w lo hi cs x → ∀ u ∈ cs, u.oneCell' = true := by
  intro w lo hi cs x h u hu
  rw [h.1, List.mem_singleton] at hu
  subst hu
  rfl
end Go.Proofs.YtimhlnndobfehaaGreatDoor
