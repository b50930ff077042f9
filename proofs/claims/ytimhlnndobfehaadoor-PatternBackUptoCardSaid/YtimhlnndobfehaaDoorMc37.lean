/- Is it much work? What ends and what begins, and what is whole: plain. The law's has and long. A law's state with one pattern boxed; a list that a call gave. -/
import Derived.Test.YtimhlnndobfehaaDoorMc36
namespace Go.Proofs.YtimhlnndobfehaaDoor
open Go.RowKit
open Go.Lib (Utf8Tabs)
set_option linter.unusedVariables false

def muchB (n z : Nat) : Bool := decide ((60 < n ∧ n ≤ 256) ∨ 1000 < n ∨ 2000 < z)
set_option maxHeartbeats 4000000 in
theorem much_any (An : Option Addr) (n cn : Nat) (s : ByteArray) (w : World) (hn : n ≤ 9223372036854775807) (hs : s.size ≤ maxLen) :
    Calls Tryd.prog 33 #[.agg #[.slice An n cn], .string s] w fun e w' => e = .returned (.bool (muchB n s.size)) ∧ Below w.heap.size w w' := by
  unfold maxLen at hs
  by_cases h1 : 60 < n
  · have k1 : (60 : Int) < (n : Int) := by omega
    by_cases h2 : n ≤ 256
    · have k2 : (n : Int) ≤ 256 := by omega
      have HF : Hid (muchB n s.size = true) := decide_eq_true (.inl ⟨h1, h2⟩)
      go_enter Tryd.func33, Tryd.ntmps33
      go_wp2_with fail
      go_ret
      exact ⟨retb_of (by rw [HF.out]), by go_grown⟩
    · have k2 : ¬ (n : Int) ≤ 256 := by omega
      by_cases h3 : 1000 < n
      · have k3 : (1000 : Int) < (n : Int) := by omega
        have HF : Hid (muchB n s.size = true) := decide_eq_true (.inr (.inl h3))
        go_enter Tryd.func33, Tryd.ntmps33
        go_wp2_with fail
        go_ret
        exact ⟨retb_of (by rw [HF.out]), by go_grown⟩
      · have k3 : ¬ (1000 : Int) < (n : Int) := by omega
        have HF : Hid (muchB n s.size = decide (2000 < s.size)) := by show _ = _; unfold muchB; simp [h2, h3]
        go_enter Tryd.func33, Tryd.ntmps33
        go_wp2_with fail
        go_ret
        exact ⟨retb_of (by rw [HF.out]; first | rfl | (rw [Bool.eq_iff_iff]; simp; omega)), by go_grown⟩
  · have k1 : ¬ (60 : Int) < (n : Int) := by omega
    have k3 : ¬ (1000 : Int) < (n : Int) := by omega
    have HF : Hid (muchB n s.size = decide (2000 < s.size)) := by
      show _ = _
      have h3 : ¬ 1000 < n := by omega
      unfold muchB
      simp [h1, h3]
    go_enter Tryd.func33, Tryd.ntmps33
    go_wp2_with fail
    go_ret
    exact ⟨retb_of (by rw [HF.out]; first | rfl | (rw [Bool.eq_iff_iff]; simp; omega)), by go_grown⟩
/-- A law's state: an alphabet and two patterns, boxed; what came in stands. -/
structure MSt (A1 A2 An Am : Option Addr) (c1 c2 cn cm : Nat) (a : Al) (ls rs : List Nd) (W w : World) : Prop where
  al : AlIn w 0 w.heap.size A1 A2 a
  tabs : Utf8Tabs 0 1 w
  l : Sl 5 vNd w 0 w.heap.size An ls
  r : Sl 5 vNd w 0 w.heap.size Am rs
  r0 : Row w W.heap.size 25 [.slice A1 a.feats.length c1, .slice A2 a.lets.length c2]
  r1 : Row w (W.heap.size + 1) 28 [.slice An ls.length cn]
  r2 : Row w (W.heap.size + 1 + 1) 28 [.slice Am rs.length cm]
  below : Below W.heap.size W w
section
variable {A1 A2 An Am : Option Addr} {c1 c2 cn cm : Nat} {a : Al} {ls rs : List Nd} {W w w' : World}
theorem MSt.on (h : MSt A1 A2 An Am c1 c2 cn cm a ls rs W w) (hb : Below w.heap.size w w') : MSt A1 A2 An Am c1 c2 cn cm a ls rs W w' :=
  ⟨h.al.on hb, Utf8Tabs_below h.tabs hb, (h.l.below vNd_good hb (Nat.le_refl _)).wide vNd_good (Nat.le_refl _) hb.size, (h.r.below vNd_good hb (Nat.le_refl _)).wide vNd_good (Nat.le_refl _) hb.size, h.r0.below hb h.r0.lt, h.r1.below hb h.r1.lt, h.r2.below hb h.r2.lt, h.below.trans (hb.mono h.below.size)⟩
theorem MSt.new (hin : AlIn w 0 w.heap.size A1 A2 a) (hT : Utf8Tabs 0 1 w) (hl : Sl 5 vNd w 0 w.heap.size An ls) (hr : Sl 5 vNd w 0 w.heap.size Am rs) :
    MSt A1 A2 An Am c1 c2 cn cm a ls rs w (((w.alloc (.cells #[.slice A1 a.feats.length c1, .slice A2 a.lets.length c2] 25)).alloc (.cells #[.slice An ls.length cn] 28)).alloc (.cells #[.slice Am rs.length cm] 28)) := by
  obtain ⟨r1, r2, r3, hb, _⟩ := boxes_3 w 25 28 28 [.slice A1 a.feats.length c1, .slice A2 a.lets.length c2] [.slice An ls.length cn] [.slice Am rs.length cm]
  exact ⟨hin.on hb, Utf8Tabs_below hT hb, (hl.below vNd_good hb (Nat.le_refl _)).wide vNd_good (Nat.le_refl _) hb.size, (hr.below vNd_good hb (Nat.le_refl _)).wide vNd_good (Nat.le_refl _) hb.size, r1, r2, r3, hb⟩
end
end Go.Proofs.YtimhlnndobfehaaDoor
namespace Go.Proofs.YtimhlnndobfehaaDoor
open Go.RowKit
set_option linter.unusedVariables false

theorem mem_toI {l : List Nat} {x : Int} : x ∈ toI l ↔ ∃ k : Nat, k ∈ l ∧ x = (k : Int) := by
  unfold toI
  rw [List.mem_map]
  constructor
  · rintro ⟨k, h, rfl⟩; exact ⟨k, h, rfl⟩
  · rintro ⟨k, h, rfl⟩; exact ⟨k, h, rfl⟩
theorem mem_toI_nat {l : List Nat} {k : Nat} : (k : Int) ∈ toI l ↔ k ∈ l := by
  rw [mem_toI]
  constructor
  · rintro ⟨j, h, e⟩; have : k = j := by omega
    rw [this]; exact h
  · exact fun h => ⟨k, h, rfl⟩
theorem toI_sorted {l : List Nat} (h : l.Pairwise (· < ·)) : (toI l).Pairwise (· < ·) := by
  unfold toI
  rw [List.pairwise_map]
  exact h.imp fun h => by omega
theorem matW_length (a : Al) (s : ByteArray) : (matW a s).length = (lettersS a s).1.length := by
  unfold matW
  rw [matL_len]
theorem ends_ok {a : Al} {ns : List Nd} {s : ByteArray} (hb : begE a ns s = 0) {i : Nat} (hi : i ≤ (matW a s).length) : endsS a ns s (i : Int) = (toI (endsL ns (matW a s) 0 i), 0) := by
  have hp : placeB (matW a s) (i : Int) = true := by unfold placeB; rw [decide_eq_true_eq]; omega
  unfold endsS
  rw [if_neg (by simp [hb]), if_pos hp]
  rfl
theorem begins_ok {a : Al} {ns : List Nd} {s : ByteArray} (hb : begE a ns s = 0) {i : Nat} (hi : i ≤ (matW a s).length) : beginsS a ns s (i : Int) = (toI (begL ns (matW a s) i), 0) := by
  have hp : placeB (matW a s) (i : Int) = true := by unfold placeB; rw [decide_eq_true_eq]; omega
  unfold beginsS
  rw [if_neg (by simp [hb]), if_pos hp]
  rfl
/-- What the law asks of each place. -/
structure BothAt (E B : Int → List Int × Int) (W : Bool) (n i : Nat) : Prop where
  e : (E (i : Int)).2 = 0
  el : (E (i : Int)).1.length ≤ n + 1
  em : ∀ x ∈ (E (i : Int)).1, ∃ k : Nat, x = (k : Int) ∧ i ≤ k ∧ k ≤ n ∧ (B x).2 = 0 ∧ (B x).1.length ≤ n + 1 ∧ (i : Int) ∈ (B x).1
  es : (E (i : Int)).1.Pairwise (· < ·)
  b : (B (i : Int)).2 = 0
  bl : (B (i : Int)).1.length ≤ n + 1
  bm : ∀ x ∈ (B (i : Int)).1, ∃ k : Nat, x = (k : Int) ∧ k ≤ i ∧ (E x).2 = 0 ∧ (E x).1.length ≤ n + 1 ∧ (i : Int) ∈ (E x).1
  w : i = 0 → W = decide ((n : Int) ∈ (E (i : Int)).1)
theorem BothAt.ex {E B : Int → List Int × Int} {W : Bool} {n i : Nat} (h : BothAt E B W n i) {E1 : List Int} (he : E (i : Int) = (E1, 0)) {k : Nat} (hk : k < E1.length) :
    ∃ q : Nat, E1[k] = (q : Int) ∧ i ≤ q ∧ q ≤ n ∧ (B (q : Int)).2 = 0 ∧ (B (q : Int)).1.length ≤ n + 1 ∧ (i : Int) ∈ (B (q : Int)).1 ∧ (∀ j : Nat, k = j + 1 → ∃ z : Nat, E1[j]? = some (z : Int) ∧ z < q) := by
  have h1 := h.em
  have h2 := h.es
  rw [he] at h1 h2
  obtain ⟨q, e, h3, h4, h5, h6, h7⟩ := h1 _ (List.getElem_mem hk)
  refine ⟨q, e, h3, h4, e ▸ h5, e ▸ h6, e ▸ h7, ?_⟩
  rintro j rfl
  obtain ⟨z, ez, _⟩ := h1 _ (List.getElem_mem (show j < E1.length by omega))
  have h8 := List.pairwise_iff_getElem.1 h2 j (j + 1) (show j < E1.length by omega) hk (by omega)
  simp only at h8
  rw [e, ez] at h8
  exact ⟨z, by rw [List.getElem?_eq_getElem (by omega)]; exact congrArg some ez, by omega⟩
theorem BothAt.bx {E B : Int → List Int × Int} {W : Bool} {n i : Nat} (h : BothAt E B W n i) {B1 : List Int} (he : B (i : Int) = (B1, 0)) {k : Nat} (hk : k < B1.length) :
    ∃ q : Nat, B1[k] = (q : Int) ∧ q ≤ i ∧ (E (q : Int)).2 = 0 ∧ (E (q : Int)).1.length ≤ n + 1 ∧ (i : Int) ∈ (E (q : Int)).1 := by
  have h1 := h.bm
  rw [he] at h1
  obtain ⟨q, e, h3, h4, h5, h6⟩ := h1 _ (List.getElem_mem hk)
  exact ⟨q, e, h3, e ▸ h4, e ▸ h5, e ▸ h6⟩
theorem BothAt.eb {E B : Int → List Int × Int} {W : Bool} {n i : Nat} (h : BothAt E B W n i) (hn : n ≤ 64) : ∀ x ∈ (E (i : Int)).1, ∃ k : Nat, x = (k : Int) ∧ k ≤ 64 := fun x hx => by
  obtain ⟨k, e, _, h2, _⟩ := h.em x hx
  exact ⟨k, e, by omega⟩
theorem BothAt.bb {E B : Int → List Int × Int} {W : Bool} {n i : Nat} (h : BothAt E B W n i) (hn : n ≤ 64) (hi : i ≤ n) : ∀ x ∈ (B (i : Int)).1, ∃ k : Nat, x = (k : Int) ∧ k ≤ 64 := fun x hx => by
  obtain ⟨k, e, h2, _⟩ := h.bm x hx
  exact ⟨k, e, by omega⟩
theorem whole_no {a : Al} {ns : List Nd} {s : ByteArray} (h : (wholeS a ns s).2 ≠ 0) : (wholeS a ns s).1 = false := by
  unfold wholeS at *
  by_cases hb : begE a ns s = 0
  · rw [if_neg (by simp [hb])] at h; exact absurd rfl h
  · rw [if_pos hb]
theorem whole_zero {a : Al} {ns : List Nd} {s : ByteArray} (h : (wholeS a ns s).2 = 0) : begE a ns s = 0 := by
  unfold wholeS at h
  by_cases hb : begE a ns s = 0
  · exact hb
  · rw [if_pos hb] at h; exact h
theorem both_at {a : Al} {ns : List Nd} {s : ByteArray} (h : (wholeS a ns s).2 = 0) : (lettersS a s).2 = 0 ∧ (lettersS a s).1.length ≤ 64 ∧ ∀ i, i ≤ (lettersS a s).1.length → BothAt (endsS a ns s) (beginsS a ns s) (wholeS a ns s).1 (lettersS a s).1.length i := by
  have hb := whole_zero h
  have hl := (beg_zero hb).2
  have hn := matW_len hl
  have hwl := matW_length a s
  refine ⟨hl, by omega, fun i hi => ?_⟩
  rw [← hwl] at hi ⊢
  have he := ends_ok hb hi
  have hbg := begins_ok hb hi
  refine ⟨by rw [he], by rw [he, toI_len]; exact ends_len _ _ _ _, ?_, by rw [he]; exact toI_sorted (ends_sorted _ _ _ _), by rw [hbg], by rw [hbg, toI_len]; have := beg_len ns (matW a s) i; omega, ?_, ?_⟩
  · intro x hx
    rw [he] at hx
    obtain ⟨k, hk, rfl⟩ := mem_toI.1 hx
    have h1 := ends_ge hi hk
    have h2 := ends_le hk
    have h3 := begins_ok hb h2
    exact ⟨k, rfl, h1, h2, by rw [h3], by rw [h3, toI_len]; have := beg_len ns (matW a s) k; omega, by rw [h3]; exact mem_toI_nat.2 ((mem_beg h2).2 ⟨h1, (mem_ends hi).1 hk⟩)⟩
  · intro x hx
    rw [hbg] at hx
    obtain ⟨k, hk, rfl⟩ := mem_toI.1 hx
    obtain ⟨h1, h2⟩ := (mem_beg hi).1 hk
    have h3 := ends_ok hb (show k ≤ (matW a s).length by omega)
    exact ⟨k, rfl, h1, by rw [h3], by rw [h3, toI_len]; exact ends_len _ _ _ _, by rw [h3]; exact mem_toI_nat.2 ((mem_ends (by omega)).2 h2)⟩
  · rintro rfl
    rw [he]
    unfold wholeS
    rw [if_neg (by simp [hb])]
    rfl
end Go.Proofs.YtimhlnndobfehaaDoor
namespace Go.Proofs.YtimhlnndobfehaaDoor
open Go.RowKit
open Go.Lib (Utf8Tabs)
set_option linter.unusedVariables false

def HaSt (l : List Int) (n : Int) (w : World) (x : Value) (wr : World) : Prop := wr = w ∧ ∃ k : Nat, x = .int .i64 (k : Int) ∧ k ≤ l.length ∧ Hid (decide (n ∈ l) = decide (n ∈ l.drop k))
set_option maxHeartbeats 4000000 in
theorem hasI_any {lo hi : Nat} {A : Option Addr} {c : Nat} {l : List Int} {w : World} (h : Sl 1 (vInt .i64) w lo hi A l) (hm : l.length ≤ 1000) (n : Int) :
    Calls Tryd.prog 35 #[.slice A l.length c, .int .i64 n] w fun e w' => e = .returned (.bool (decide (n ∈ l))) ∧ w' = w := by
  have HST : Hid (HaSt l n w (.int .i64 0) w) := ⟨rfl, 0, rfl, by omega, by show _ = _; rw [List.drop_zero]⟩
  have HSL := Lib.hid h
  clear h
  go_enter Tryd.func35, Tryd.ntmps35
  go_wp2_with fail
  go_loopw [5] (fun x wr => HaSt l n w x wr) (fun x _ => l.length - (intOf x).toNat)
  case atStart => exact HST.out
  case round =>
    clear HST
    obtain ⟨rfl, k, rfl, hk, hd⟩ := hrel
    by_cases hlt : k < l.length
    · have j1 : (k : Int) < (l.length : Int) := by omega
      obtain ⟨g, o, rfl, _, _, ⟨y0, _⟩, _⟩ := ints_at HSL.out hlt
      have hdr : l.drop k = l[k] :: l.drop (k + 1) := (List.drop_eq_getElem_cons hlt)
      by_cases he : l[k] = n
      · have HF : Hid (decide (n ∈ l) = true) := by show _ = _; rw [hd.out, hdr, decide_eq_true_eq]; exact List.mem_cons.2 (.inl he.symm)
        have he' : (l[k] == n) = true := by rw [beq_iff_eq]; exact he
        clear hd hdr HSL
        generalize l[k] = x at *
        go_wp2_with fail
        go_ret
        exact ⟨retb_of HF.out.symm, rfl⟩
      · have HF : Hid (HaSt l n wr (.int .i64 ((k : Int) + 1)) wr) := ⟨rfl, k + 1, by simp, by omega, by
          show _ = _
          rw [hd.out, hdr, Bool.eq_iff_iff, decide_eq_true_eq, decide_eq_true_eq, List.mem_cons]
          exact or_iff_right fun e => he e.symm⟩
        have he' : (l[k] == n) = false := by rw [beq_eq_false_iff_ne]; exact he
        clear hd hdr HSL
        generalize l[k] = x at *
        go_wp2_with fail
        exact ⟨HF.out, by simp [intOf]; omega⟩
    · have j1 : ¬ (k : Int) < (l.length : Int) := by omega
      have HF : Hid (decide (n ∈ l) = false) := by show _ = _; rw [hd.out, List.drop_eq_nil_of_le (by omega)]; simp
      clear hd HSL
      go_wp2_with fail
      go_ret
      exact ⟨retb_of HF.out.symm, rfl⟩
def longS (a : Al) (s : ByteArray) : Int := if (lettersS a s).2 ≠ 0 then -1 else ((lettersS a s).1.length : Int)
set_option maxHeartbeats 4000000 in
theorem long_any (A1 A2 : Option Addr) (c1 c2 lo : Nat) (a : Al) (s : ByteArray) (w : World) (hin : AlIn w lo w.heap.size A1 A2 a) (hT : Utf8Tabs 0 1 w) (hs : s.size ≤ maxLen) :
    Calls Tryd.prog 34 #[.agg #[.slice A1 a.feats.length c1, .slice A2 a.lets.length c2], .string s] w fun e w' => e = .returned (.int .i64 (longS a s)) ∧ Below w.heap.size w w' := by
  have hal : Below w.heap.size w (w.alloc (.cells #[.slice A1 a.feats.length c1, .slice A2 a.lets.length c2] 25)) := (Below.refl _ _).alloc (Nat.le_refl _) _
  have hlet := Lib.hid (letters_any A1 A2 c1 c2 lo a s _ (hin.on hal) (Utf8Tabs_below hT hal) hs)
  have HS : Hid (longS a s = if (lettersS a s).2 ≠ 0 then -1 else ((lettersS a s).1.length : Int)) := rfl
  have HAL := Lib.hid hal
  generalize longS a s = R at *
  generalize lettersS a s = W at *
  obtain ⟨l, E⟩ := W
  simp only at HS
  clear hin hT hs hal
  go_enter Tryd.func34, Tryd.ntmps34
  go_wp2_with fail
  refine hlet.out.mono ?_
  rintro e w1 ⟨A, c, rfl, _, hb1⟩
  have HB := Lib.hid (HAL.out.trans (hb1.mono HAL.out.size))
  clear hlet hb1 HAL
  by_cases hE : E = 0
  · have e1 : (E != 0) = false := by rw [hE]; rfl
    have HF : Hid (R = (l.length : Int)) := by show _ = _; rw [HS.out, if_neg (by simp [hE])]
    clear hE HS
    go_wp2_with fail
    go_ret
    exact ⟨by rw [HF.out]; rfl, HB.out⟩
  · have e1 : (E != 0) = true := by rw [bne_iff_ne]; exact hE
    have HF : Hid (R = -1) := by show _ = _; rw [HS.out, if_pos hE]
    clear hE HS
    go_wp2_with fail
    go_ret
    exact ⟨by rw [HF.out]; rfl, HB.out⟩
end Go.Proofs.YtimhlnndobfehaaDoor
namespace Go.Proofs.YtimhlnndobfehaaDoor
open Go.RowKit
open Go.Lib (Utf8Tabs)
set_option linter.unusedVariables false

/-- A law's state: an alphabet and a pattern, boxed; what came in stands. -/
structure M1St (A1 A2 An : Option Addr) (c1 c2 cn : Nat) (a : Al) (ns : List Nd) (W w : World) : Prop where
  al : AlIn w 0 w.heap.size A1 A2 a
  tabs : Utf8Tabs 0 1 w
  l : Sl 5 vNd w 0 w.heap.size An ns
  r0 : Row w W.heap.size 25 [.slice A1 a.feats.length c1, .slice A2 a.lets.length c2]
  r1 : Row w (W.heap.size + 1) 28 [.slice An ns.length cn]
  below : Below W.heap.size W w
/-- A list that stands in the heap, of places. -/
structure Lst (A : Option Addr) (c : Nat) (l : List Int) (w : World) : Prop where
  sl : Sl 1 (vInt .i64) w 0 w.heap.size A l
section
variable {A1 A2 An : Option Addr} {c1 c2 cn : Nat} {a : Al} {ns : List Nd} {W w w' : World}
theorem M1St.on (h : M1St A1 A2 An c1 c2 cn a ns W w) (hb : Below w.heap.size w w') : M1St A1 A2 An c1 c2 cn a ns W w' :=
  ⟨h.al.on hb, Utf8Tabs_below h.tabs hb, (h.l.below vNd_good hb (Nat.le_refl _)).wide vNd_good (Nat.le_refl _) hb.size, h.r0.below hb h.r0.lt, h.r1.below hb h.r1.lt, h.below.trans (hb.mono h.below.size)⟩
theorem M1St.new (hin : AlIn w 0 w.heap.size A1 A2 a) (hT : Utf8Tabs 0 1 w) (hl : Sl 5 vNd w 0 w.heap.size An ns) :
    M1St A1 A2 An c1 c2 cn a ns w ((w.alloc (.cells #[.slice A1 a.feats.length c1, .slice A2 a.lets.length c2] 25)).alloc (.cells #[.slice An ns.length cn] 28)) := by
  have h1 := Row.new w 25 [.slice A1 a.feats.length c1, .slice A2 a.lets.length c2]
  have h2 := Row.new (w.alloc (.cells #[.slice A1 a.feats.length c1, .slice A2 a.lets.length c2] 25)) 28 [.slice An ns.length cn]
  have hb : Below w.heap.size w ((w.alloc (.cells #[.slice A1 a.feats.length c1, .slice A2 a.lets.length c2] 25)).alloc (.cells #[.slice An ns.length cn] 28)) := ((Below.refl _ _).alloc (Nat.le_refl _) _).alloc (by simp) _
  have hsz : (w.alloc (.cells #[.slice A1 a.feats.length c1, .slice A2 a.lets.length c2] 25)).heap.size = w.heap.size + 1 := by simp
  rw [hsz] at h2
  exact ⟨hin.on hb, Utf8Tabs_below hT hb, (hl.below vNd_good hb (Nat.le_refl _)).wide vNd_good (Nat.le_refl _) hb.size, h1.alloc _, h2, hb⟩
theorem M1St.drew (h : M1St A1 A2 An c1 c2 cn a ns W w) : M1St A1 A2 An c1 c2 cn a ns W w.drew := h.on (below_drewN (Below.refl _ _) 1)
theorem Lst.on {A : Option Addr} {c : Nat} {l : List Int} (h : Lst A c l w) (hb : Below w.heap.size w w') : Lst A c l w' := ⟨(h.sl.below (vInt_good _) hb (Nat.le_refl _)).wide (vInt_good _) (Nat.le_refl _) hb.size⟩
theorem Lst.of {base : Nat} {A : Option Addr} {c : Nat} {l : List Int} (h : w.ownsRow base 3 1 (.slice A l.length c) l.length (l.map (Value.int .i64))) (hk : ∀ x ∈ l, ∃ k : Nat, x = (k : Int) ∧ k ≤ 64) : Lst A c l w :=
  ⟨own_ints h (fun x hx => by obtain ⟨k, rfl, hk⟩ := hk x hx; exact kin_mk64 (by omega)) (Nat.zero_le _)⟩
/-- A member, and where it lies. -/
theorem Lst.at_ {A : Option Addr} {c : Nat} {l : List Int} (h : Lst A c l w) {k : Nat} {x : Int} (hx : l[k]? = some x) :
    ∃ g o, A = some ⟨g, o, none⟩ ∧ g < w.heap.size ∧ w.cell? ⟨g, o + k, none⟩ = some (.int .i64 x) := by
  obtain ⟨hk, rfl⟩ := List.getElem?_eq_some_iff.1 hx
  obtain ⟨g, o, e, _, h2, h3, _⟩ := ints_at h.sl hk
  exact ⟨g, o, e, h2, h3.1⟩
end
end Go.Proofs.YtimhlnndobfehaaDoor
