/- Whole; Ends. The longest spans, none over another one: plain; and the two closures that are handed on. -/
import Derived.Test.YtimhlnndobfehaaDoorMc30
import Derived.Deep.RegionHeld3
namespace Go.Proofs.YtimhlnndobfehaaDoor
open Go.RowKit
open Go.Lib (Utf8Tabs)
set_option linter.unusedVariables false

theorem contains_int {A : Option Addr} {c lo hi : Nat} {l : List Int} {w : World} (hsl : Sl 1 (vInt .i64) w lo hi A l) (hm : l.length ≤ 9223372036854775807) (x : Int) :
    Calls Tryd.prog 57 #[.slice A l.length c, .int .i64 x] w fun e w' => e = .returned (.bool (l.contains x)) ∧ w' = w := by
  rcases Nat.eq_zero_or_pos l.length with h0 | h0
  · have hx : l = [] := List.eq_nil_of_length_eq_zero h0
    subst hx
    exact Tryd.slices_Contains_int_empty A c x w
  · obtain ⟨b, off, rfl, _⟩ := hsl h0
    have hc : ∀ j, j < l.length → w.cell? ⟨b, off + j, none⟩ = some (.int .i64 (l.getD j 0)) := fun j hj => by
      obtain ⟨b', off', e, _, _, hcel, _⟩ := ints_at hsl hj
      injection e with e
      injection e with e1 e2
      subst e1 e2
      rw [List.getD_eq_getElem?_getD, List.getElem?_eq_getElem hj]
      exact hcel.1
    refine (Tryd.slices_Contains_int b off l.length c l x w (Nat.le_refl _) hm hc).mono ?_
    rintro e w' ⟨rfl, rfl⟩
    exact ⟨by rw [List.take_length], rfl⟩
/-- Its ends are known at every node. -/
theorem Srch.ends {ns : List Nd} {L : List Lt} {An Al : Option Addr} {cn cl sp b : Nat} {Z : Nat → Prop} {w : World} (h : Srch ns L An Al cn cl sp b Z w) (hns : NodesOk ns) (hpos : 1 ≤ ns.length) (hZ : ∀ g, Z g → g < w.heap.size) {i : Nat} (hi : i ≤ L.length) :
    Calls Tryd.prog 56 #[.pointer (some ⟨sp, 0, none⟩), .int .i64 0, .int .i64 (i : Int)] w (PlOut ns L An Al cn cl sp b Z w (endsI ns L 0 i)) :=
  ends_any hns h.kids ns.length 0 (by omega) (by omega) i Z w hi hZ h
def matW (a : Al) (s : ByteArray) : List Lt := matL a (lettersS a s).1
def wholeS (a : Al) (ns : List Nd) (s : ByteArray) : Bool × Int := if begE a ns s ≠ 0 then (false, begE a ns s) else (decide (((matW a s).length : Int) ∈ endsI ns (matW a s) 0 0), 0)
/-- A bool and an error. -/
def BoOut (r : Bool × Int) (W : World) (e : Ending) (w' : World) : Prop := e = .returned (.tuple #[.bool r.1, .int .i64 r.2]) ∧ Below W.heap.size W w'
theorem BoOut.mk' {r : Bool × Int} {W w' : World} {x : Bool} {E : Int} (h : r = (x, E)) (hb : Below W.heap.size W w') : BoOut r W (.returned (.tuple #[.bool x, .int .i64 E])) w' := by
  subst h
  exact ⟨rfl, hb⟩
theorem beg_zero {a : Al} {ns : List Nd} {s : ByteArray} (h : begE a ns s = 0) : IsTree ns ∧ (lettersS a s).2 = 0 := by
  unfold begE at h
  by_cases hp : patE a ns = 0
  · rw [if_neg (by simp [hp])] at h
    exact ⟨(pat_zero hp).2, h⟩
  · rw [if_pos hp] at h; exact absurd h hp
theorem matW_len {a : Al} {s : ByteArray} (h : (lettersS a s).2 = 0) : (matW a s).length ≤ 64 := by
  unfold matW
  rw [matL_len]
  exact (word_is h).2.1.2
/-- What a call of the search's leaves, seen from before it. -/
theorem fr_below {w wr w' : World} {b : Nat} (hb : Below w.heap.size w wr) (hf : Fr (fun g => g = b) wr w') (h : w.heap.size ≤ b) : Below w.heap.size w w' := hb.trans (hf.below (fun g e => by have e : g = b := e; omega) hb.size)
set_option maxHeartbeats 8000000 in
set_option maxRecDepth 100000 in
theorem whole_any (A1 A2 An : Option Addr) (c1 c2 cn lo : Nat) (a : Al) (ns : List Nd) (s : ByteArray) (w : World) (hin : AlIn w lo w.heap.size A1 A2 a) (hT : Utf8Tabs 0 1 w) (hns : Sl 5 vNd w lo w.heap.size An ns) (hm : ns.length ≤ 9223372036854775807) (hs : s.size ≤ maxLen) :
    Calls Tryd.prog 29 #[.agg #[.slice A1 a.feats.length c1, .slice A2 a.lets.length c2], .agg #[.slice An ns.length cn], .string s] w (BoOut (wholeS a ns s) w) := by
  have hal : Below w.heap.size w ((w.alloc (.cells #[.slice A1 a.feats.length c1, .slice A2 a.lets.length c2] 25)).alloc (.cells #[.slice An ns.length cn] 28)) := ((Below.refl _ _).alloc (Nat.le_refl _) _).alloc (by simp) _
  have hbeg := Lib.hid (begun_any A1 A2 An c1 c2 cn lo a ns s _ (hin.on hal) (Utf8Tabs_below hT hal) ((hns.below vNd_good hal (Nat.le_refl _)).wide vNd_good (Nat.le_refl _) hal.size) hm hs)
  have HS : Hid (wholeS a ns s = if begE a ns s ≠ 0 then (false, begE a ns s) else (decide (((matW a s).length : Int) ∈ endsI ns (matW a s) 0 0), 0)) := rfl
  have HBZ := Lib.hid (beg_zero (a := a) (ns := ns) (s := s))
  have HAL := Lib.hid hal
  generalize wholeS a ns s = R at *
  clear hal hin hT hns
  go_enter Tryd.func29, Tryd.ntmps29
  go_wp2_with fail
  refine hbeg.out.mono ?_
  rintro e w1 ⟨hb1, ⟨hne, rfl⟩ | ⟨hz, sp, b, Al, cl, rfl, hb, hsr⟩⟩
  · have HFIN := Lib.hid (BoOut.mk' (W := w) (w' := w1) (show R = (false, begE a ns s) by rw [HS.out, if_pos hne]) (HAL.out.trans (hb1.mono HAL.out.size)))
    generalize begE a ns s = E at *
    have hE : (E != 0) = true := by rw [bne_iff_ne]; exact hne
    clear HS HBZ hbeg HAL hb1 hne
    go_wp2_with fail
    go_ret2
    exact HFIN.out
  · obtain ⟨htree, hl⟩ := HBZ.out hz
    have hlen := matW_len hl
    have hR : R = (decide (((matW a s).length : Int) ∈ endsI ns (matW a s) 0 0), 0) := by rw [HS.out, if_neg (by simp [hz])]
    have hbw := HAL.out.trans (hb1.mono HAL.out.size)
    have hbge : w.heap.size ≤ b := by have := HAL.out.size; omega
    rw [show matL a (lettersS a s).1 = matW a s from rfl] at hsr
    generalize matW a s = L at *
    have hel := endsI_len ns L 0 0
    have hcall := Lib.hid ((hsr.drewN 1).ends (tree_nodes htree) htree.pos (fun g h => h.elim) (Nat.zero_le _))
    obtain ⟨z1, f1⟩ := hsr.row.cel (i := 1) rfl
    have hspl := hsr.row.lt
    have hHR := Lib.hid hR
    have HSP := Lib.hid hsr
    have HBW := Lib.hid hbw
    clear HS HBZ hbeg HAL hb1 hz htree hl hR hsr hbw
    generalize endsI ns L 0 0 = E at *
    go_upto_region 4 with (fail)
    go_region_held3 (fun w' => w'.cell? ⟨sp, 1, none⟩ = some (.slice Al L.length cl)) (go_keep)
      ((first
        | (go_at_call 56; refine hcall.out.mono ?_; rintro e w5 ⟨A5, c5, rfl, hsl5, hs5, hfr5⟩; have k0 : w5.cell? ⟨sp, 1, none⟩ = some (.slice Al L.length cl) := (hs5.row.cel (i := 1) rfl).1)
        | (go_at_call 57; refine (contains_int hsl5.1 (by omega) _).mono ?_; rintro e w6 ⟨rfl, rfl⟩)))
    have HFIN := Lib.hid (BoOut.mk' hHR.out (fr_below (HBW.out.trans (below_drewN (Below.refl _ _) 1 |>.mono HBW.out.size)) hfr5 hbge))
    clear hsl5 hs5 hfr5 k0 hcall HSP
    go_wp2_with fail
    go_ret2
    exact HFIN.out
def endsS (a : Al) (ns : List Nd) (s : ByteArray) (f : Int) : List Int × Int := if begE a ns s ≠ 0 then ([], begE a ns s) else if placeB (matW a s) f then (endsI ns (matW a s) 0 f.toNat, 0) else ([], 2)
/-- Integers of the call's own, and an error. -/
def LiOut (r : List Int × Int) (W : World) (e : Ending) (w' : World) : Prop :=
  ∃ A c, e = .returned (.tuple #[.slice A r.1.length c, .int .i64 r.2]) ∧ w'.ownsRow W.heap.size 3 1 (.slice A r.1.length c) r.1.length (r.1.map (Value.int .i64)) ∧ Below W.heap.size W w'
theorem LiOut.no {r : List Int × Int} {E : Int} {W w' : World} (h : r = ([], E)) (hb : Below W.heap.size W w') : LiOut r W (.returned (.tuple #[.slice none 0 0, .int .i64 E])) w' := by
  subst h
  exact ⟨none, 0, rfl, World.ownsRow_nil _ _ _ _, hb⟩
theorem place_nat {L : List Lt} {f : Int} (h : placeB L f = true) : ∃ i : Nat, f = (i : Int) ∧ i ≤ L.length := by
  unfold placeB at h
  rw [decide_eq_true_eq] at h
  exact ⟨f.toNat, by omega, by omega⟩
set_option maxHeartbeats 8000000 in
set_option maxRecDepth 100000 in
theorem ends_op (A1 A2 An : Option Addr) (c1 c2 cn lo : Nat) (a : Al) (ns : List Nd) (s : ByteArray) (f : Int) (w : World) (hin : AlIn w lo w.heap.size A1 A2 a) (hT : Utf8Tabs 0 1 w) (hns : Sl 5 vNd w lo w.heap.size An ns) (hm : ns.length ≤ 9223372036854775807) (hs : s.size ≤ maxLen) :
    Calls Tryd.prog 27 #[.agg #[.slice A1 a.feats.length c1, .slice A2 a.lets.length c2], .agg #[.slice An ns.length cn], .string s, .int .i64 f] w (LiOut (endsS a ns s f) w) := by
  have hal : Below w.heap.size w ((w.alloc (.cells #[.slice A1 a.feats.length c1, .slice A2 a.lets.length c2] 25)).alloc (.cells #[.slice An ns.length cn] 28)) := ((Below.refl _ _).alloc (Nat.le_refl _) _).alloc (by simp) _
  have hbeg := Lib.hid (begun_any A1 A2 An c1 c2 cn lo a ns s _ (hin.on hal) (Utf8Tabs_below hT hal) ((hns.below vNd_good hal (Nat.le_refl _)).wide vNd_good (Nat.le_refl _) hal.size) hm hs)
  have HS : Hid (endsS a ns s f = if begE a ns s ≠ 0 then ([], begE a ns s) else if placeB (matW a s) f then (endsI ns (matW a s) 0 f.toNat, 0) else ([], 2)) := rfl
  have HBZ := Lib.hid (beg_zero (a := a) (ns := ns) (s := s))
  have HAL := Lib.hid hal
  generalize endsS a ns s f = R at *
  clear hal hin hT hns
  go_enter Tryd.func27, Tryd.ntmps27
  go_wp2_with fail
  refine hbeg.out.mono ?_
  rintro e w1 ⟨hb1, ⟨hne, rfl⟩ | ⟨hz, sp, b, Al, cl, rfl, hb, hsr⟩⟩
  · have HFIN := Lib.hid (LiOut.no (W := w) (w' := w1) (show R = ([], begE a ns s) by rw [HS.out, if_pos hne]) (HAL.out.trans (hb1.mono HAL.out.size)))
    generalize begE a ns s = E at *
    have hE : (E != 0) = true := by rw [bne_iff_ne]; exact hne
    clear HS HBZ hbeg HAL hb1 hne
    go_wp2_with fail
    go_ret2
    exact HFIN.out
  · obtain ⟨htree, hl⟩ := HBZ.out hz
    have hlen := matW_len hl
    have hR : R = if placeB (matW a s) f then (endsI ns (matW a s) 0 f.toNat, 0) else ([], 2) := by rw [HS.out, if_neg (by simp [hz])]
    have hbw := HAL.out.trans (hb1.mono HAL.out.size)
    have hbge : w.heap.size ≤ b := by have := HAL.out.size; omega
    rw [show matL a (lettersS a s).1 = matW a s from rfl] at hsr
    generalize matW a s = L at *
    have hpl := Lib.hid (place_any hsr f)
    have HBW := Lib.hid hbw
    have HSR := Lib.hid hsr
    have HTR := Lib.hid htree
    have hspl := hsr.row.lt
    clear HS HBZ hbeg HAL hb1 hz hl hsr hbw htree
    cases hP : placeB L f with
    | true =>
      rw [hP] at hpl hR
      obtain ⟨i, rfl, hi⟩ := place_nat hP
      have hR2 : R = (endsI ns L 0 i, 0) := hR
      have hcall := Lib.hid (HSR.out.ends (tree_nodes HTR.out) HTR.out.pos (fun g h => h.elim) hi)
      have hel := endsI_len ns L 0 i
      have HR := Lib.hid hR2
      clear hR hR2 hP
      generalize endsI ns L 0 i = E at *
      go_wp2_with fail
      refine hpl.out.mono ?_
      rintro e w2 ⟨rfl, rfl⟩
      go_wp2_with fail
      refine hcall.out.mono ?_
      rintro e w3 ⟨A, c, rfl, hsl, hs3, hfr⟩
      have hbw3 := fr_below HBW.out hfr hbge
      have hcl := Lib.hid (clone_int (c := c) hsl.1 (by omega))
      have HB3 := Lib.hid hbw3
      clear hsl hs3 hfr hbw3 hcall hpl
      go_wp2_with fail
      refine hcl.out.mono ?_
      rintro e w4 ⟨v, rfl, hown, hb4⟩
      obtain ⟨A4, c4, rfl, _⟩ := own_form hown
      have hfin : LiOut R w (.returned (.tuple #[.slice A4 E.length c4, .int .i64 0])) w4 := by
        rw [HR.out]
        exact ⟨A4, c4, rfl, own_low hown HB3.out.size, HB3.out.trans (hb4.mono HB3.out.size)⟩
      have HFIN := Lib.hid hfin
      clear hfin hown hb4 hcl
      go_wp2_with fail
      go_ret2
      exact HFIN.out
    | false =>
      rw [hP] at hpl hR
      have HFIN := Lib.hid (LiOut.no (W := w) (w' := w1) (show R = ([], 2) from hR) HBW.out)
      clear hR hP
      go_wp2_with fail
      refine hpl.out.mono ?_
      rintro e w2 ⟨rfl, rfl⟩
      go_wp2_with fail
      go_ret2
      exact HFIN.out
end Go.Proofs.YtimhlnndobfehaaDoor
namespace Go.Proofs.YtimhlnndobfehaaDoor
open Go.RowKit
set_option linter.unusedVariables false

def spanF (ns : List Nd) (L : List Lt) : Nat → Nat → List (Nat × Nat)
  | 0, _ => []
  | f + 1, i => if L.length < i then [] else match (endsL ns L 0 i).getLast? with
    | none => spanF ns L f (i + 1)
    | some t => (i, t) :: spanF ns L f (max (i + 1) t)
theorem spanF_fuel (ns : List Nd) (L : List Lt) : ∀ (f g i : Nat), L.length + 1 - i ≤ f → L.length + 1 - i ≤ g → spanF ns L f i = spanF ns L g i
  | 0, 0, _, _, _ => rfl
  | 0, g + 1, i, h, _ => by
    unfold spanF
    rw [if_pos (by omega)]
  | f + 1, 0, i, _, h => by
    conv => rhs; unfold spanF
    unfold spanF
    rw [if_pos (by omega)]
  | f + 1, g + 1, i, h1, h2 => by
    unfold spanF
    by_cases hi : L.length < i
    · rw [if_pos hi, if_pos hi]
    · rw [if_neg hi, if_neg hi]
      cases (endsL ns L 0 i).getLast? with
      | none => exact spanF_fuel ns L f g (i + 1) (by omega) (by omega)
      | some t => simp only; rw [spanF_fuel ns L f g (max (i + 1) t) (by omega) (by omega)]
/-- The spans from a place on. -/
def spanL (ns : List Nd) (L : List Lt) (i : Nat) : List (Nat × Nat) := spanF ns L (L.length + 1) i
theorem span_end {ns : List Nd} {L : List Lt} {i : Nat} (h : L.length < i) : spanL ns L i = [] := by
  unfold spanL spanF
  rw [if_pos h]
theorem span_none {ns : List Nd} {L : List Lt} {i : Nat} (h : i ≤ L.length) (he : endsL ns L 0 i = []) : spanL ns L i = spanL ns L (i + 1) := by
  conv => lhs; unfold spanL spanF
  rw [if_neg (by omega), he]
  exact spanF_fuel ns L _ _ _ (by omega) (by omega)
theorem span_some {ns : List Nd} {L : List Lt} {i t : Nat} (h : i ≤ L.length) (he : (endsL ns L 0 i).getLast? = some t) : spanL ns L i = (i, t) :: spanL ns L (max (i + 1) t) := by
  conv => lhs; unfold spanL spanF
  rw [if_neg (by omega), he]
  simp only
  unfold spanL
  rw [spanF_fuel ns L L.length (L.length + 1) _ (by omega) (by omega)]
theorem span_len (ns : List Nd) (L : List Lt) : ∀ f i, (spanF ns L f i).length ≤ f
  | 0, _ => by simp [spanF]
  | f + 1, i => by
    unfold spanF
    split
    · simp
    · split
      · have := span_len ns L f (i + 1); omega
      · rename_i t _
        have := span_len ns L f (max (i + 1) t)
        rw [List.length_cons]
        omega
def spanC (x : Nat × Nat) : List Value := [.int .i64 (x.1 : Int), .int .i64 (x.2 : Int)]
def spanVs (l : List (Nat × Nat)) : List Value := l.flatMap spanC
theorem spanVs_snoc (l : List (Nat × Nat)) (x : Nat × Nat) : spanVs (l ++ [x]) = spanVs l ++ [.int .i64 (x.1 : Int), .int .i64 (x.2 : Int)] := by unfold spanVs spanC; simp
theorem spanVs_len (l : List (Nat × Nat)) : (spanVs l).length = l.length * 2 := by
  unfold spanVs spanC
  induction l with
  | nil => rfl
  | cons x r ih => rw [List.flatMap_cons, List.length_append, ih, List.length_cons]; simp; omega
theorem span_info : (Tryd.prog.info? 62).map (fun i => (i.zero, i.size, i.bytes)) = some (some (.agg #[.int .i64 0, .int .i64 0]), 2, 16) := by kernel_rfl
/-- Spans so far, in a slice that a cell holds. -/
structure SpCell (W w : World) (bl : Nat) (acc : List (Nat × Nat)) (A : Option Addr) (c : Nat) : Prop where
  row : Row w bl 58 [.slice A acc.length c]
  own : w.ownsRow W.heap.size 62 2 (.slice A acc.length c) acc.length (spanVs acc)
set_option maxHeartbeats 4000000 in
set_option maxRecDepth 100000 in
theorem all1_any {W w : World} {bl : Nat} {acc : List (Nat × Nat)} {A : Option Addr} {c : Nat} (h : SpCell W w bl acc A c) (hbl : bl < W.heap.size) (hw : W.heap.size ≤ w.heap.size) (hn : acc.length ≤ 100) (x : Nat × Nat) :
    Calls Tryd.prog 60 #[.agg #[.int .i64 (x.1 : Int), .int .i64 (x.2 : Int)], .pointer (some ⟨bl, 0, none⟩)] w fun e w' => e = .returned (.bool true) ∧ ∃ A' c', SpCell W w' bl (acc ++ [x]) A' c' ∧ Fr (fun g => g = bl ∨ (Value.slice A acc.length c).ownBlock = some g) w w' ∧ (∀ g, (Value.slice A' (acc ++ [x]).length c').ownBlock = some g → (Value.slice A acc.length c).ownBlock = some g ∨ w.heap.size ≤ g) := by
  obtain ⟨i1, hi1, hy0, hy1, hy2⟩ := info_parts span_info
  obtain ⟨hr, hown⟩ := h
  have hal : Below w.heap.size w ((w.alloc (.cells #[.int .i64 (x.1 : Int), .int .i64 (x.2 : Int)] 62)).alloc (.cells #[.int .i64 (x.1 : Int), .int .i64 (x.2 : Int)] 62)) := ((Below.refl _ _).alloc (Nat.le_refl _) _).alloc (by simp) _
  have hrA := hr.below hal hr.lt
  have hownA := own_below hown hal
  have hnews := (Row.new (w.alloc (.cells #[.int .i64 (x.1 : Int), .int .i64 (x.2 : Int)] 62)) 62 [.int .i64 (x.1 : Int), .int .i64 (x.2 : Int)]).news
  have hsz : (w.alloc (.cells #[.int .i64 (x.1 : Int), .int .i64 (x.2 : Int)] 62)).heap.size = w.heap.size + 1 := by simp
  rw [hsz] at hnews
  have hone : ∀ u ∈ [Value.int .i64 (x.1 : Int), .int .i64 (x.2 : Int)], u.oneCell' = true := by
    intro u hu
    simp only [List.mem_cons, List.not_mem_nil, or_false] at hu
    rcases hu with rfl | rfl <;> rfl
  have h63 : acc.length + 1 ≤ maxLen := by unfold maxLen; omega
  have hby : (acc.length + 1) * 16 ≤ 140737488355328 := by omega
  have hlo : W.heap.size ≤ ((w.alloc (.cells #[.int .i64 (x.1 : Int), .int .i64 (x.2 : Int)] 62)).alloc (.cells #[.int .i64 (x.1 : Int), .int .i64 (x.2 : Int)] 62)).heap.size := by have := hal.size; omega
  obtain ⟨c0, f0⟩ := hr.cel (i := 0) rfl
  have hlt := hr.lt
  obtain ⟨x1, x2⟩ := x
  simp only at *
  go_enter Tryd.func60, Tryd.ntmps60
  go_wp2_with (at_builtin; refine wpList_append_lies _ rfl _ _ 58 rfl W.heap.size 62 i1 (.agg #[.int .i64 0, .int .i64 0]) 2 16 Tryd.underlying58 hi1 hy0 hy1 hy2 rfl (by decide) (.slice A acc.length c) acc.length (spanVs acc) rfl hownA ⟨w.heap.size + 1, 0, none⟩ 1 1 [.int .i64 (x1 : Int), .int .i64 (x2 : Int)] rfl rfl hnews hone (by decide) h63 hby hlo _ rfl ?_)
  intro g cap w2 hown2 hgr2 hat2 hlt2
  have hne : (Value.slice A acc.length c).ownBlock ≠ some bl := fun e => by have := (hown.lt _ e).1; omega
  have hr2 := hrA.grown hgr2 (fun e => hne e.symm)
  obtain ⟨c2, f2⟩ := hr2.cel (i := 0) rfl
  have hfin : ∃ A' c', SpCell W (w2.setCell ⟨bl, 0, none⟩ (.slice (some ⟨g, 0, none⟩) (acc.length + 1) cap)) bl (acc ++ [(x1, x2)]) A' c' ∧ Fr (fun g => g = bl ∨ (Value.slice A acc.length c).ownBlock = some g) w (w2.setCell ⟨bl, 0, none⟩ (.slice (some ⟨g, 0, none⟩) (acc.length + 1) cap)) ∧ (∀ g, (Value.slice A' (acc ++ [(x1, x2)]).length c').ownBlock = some g → (Value.slice A acc.length c).ownBlock = some g ∨ w.heap.size ≤ g) := by
    have e1 : (acc ++ [(x1, x2)]).length = acc.length + 1 := by simp
    refine ⟨some ⟨g, 0, none⟩, cap, ⟨?_, ?_⟩, ?_, ?_⟩
    · rw [e1]; exact hr2.set_ 0 _
    · rw [e1, spanVs_snoc]
      exact own_fr hown2 (Fr.set_ (S := fun k => k = bl) w2 ⟨bl, 0, none⟩ _ rfl) (fun k hk e => by have h1 := (hown2.lt k hk).1; have h2 : k = bl := e; omega)
    · exact ((Fr.of_below (S := fun g => g = bl ∨ (Value.slice A acc.length c).ownBlock = some g) hal).trans (T := fun g => (Value.slice A acc.length c).ownBlock = some g) (Fr.of_grown hgr2 fun k h => h) fun k _ h => .inr h).setc _ _ fun _ => .inl rfl
    · intro k hk
      obtain rfl : g = k := Option.some.inj hk
      rcases hat2 with h | h
      · exact .inl h
      · exact .inr (by have := hal.size; omega)
  have HFIN := Lib.hid hfin
  clear hfin hr2 hown2 hgr2 hat2 hlt2 hrA hownA hnews hone hal
  go_wp2_with fail
  go_ret
  exact ⟨rfl, HFIN.out⟩
end Go.Proofs.YtimhlnndobfehaaDoor
