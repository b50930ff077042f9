/- Turned (both) and the document's Norm, walked. What ends in a word begins in the turned word, counted from the other end. Plain Lean. The law's has and long. A law's state with one pattern boxed; a list that a call gave. A law's state with two patterns boxed, one of them its own. -/
import Derived.Test.YtimhlnndobfehaaGreatDoorMt02
import Derived.Test.YtimhlnndobfehaaGreatDoorMt03
import Derived.Test.YtimhlnndobfehaaGreatDoorMd35
import Derived.Test.YtimhlnndobfehaaGreatDoorMt01
import Derived.Test.YtimhlnndobfehaaGreatDoorMd21
namespace Go.Proofs.YtimhlnndobfehaaGreatDoor
open Go.RowKit
set_option linter.unusedVariables false

def turnedE (ns : List Nd) : Int := if treeB ns then 0 else 40
def turnedN (ns : List Nd) : List Nd := if treeB ns then sub ns true ns.length 0 0 else []
theorem turned_false {ns : List Nd} (h : treeB ns = false) : turnedE ns = 40 ∧ turnedN ns = [] := by unfold turnedE turnedN; rw [h]; exact ⟨rfl, rfl⟩
theorem turned_true {ns : List Nd} (h : treeB ns = true) : turnedE ns = 0 ∧ turnedN ns = sub ns true ns.length 0 0 := by unfold turnedE turnedN; rw [h]; exact ⟨rfl, rfl⟩
theorem walked_top {ns : List Nd} (tn : Bool) {A : Option Addr} {c lo hi : Nat} {w : World} (ht : IsTree ns) (hhi : hi ≤ w.heap.size) (hsl : Sl 5 vNd w lo hi A ns) :
    Calls Tryz.prog 49 #[.slice none 0 0, .slice A ns.length c, .int .i64 0, .bool tn] w fun e w' =>
      ∃ A' n' c', e = .returned (.slice A' n' c') ∧ PatRes w w' (.agg #[.slice A' n' c']) (sub ns tn ns.length 0 0) := by
  refine (walked_any tn (c := c) (es := []) (v := .slice none 0 0) ht (by simp) (Nat.le_refl _) (hsl.wide vNd_good (Nat.le_refl _) hhi) (Nodes.nil w _)).mono ?_
  rintro e w' ⟨v', es', rfl, hn, he, hF⟩
  obtain ⟨A', c', rfl, _, _⟩ := own_form hn.row
  exact ⟨A', _, c', rfl, _, es', rfl, hn, he, hF.below (fun k h => by simp [Value.ownBlock] at h) (Nat.le_refl _)⟩
theorem put_top {ns : List Nd} (tn : Bool) {A : Option Addr} {c lo hi : Nat} {w : World} (ht : IsTree ns) (hhi : hi ≤ w.heap.size) (hsl : Sl 5 vNd w lo hi A ns) :
    Calls Tryz.prog 86 #[.slice none 0 0, .slice A ns.length c, .int .i64 0, .bool tn] w fun e w' =>
      ∃ A' n' c', e = .returned (.slice A' n' c') ∧ PatRes w w' (.agg #[.slice A' n' c']) (sub ns tn ns.length 0 0) := by
  have hmax := ht.max
  have hpos := ht.pos
  have hsz := tree_size ht
  refine (put_any ns tn A c lo w.heap.size ht.inr (by omega) (fun x hx => by have := kids_le ht hx; omega) ns.length 0 [] (.slice none 0 0) w hpos (by omega) (by rw [hsz, List.length_nil]; omega) (hsl.wide vNd_good (Nat.le_refl _) hhi) (Nat.le_refl _) (Nodes.nil w _)).mono ?_
  rintro e w' ⟨v', es', rfl, hn, he, hF, _, _⟩
  obtain ⟨A', c', rfl, _, _⟩ := own_form hn.row
  exact ⟨A', _, c', rfl, _, es', rfl, hn, he, hF.below (fun k h => by simp [Value.ownBlock] at h) (Nat.le_refl _)⟩

section
variable (A : Option Addr) (c lo hi : Nat) (ns : List Nd) (w : World)
set_option maxHeartbeats 4000000 in
theorem pturned_any (hm : ns.length ≤ 9223372036854775807) (hhi : hi ≤ w.heap.size) (hsl : Sl 5 vNd w lo hi A ns) :
    Calls Tryz.prog 37 #[.agg #[.slice A ns.length c]] w fun e w' => ∃ v, e = .returned (.tuple #[v, .int .i64 (turnedE ns)]) ∧ PatRes w w' v (turnedN ns) := by
  have hr1 : Row ((w.alloc (.cells #[.slice A ns.length c] 28)).alloc (.cells #[.slice none 0 0] 28)) w.heap.size 28 [.slice A ns.length c] := (Row.new w _ _).alloc _
  have hr2 : Row ((w.alloc (.cells #[.slice A ns.length c] 28)).alloc (.cells #[.slice none 0 0] 28)) (w.heap.size + 1) 28 [.slice none 0 0] := by
    have h := Row.new (w.alloc (.cells #[.slice A ns.length c] 28)) 28 [.slice none 0 0]
    simpa using h
  have hb : Below w.heap.size w ((w.alloc (.cells #[.slice A ns.length c] 28)).alloc (.cells #[.slice none 0 0] 28)) := ((Below.refl _ _).alloc (Nat.le_refl _) _).alloc (by simp) _
  have hbs := hb.size
  go_enter Tryz.func37, Tryz.ntmps37
  go_wp2_with fail
  refine (tree_any A c lo hi ns _ hm (by omega) (hsl.below vNd_good hb hhi)).mono ?_
  rintro e w1 ⟨rfl, hb1⟩
  have hbw : Below w.heap.size w w1 := hb.trans (hb1.mono hbs)
  have hr3 := hr1.below hb1 hr1.lt
  have hr4 := hr2.below hb1 hr2.lt
  obtain ⟨c3, f3⟩ := hr3.cel (i := 0) rfl
  obtain ⟨c4, f4⟩ := hr4.cel (i := 0) rfl
  have hl4 := hr4.lt
  clear hr1 hr2 hb hb1 hbs
  cases ht : treeB ns with
  | false =>
    have HT := Lib.hid (turned_false ht)
    go_wp2_with fail
    (try simp only [Exit.inBlock, Exit.then])
    refine bodyPost_ret (res_cell_tmp rfl _ _ (w.heap.size + 1) _ rfl (hr4.set_ 0 _)) rfl ?_
    refine ⟨_, by rw [HT.out.1]; rfl, ?_⟩
    rw [HT.out.2]
    exact PatRes.nothing (hbw.setCell (by simp) _)
  | true =>
    have HT := Lib.hid (turned_true ht)
    go_wp2_with fail
    refine (walked_top true ((treeB_iff ns).1 ht) (by have := hbw.size; omega) (hsl.below vNd_good hbw hhi)).mono ?_
    rintro e w2 ⟨A', n', c', rfl, hp⟩
    have hfin := hp.up hbw (H := w.heap.size + 1) (by omega) hr4.lt (.slice A' n' c')
    obtain ⟨_, _, _, _, _, hB⟩ := hp
    have hr5 := hr4.below hB hr4.lt
    obtain ⟨c5, f5⟩ := hr5.cel (i := 0) rfl
    clear hr3 hr4 c3 c4 f3 f4
    go_wp2_with fail
    (try simp only [Exit.inBlock, Exit.then])
    refine bodyPost_ret (res_cell_tmp rfl _ _ (w.heap.size + 1) _ rfl (hr5.set_ 0 _)) rfl ?_
    refine ⟨_, by rw [HT.out.1]; rfl, ?_⟩
    rw [HT.out.2]
    exact hfin

end
end Go.Proofs.YtimhlnndobfehaaGreatDoor
namespace Go.Proofs.YtimhlnndobfehaaGreatDoor
open Go.RowKit
set_option linter.unusedVariables false

theorem subs_all {P : Nd → Prop} {g : Nat → Nat → List Nd} : ∀ (l : List Int) (b : Nat), (∀ k ∈ l, ∀ b, ∀ x ∈ g b k.toNat, P x) → ∀ x ∈ (subs g b l).1, P x
  | [], b, _, x, hx => by simp [subs] at hx
  | k :: r, b, h, x, hx => by
    simp only [subs] at hx
    rcases List.mem_append.1 hx with hx | hx
    · exact h k (by simp) b x hx
    · exact subs_all r _ (fun k hk => h k (by simp [hk])) x hx
/-- What holds of all nodes whatever their kids, holds of a subtree's. -/
theorem sub_all {P : Nd → Prop} (hP : ∀ (x : Nd) (l : List Int), P x → P { x with kids := l }) {ns : List Nd} (hr : InR ns.length 0 ns) (ho : ∀ x ∈ ns, P x) (tn : Bool) : ∀ (f b i : Nat), i < ns.length → ∀ x ∈ sub ns tn f b i, P x
  | 0, _, _, _, x, hx => by simp [sub] at hx
  | f + 1, b, i, hi, x, hx => by
    unfold sub at hx
    rcases List.mem_cons.1 hx with rfl | hx
    · refine hP _ _ (ho _ ?_)
      rw [List.getD_eq_getElem?_getD, List.getElem?_eq_getElem hi]
      exact List.getElem_mem hi
    · exact subs_all _ _ (fun k hk b x hx => by
        have := inr_at i hr hi k ((kidsT_mem _ _ _).1 hk)
        exact sub_all hP hr ho tn f b k.toNat (by omega) x hx) x hx
theorem turned_may {a : Al} {ns : List Nd} (h : patE a ns = 0) : treeB ns = true ∧ patE a (turnedN ns) = 0 ∧ IsTree (turnedN ns) := by
  obtain ⟨hE, ht⟩ := pat_zero h
  have hb : treeB ns = true := (treeB_iff ns).2 ht
  have hq : turnedN ns = sub ns true ns.length 0 0 := (turned_true hb).2
  have hT := (sub_tree ht true).1
  refine ⟨hb, ?_, by rw [hq]; exact hT⟩
  have hall : ns.all (ndFit a) = true := by
    unfold patE at h
    rw [if_neg (by simp [hE])] at h
    unfold patOk at h
    cases hf : ns.all (ndFit a) with
    | true => rfl
    | false => rw [hf, Bool.and_false] at h; simp at h
  have hqa : (turnedN ns).all (ndFit a) = true := by
    rw [hq, List.all_eq_true]
    refine sub_all (P := fun x => ndFit a x = true) (fun x l hx => ?_) ht.inr (fun x hx => List.all_eq_true.1 hall x hx) true _ _ _ ht.pos
    unfold ndFit at hx ⊢
    exact hx
  unfold patE patOk
  rw [if_neg (by simp [hE]), hqa, Bool.and_true, hq, (treeB_iff _).2 hT, if_pos rfl]
theorem matL_reverse (a : Al) (l : List Int) : matL a l.reverse = (matL a l).reverse := by unfold matL; rw [List.map_reverse]
theorem falling_eq {l m : List Nat} (h1 : l.Pairwise (· < ·)) (h2 : m.Pairwise (· < ·)) {n : Nat} (hl : ∀ x ∈ l, x ≤ n) (hm : ∀ x ∈ m, x ≤ n) (h : ∀ x, x ≤ n → (x ∈ l ↔ n - x ∈ m)) : m = (l.map fun x => n - x).reverse := by
  refine rising_eq h2 ?_ fun x => ?_
  · rw [List.pairwise_reverse, List.pairwise_map]
    refine List.Pairwise.imp_of_mem ?_ h1
    intro x y hx hy hlt
    have := hl y hy
    omega
  · rw [List.mem_reverse, List.mem_map]
    constructor
    · intro hx
      have hxn := hm x hx
      refine ⟨n - x, (h (n - x) (by omega)).2 (by rw [show n - (n - x) = x by omega]; exact hx), by omega⟩
    · rintro ⟨y, hy, rfl⟩
      exact (h y (hl y hy)).1 hy
/-- What the law asks: the ends from a place in the word, the begins to the place from the other end in the turned word. -/
structure TurnAt (E B : Int → List Int × Int) (n i : Nat) : Prop where
  e : (E (i : Int)).2 = 0
  b : (B ((n - i : Nat) : Int)).2 = 0
  len : (B ((n - i : Nat) : Int)).1.length = (E (i : Int)).1.length
  el : (E (i : Int)).1.length ≤ n + 1
  at_ : ∀ k, k < (E (i : Int)).1.length → ∃ q : Nat, q ≤ n ∧ (E (i : Int)).1[k]? = some (q : Int) ∧ (B ((n - i : Nat) : Int)).1[(E (i : Int)).1.length - 1 - k]? = some ((n - q : Nat) : Int)
theorem turn_at {a : Al} {ns : List Nd} {s : ByteArray} (hp : patE a ns = 0) (hl : (lettersS a s).2 = 0) :
    turnedE ns = 0 ∧ turnedS a s = (encR (lettersS a s).1.reverse, 0) ∧ (lettersS a s).1.length ≤ 64 ∧ ∀ i, i ≤ (lettersS a s).1.length → TurnAt (endsS a ns s) (beginsS a (turnedN ns) (encR (lettersS a s).1.reverse)) (lettersS a s).1.length i := by
  obtain ⟨hok, hlets, hs⟩ := word_is hl
  obtain ⟨hb, hqp, hqt⟩ := turned_may hp
  have ht := (pat_zero hp).2
  have hq : turnedN ns = sub ns true ns.length 0 0 := (turned_true hb).2
  have hbs : begE a ns s = 0 := by unfold begE; rw [if_neg (by simp [hp]), hl]
  have hback := hlets.reverse.back hok
  have hbq : begE a (turnedN ns) (encR (lettersS a s).1.reverse) = 0 := by unfold begE; rw [if_neg (by simp [hqp]), hback]
  have hmw : matW a (encR (lettersS a s).1.reverse) = (matW a s).reverse := by unfold matW; rw [hback, matL_reverse]
  have hwl := matW_length a s
  have htu : turnedS a s = (encR (lettersS a s).1.reverse, 0) := by
    have := hlets.turned hok
    rw [← hs] at this
    exact this
  refine ⟨(turned_true hb).1, htu, hlets.2, fun i hi => ?_⟩
  rw [← hwl] at hi ⊢
  have he := ends_ok hbs hi
  have hbg := begins_ok (i := (matW a s).length - i) hbq (by rw [hmw, List.length_reverse]; omega)
  rw [hmw] at hbg
  have hn : (matW a s).reverse.length = (matW a s).length := List.length_reverse
  have key : begL (turnedN ns) (matW a s).reverse ((matW a s).length - i) = ((endsL ns (matW a s) 0 i).map fun x => (matW a s).length - x).reverse := by
    refine falling_eq (ends_sorted _ _ _ _) (show (begL (turnedN ns) (matW a s).reverse ((matW a s).length - i)).Pairwise (· < ·) from List.Pairwise.filter _ List.pairwise_lt_range) (fun x hx => ends_le hx) (fun x hx => ?_) fun x hx => ?_
    · have := ((mem_beg (by omega)).1 hx).1
      omega
    · rw [mem_ends hi, mem_beg (by omega), hq]
      have hr := turned_lies ht (L := matW a s) (i := i) (j := x) hi hx
      constructor
      · intro h
        have := rel_mono ns (matW a s) _ _ _ _ h
        exact ⟨by omega, hr.2 h⟩
      · rintro ⟨_, h⟩; exact hr.1 h
  generalize matW a s = L at *
  have hel := ends_len ns L 0 i
  have hle : ∀ x ∈ endsL ns L 0 i, x ≤ L.length := fun x hx => ends_le hx
  rw [key] at hbg
  generalize endsL ns L 0 i = E at *
  refine ⟨by rw [he], by rw [hbg], by rw [he, hbg]; simp [toI_len], by rw [he, toI_len]; exact hel, fun k hk => ?_⟩
  rw [he] at hk ⊢
  rw [hbg]
  simp only [toI_len] at hk ⊢
  have hkm := hle _ (List.getElem_mem hk)
  refine ⟨E[k], hkm, by unfold toI; rw [List.getElem?_map, List.getElem?_eq_getElem hk]; rfl, ?_⟩
  unfold toI
  rw [List.getElem?_map, List.getElem?_reverse (by simp; omega)]
  simp only [List.length_map]
  rw [show E.length - 1 - (E.length - 1 - k) = k by omega, List.getElem?_map, List.getElem?_eq_getElem hk]
  rfl
end Go.Proofs.YtimhlnndobfehaaGreatDoor
namespace Go.Proofs.YtimhlnndobfehaaGreatDoor
open Go.RowKit
open Go.Lib (Utf8Tabs)
set_option linter.unusedVariables false

def HaSt (l : List Int) (n : Int) (w : World) (x : Value) (wr : World) : Prop := wr = w ∧ ∃ k : Nat, x = .int .i64 (k : Int) ∧ k ≤ l.length ∧ Hid (decide (n ∈ l) = decide (n ∈ l.drop k))
def longS (a : Al) (s : ByteArray) : Int := if (lettersS a s).2 ≠ 0 then -1 else ((lettersS a s).1.length : Int)
set_option maxHeartbeats 4000000 in
theorem long_any (A1 A2 : Option Addr) (c1 c2 lo : Nat) (a : Al) (s : ByteArray) (w : World) (hin : AlIn w lo w.heap.size A1 A2 a) (hT : Utf8Tabs 0 1 w) (hs : s.size ≤ maxLen) :
    Calls Tryz.prog 36 #[.agg #[.slice A1 a.feats.length c1, .slice A2 a.lets.length c2], .string s] w fun e w' => e = .returned (.int .i64 (longS a s)) ∧ Below w.heap.size w w' := by
  have hal : Below w.heap.size w (w.alloc (.cells #[.slice A1 a.feats.length c1, .slice A2 a.lets.length c2] 25)) := (Below.refl _ _).alloc (Nat.le_refl _) _
  have hlet := Lib.hid (letters_any A1 A2 c1 c2 lo a s _ (hin.on hal) (Utf8Tabs_below hT hal) hs)
  have HS : Hid (longS a s = if (lettersS a s).2 ≠ 0 then -1 else ((lettersS a s).1.length : Int)) := rfl
  have HAL := Lib.hid hal
  generalize longS a s = R at *
  generalize lettersS a s = W at *
  obtain ⟨l, E⟩ := W
  simp only at HS
  clear hin hT hs hal
  go_enter Tryz.func36, Tryz.ntmps36
  go_wp2_with fail
  refine hlet.out.mono ?_
  rintro e w1 ⟨A, c, rfl, _, hb1⟩
  have HB := Lib.hid (HAL.out.trans (hb1.mono HAL.out.size))
  clear hlet hb1 HAL
  by_cases hE : E = 0
  · have e1 : (E != 0) = false := by rw [hE]; rfl
    have HF : Hid (R = (l.length : Int)) := by show _ = _; rw [HS.out, if_neg (by simp [hE])]
    clear hE HS
    go_wp2_with fail
    go_ret
    exact ⟨by rw [HF.out]; rfl, HB.out⟩
  · have e1 : (E != 0) = true := by rw [bne_iff_ne]; exact hE
    have HF : Hid (R = -1) := by show _ = _; rw [HS.out, if_pos hE]
    clear hE HS
    go_wp2_with fail
    go_ret
    exact ⟨by rw [HF.out]; rfl, HB.out⟩
end Go.Proofs.YtimhlnndobfehaaGreatDoor
namespace Go.Proofs.YtimhlnndobfehaaGreatDoor
open Go.RowKit
open Go.Lib (Utf8Tabs)
set_option linter.unusedVariables false

/-- A law's state: an alphabet and a pattern, boxed; what came in stands. -/
structure M1St (A1 A2 An : Option Addr) (c1 c2 cn : Nat) (a : Al) (ns : List Nd) (W w : World) : Prop where
  al : AlIn w 0 w.heap.size A1 A2 a
  tabs : Utf8Tabs 0 1 w
  l : Sl 5 vNd w 0 w.heap.size An ns
  r0 : Row w W.heap.size 25 [.slice A1 a.feats.length c1, .slice A2 a.lets.length c2]
  r1 : Row w (W.heap.size + 1) 28 [.slice An ns.length cn]
  below : Below W.heap.size W w
/-- A list that stands in the heap, of places. -/
structure Lst (A : Option Addr) (c : Nat) (l : List Int) (w : World) : Prop where
  sl : Sl 1 (vInt .i64) w 0 w.heap.size A l
section
variable {A1 A2 An : Option Addr} {c1 c2 cn : Nat} {a : Al} {ns : List Nd} {W w w' : World}
theorem M1St.on (h : M1St A1 A2 An c1 c2 cn a ns W w) (hb : Below w.heap.size w w') : M1St A1 A2 An c1 c2 cn a ns W w' :=
  ⟨h.al.on hb, Utf8Tabs_below h.tabs hb, (h.l.below vNd_good hb (Nat.le_refl _)).wide vNd_good (Nat.le_refl _) hb.size, h.r0.below hb h.r0.lt, h.r1.below hb h.r1.lt, h.below.trans (hb.mono h.below.size)⟩
theorem M1St.new (hin : AlIn w 0 w.heap.size A1 A2 a) (hT : Utf8Tabs 0 1 w) (hl : Sl 5 vNd w 0 w.heap.size An ns) :
    M1St A1 A2 An c1 c2 cn a ns w ((w.alloc (.cells #[.slice A1 a.feats.length c1, .slice A2 a.lets.length c2] 25)).alloc (.cells #[.slice An ns.length cn] 28)) := by
  have h1 := Row.new w 25 [.slice A1 a.feats.length c1, .slice A2 a.lets.length c2]
  have h2 := Row.new (w.alloc (.cells #[.slice A1 a.feats.length c1, .slice A2 a.lets.length c2] 25)) 28 [.slice An ns.length cn]
  have hb : Below w.heap.size w ((w.alloc (.cells #[.slice A1 a.feats.length c1, .slice A2 a.lets.length c2] 25)).alloc (.cells #[.slice An ns.length cn] 28)) := ((Below.refl _ _).alloc (Nat.le_refl _) _).alloc (by simp) _
  have hsz : (w.alloc (.cells #[.slice A1 a.feats.length c1, .slice A2 a.lets.length c2] 25)).heap.size = w.heap.size + 1 := by simp
  rw [hsz] at h2
  exact ⟨hin.on hb, Utf8Tabs_below hT hb, (hl.below vNd_good hb (Nat.le_refl _)).wide vNd_good (Nat.le_refl _) hb.size, h1.alloc _, h2, hb⟩
theorem M1St.drew (h : M1St A1 A2 An c1 c2 cn a ns W w) : M1St A1 A2 An c1 c2 cn a ns W w.drew := h.on (below_drewN (Below.refl _ _) 1)
theorem Lst.on {A : Option Addr} {c : Nat} {l : List Int} (h : Lst A c l w) (hb : Below w.heap.size w w') : Lst A c l w' := ⟨(h.sl.below (vInt_good _) hb (Nat.le_refl _)).wide (vInt_good _) (Nat.le_refl _) hb.size⟩
theorem Lst.of {base : Nat} {A : Option Addr} {c : Nat} {l : List Int} (h : w.ownsRow base 3 1 (.slice A l.length c) l.length (l.map (Value.int .i64))) (hk : ∀ x ∈ l, ∃ k : Nat, x = (k : Int) ∧ k ≤ 64) : Lst A c l w :=
  ⟨own_ints h (fun x hx => by obtain ⟨k, rfl, hk⟩ := hk x hx; exact kin_mk64 (by omega)) (Nat.zero_le _)⟩
/-- A member, and where it lies. -/
theorem Lst.at_ {A : Option Addr} {c : Nat} {l : List Int} (h : Lst A c l w) {k : Nat} {x : Int} (hx : l[k]? = some x) :
    ∃ g o, A = some ⟨g, o, none⟩ ∧ g < w.heap.size ∧ w.cell? ⟨g, o + k, none⟩ = some (.int .i64 x) := by
  obtain ⟨hk, rfl⟩ := List.getElem?_eq_some_iff.1 hx
  obtain ⟨g, o, e, _, h2, h3, _⟩ := ints_at h.sl hk
  exact ⟨g, o, e, h2, h3.1⟩
end
end Go.Proofs.YtimhlnndobfehaaGreatDoor
namespace Go.Proofs.YtimhlnndobfehaaGreatDoor
open Go.RowKit
open Go.Lib (Utf8Tabs)
set_option linter.unusedVariables false

/-- A law's state with one pattern more boxed. -/
structure TuSt (A1 A2 An Aq : Option Addr) (c1 c2 cn cq b : Nat) (a : Al) (ns qs : List Nd) (W w : World) : Prop where
  m : M1St A1 A2 An c1 c2 cn a ns W w
  q : Sl 5 vNd w 0 w.heap.size Aq qs
  r2 : Row w b 28 [.slice Aq qs.length cq]
theorem TuSt.on {A1 A2 An Aq : Option Addr} {c1 c2 cn cq b : Nat} {a : Al} {ns qs : List Nd} {W w w' : World} (h : TuSt A1 A2 An Aq c1 c2 cn cq b a ns qs W w) (hb : Below w.heap.size w w') : TuSt A1 A2 An Aq c1 c2 cn cq b a ns qs W w' :=
  ⟨h.m.on hb, (h.q.below vNd_good hb (Nat.le_refl _)).wide vNd_good (Nat.le_refl _) hb.size, h.r2.below hb h.r2.lt⟩
theorem patRes_sl {w w' : World} {v : Value} {ns : List Nd} (h : PatRes w w' v ns) : ∃ A c, v = .agg #[.slice A ns.length c] ∧ c ≤ maxLen ∧ Sl 5 vNd w' w.heap.size w'.heap.size A ns ∧ Below w.heap.size w w' := by
  obtain ⟨u, es, rfl, hn, he, hb⟩ := h
  obtain ⟨A, c, rfl, _, hc, hs⟩ := hn.sl
  rw [he] at hs
  have hl : es.length = ns.length := by rw [← he, List.length_map]
  exact ⟨A, c, by rw [hl], hc, hs, hb⟩
theorem small_of {r : List Int × Int} {l : List Int} (h : r = (l, 0)) (hl : l.length ≤ 66) (hm : ∀ x ∈ l, ∃ k : Nat, x = (k : Int) ∧ k ≤ 64) : r.1.length ≤ 66 ∧ ∀ x ∈ r.1, ∃ k : Nat, x = (k : Int) ∧ k ≤ 64 := by
  rw [h]
  exact ⟨hl, hm⟩
theorem endsS_small (a : Al) (ns : List Nd) (s : ByteArray) (f : Int) : (endsS a ns s f).1.length ≤ 66 ∧ ∀ x ∈ (endsS a ns s f).1, ∃ k : Nat, x = (k : Int) ∧ k ≤ 64 := by
  by_cases hb : begE a ns s = 0
  · have hn := matW_len (beg_zero hb).2
    cases hp : placeB (matW a s) f with
    | true =>
      obtain ⟨i, rfl, hi⟩ := place_nat hp
      refine small_of (ends_ok hb hi) (by rw [toI_len]; have := ends_len ns (matW a s) 0 i; omega) fun x hx => ?_
      obtain ⟨k, hk, rfl⟩ := mem_toI.1 hx
      exact ⟨k, rfl, by have := ends_le hk; omega⟩
    | false =>
      have : (endsS a ns s f).1 = [] := by unfold endsS; rw [if_neg (by simp [hb]), hp]; rfl
      rw [this]
      exact ⟨by simp, fun x hx => by cases hx⟩
  · have : (endsS a ns s f).1 = [] := by unfold endsS; rw [if_pos hb]
    rw [this]
    exact ⟨by simp, fun x hx => by cases hx⟩
theorem beginsS_small (a : Al) (ns : List Nd) (s : ByteArray) (f : Int) : (beginsS a ns s f).1.length ≤ 66 ∧ ∀ x ∈ (beginsS a ns s f).1, ∃ k : Nat, x = (k : Int) ∧ k ≤ 64 := by
  by_cases hb : begE a ns s = 0
  · have hn := matW_len (beg_zero hb).2
    cases hp : placeB (matW a s) f with
    | true =>
      obtain ⟨i, rfl, hi⟩ := place_nat hp
      refine small_of (begins_ok hb hi) (by rw [toI_len]; have := beg_len ns (matW a s) i; omega) fun x hx => ?_
      obtain ⟨k, hk, rfl⟩ := mem_toI.1 hx
      exact ⟨k, rfl, by have := ((mem_beg hi).1 hk).1; omega⟩
    | false =>
      have : (beginsS a ns s f).1 = [] := by unfold beginsS; rw [if_neg (by simp [hb]), hp]; rfl
      rw [this]
      exact ⟨by simp, fun x hx => by cases hx⟩
  · have : (beginsS a ns s f).1 = [] := by unfold beginsS; rw [if_pos hb]
    rw [this]
    exact ⟨by simp, fun x hx => by cases hx⟩
theorem allM_small (a : Al) (ns : List Nd) (s : ByteArray) : (allM a ns s).1.length ≤ 66 := by
  unfold allM
  by_cases hb : begE a ns s = 0
  · rw [if_neg (by simp [hb])]
    have hn := matW_len (beg_zero hb).2
    have := span_len ns (matW a s) ((matW a s).length + 1) 0
    show (spanF ns (matW a s) ((matW a s).length + 1) 0).length ≤ 66
    omega
  · rw [if_pos hb]
    simp
end Go.Proofs.YtimhlnndobfehaaGreatDoor
