/- WordOrder: for every alphabet, three words and a list of words, which of two words is ahead is told alike from both sides, of three none is ahead of itself by way of the others, and a sorted list has just the words handed in, each ahead of the next one. Conditions: unicode/utf8's two tables are as their text lays them (the card ties them). -/
import Derived.Test.YtfjccjjdgbkbiaaDoorWo34
import Derived.Test.YtfjccjjdgbkbiaaDoorWo35
import Derived.Test.YtfjccjjdgbkbiaaDoorWo06
import Derived.Test.YtfjccjjdgbkbiaaDoorWo02
import Derived.Test.YtfjccjjdgbkbiaaDoorCards
import Derived.Test.YtfjccjjdgbkbiaaDoorTie
namespace Go.Proofs.YtfjccjjdgbkbiaaDoor
open Go.RowKit
set_option linter.unusedVariables false

theorem both_ok {a : Al} {x y : ByteArray} (hx : (lettersS a x).2 = 0) (hy : (lettersS a y).2 = 0) : cmpS a x y = (cmpL (rkA a) (lettersS a x).1 (lettersS a y).1, 0) := by
  unfold cmpS bothS
  rw [hx, hy]
  simp
theorem both_bad {a : Al} {x y : ByteArray} (h : ¬ ((lettersS a x).2 = 0 ∧ (lettersS a y).2 = 0)) : (cmpS a x y).1 = 0 ∧ (cmpS a x y).2 ≠ 0 := by
  unfold cmpS bothS
  by_cases hx : (lettersS a x).2 = 0
  · by_cases hy : (lettersS a y).2 = 0
    · exact absurd ⟨hx, hy⟩ h
    · rw [hx]; simp [hy]
  · simp [hx]
theorem cmp_words {a : Al} {x y : ByteArray} (hx : (lettersS a x).2 = 0) (hy : (lettersS a y).2 = 0) : cmpL (rkA a) (lettersS a x).1 (lettersS a y).1 = 0 ↔ x = y := by
  obtain ⟨hok, h1, e1⟩ := word_is hx
  obtain ⟨_, h2, e2⟩ := word_is hy
  constructor
  · intro h
    rw [e1, e2, cmpA_zero hok h1.1 h2.1 h]
  · intro h
    subst h
    exact cmpL_self _ _
/-- Two words, from both sides. -/
theorem order_two (a : Al) (x y : ByteArray) : ((cmpS a x y).2 = 0 ∧ (cmpS a y x).2 = 0 ∧ (cmpS a y x).1 = - (cmpS a x y).1 ∧ ((cmpS a x y).1 = -1 ∨ (cmpS a x y).1 = 0 ∨ (cmpS a x y).1 = 1) ∧ ((cmpS a x y).1 = 0 ↔ x = y)) ∨
    ((cmpS a x y).2 ≠ 0 ∧ (cmpS a y x).2 ≠ 0 ∧ (cmpS a x y).1 = 0 ∧ (cmpS a y x).1 = 0) := by
  by_cases h : (lettersS a x).2 = 0 ∧ (lettersS a y).2 = 0
  · refine .inl ?_
    rw [both_ok h.1 h.2, both_ok h.2 h.1]
    exact ⟨rfl, rfl, cmpL_flip _ _ _, cmpL_three _ _ _, cmp_words h.1 h.2⟩
  · have h1 := both_bad h
    have h2 := both_bad (a := a) (x := y) (y := x) (fun hh => h ⟨hh.2, hh.1⟩)
    exact .inr ⟨h1.2, h2.2, h1.1, h2.1⟩
theorem cmp_zero_ok {a : Al} {x y : ByteArray} (h : (cmpS a x y).2 = 0) : (lettersS a x).2 = 0 ∧ (lettersS a y).2 = 0 := by
  apply Classical.byContradiction
  intro hh
  exact (both_bad hh).2 h
/-- Of three words none is ahead of itself. -/
theorem order_three (a : Al) (x y z : ByteArray) (h1 : (cmpS a x y).2 = 0) (h2 : (cmpS a y z).2 = 0) (h3 : (cmpS a x z).2 = 0) :
    ((cmpS a x y).1 = -1 ∨ (cmpS a x y).1 = 0 ∨ (cmpS a x y).1 = 1) ∧ ((cmpS a y z).1 = -1 ∨ (cmpS a y z).1 = 0 ∨ (cmpS a y z).1 = 1) ∧ ((cmpS a x z).1 = -1 ∨ (cmpS a x z).1 = 0 ∨ (cmpS a x z).1 = 1) ∧
    ((cmpS a x y).1 ≤ 0 → (cmpS a y z).1 ≤ 0 → (cmpS a x z).1 ≤ 0 ∧ ((cmpS a x z).1 = 0 → (cmpS a x y).1 = 0 ∧ (cmpS a y z).1 = 0)) := by
  obtain ⟨hx, hy⟩ := cmp_zero_ok h1
  obtain ⟨_, hz⟩ := cmp_zero_ok h2
  rw [both_ok hx hy, both_ok hy hz, both_ok hx hz]
  generalize (lettersS a x).1 = l
  generalize (lettersS a y).1 = k
  generalize (lettersS a z).1 = j
  have c1 := cmpL_three (rkA a) l k
  have c2 := cmpL_three (rkA a) k j
  have c3 := cmpL_three (rkA a) l j
  refine ⟨c1, c2, c3, fun h1 h2 => ?_⟩
  simp only at h1 h2 ⊢
  rcases c1 with c1 | c1 | c1
  · rcases c2 with c2 | c2 | c2
    · have := cmpL_trans (rkA a) c1 c2; omega
    · have c2' : cmpL (rkA a) j k = 0 := by have := cmpL_flip (rkA a) k j; omega
      have e := cmpL_zero_left (rkA a) c2' l
      have f1 := cmpL_flip (rkA a) l k
      have f2 := cmpL_flip (rkA a) l j
      omega
    · omega
  · have e := cmpL_zero_left (rkA a) c1 j
    omega
  · omega
theorem allF_zero (a : Al) : ∀ l : List ByteArray, (allF a l).2 = 0 → (∀ s ∈ l, (lettersS a s).2 = 0) ∧ (allF a l).1 = l.map fun s => (lettersS a s).1
  | [], _ => ⟨fun s hs => by simp at hs, rfl⟩
  | s :: r, h => by
    unfold allF at h ⊢
    by_cases h1 : (lettersS a s).2 = 0
    · rw [if_neg (by simp [h1])] at h ⊢
      by_cases h2 : (allF a r).2 = 0
      · obtain ⟨h3, h4⟩ := allF_zero a r h2
        rw [if_neg (by simp [h2])]
        refine ⟨fun t ht => ?_, by rw [h4]; rfl⟩
        rcases List.mem_cons.1 ht with rfl | ht
        · exact h1
        · exact h3 t ht
      · rw [if_pos h2] at h; exact absurd h h2
    · rw [if_pos h1] at h; exact absurd h h1
theorem sort_zero {a : Al} {l : List ByteArray} (h : (sortS a l).2 = 0) : alOk a = true ∧ l.length ≤ 4096 ∧ (∀ s ∈ l, (lettersS a s).2 = 0) ∧ (sortS a l).1 = rowR (rkA a) (l.map fun s => (lettersS a s).1) := by
  unfold sortS at h ⊢
  by_cases h1 : (allS a l).2 = 0
  · rw [if_neg (by simp [h1])]
    unfold allS at h1 ⊢
    cases hok : alOk a with
    | false => rw [hok] at h1; simp at h1
    | true =>
      rw [hok] at h1
      by_cases h2 : 4096 < l.length
      · simp [h2] at h1
      · simp only [Bool.true_eq_false, if_false, h2] at h1 ⊢
        obtain ⟨h3, h4⟩ := allF_zero a l h1
        exact ⟨trivial, by omega, h3, by rw [h4]⟩
  · rw [if_pos h1] at h; exact absurd h h1
theorem sort_err {a : Al} {l : List ByteArray} (h : (sortS a l).2 ≠ 0) : (sortS a l).1 = [] := by
  unfold sortS at h ⊢
  by_cases h1 : (allS a l).2 = 0
  · rw [if_neg (by simp [h1])] at h; exact absurd rfl h
  · rw [if_pos h1]
theorem mem_z {a : Al} (hok : alOk a = true) {ls : List (List Int)} (h : ∀ x ∈ ls, Lets a x) : ∀ x ∈ ls, ∀ y ∈ ls, cmpL (rkA a) x y = 0 → x = y := fun x hx y hy he => cmpA_zero hok (h x hx).1 (h y hy).1 he
/-- What is sorted, is. -/
theorem sorted_facts {a : Al} {l : List ByteArray} (h : (sortS a l).2 = 0) :
    (∀ x ∈ (sortS a l).1, Lets a x) ∧ alOk a = true ∧ Rows (rkA a) (sortS a l).1 ∧ (∀ x, x ∈ (sortS a l).1.map encR ↔ x ∈ l) ∧ (sortS a ((sortS a l).1.map encR)) = ((sortS a l).1, 0) := by
  obtain ⟨hok, hn, hl, e⟩ := sort_zero h
  have hlets : ∀ x ∈ l.map (fun s => (lettersS a s).1), Lets a x := fun x hx => by
    obtain ⟨s, hs, rfl⟩ := List.mem_map.1 hx
    exact (word_is (hl s hs)).2.1
  have hmem := rowR_mem (rkA a) _ (mem_z hok hlets)
  have hrows := rowR_rows (rkA a) (l.map fun s => (lettersS a s).1)
  rw [← e] at hmem hrows
  have hlets2 : ∀ x ∈ (sortS a l).1, Lets a x := fun x hx => hlets x ((hmem x).1 hx)
  have hlen : (sortS a l).1.length ≤ 4096 := by
    rw [e]
    have key : ∀ ls : List (List Int), (rowR (rkA a) ls).length ≤ ls.length := by
      intro ls
      induction ls with
      | nil => exact Nat.le_refl _
      | cons x r ih =>
        have k2 : ∀ q : List (List Int), (insR (rkA a) x q).length ≤ q.length + 1 := by
          intro q
          induction q with
          | nil => simp [insR]
          | cons y q ihq =>
            unfold insR
            split
            · simp
            · split
              · simp
              · simp only [List.length_cons]; omega
        have := k2 (rowR (rkA a) r)
        show (insR (rkA a) x (rowR (rkA a) r)).length ≤ _
        simp only [List.length_cons]
        omega
    have := key (l.map fun s => (lettersS a s).1)
    rw [List.length_map] at this
    omega
  refine ⟨hlets2, hok, hrows, fun x => ?_, ?_⟩
  · constructor
    · intro hx
      obtain ⟨y, hy, rfl⟩ := List.mem_map.1 hx
      obtain ⟨s, hs, rfl⟩ := List.mem_map.1 ((hmem y).1 hy)
      rw [text_back (hl s hs)]
      exact hs
    · intro hx
      exact List.mem_map.2 ⟨(lettersS a x).1, (hmem _).2 (List.mem_map.2 ⟨x, hx, rfl⟩), text_back (hl x hx)⟩
  · generalize (sortS a l).1 = R at *
    have hb : ∀ s ∈ R.map encR, (lettersS a s).2 = 0 := fun s hs => by
      obtain ⟨y, hy, rfl⟩ := List.mem_map.1 hs
      rw [(hlets2 y hy).back hok]
    have hm : (R.map encR).map (fun s => (lettersS a s).1) = R := by
      rw [List.map_map]
      conv => rhs; rw [← List.map_id R]
      refine List.map_congr_left fun x hx => ?_
      show (lettersS a (encR x)).1 = id x
      rw [(hlets2 x hx).back hok]
      rfl
    have he : allS a (R.map encR) = (R, 0) := by
      unfold allS
      rw [if_neg (by rw [hok]; simp), if_neg (by rw [List.length_map]; omega), allF_ok a _ hb, hm]
    unfold sortS
    rw [he, if_neg (by simp)]
    have hz := mem_z hok hlets2
    rw [rows_unique (rkA a) _ _ (rowR_rows (rkA a) R) hrows (rowR_mem (rkA a) R hz)]
theorem sorted_next {a : Al} {l : List ByteArray} (h : (sortS a l).2 = 0) {i : Nat} (hi : i + 1 < (sortS a l).1.length) : cmpS a (encR (sortS a l).1[i]) (encR (sortS a l).1[i + 1]) = (-1, 0) := by
  obtain ⟨hl, hok, hr, _⟩ := sorted_facts h
  have h1 := (hl _ (List.getElem_mem (show i < (sortS a l).1.length by omega))).back hok
  have h2 := (hl _ (List.getElem_mem hi)).back hok
  rw [both_ok (by rw [h1]) (by rw [h2]), h1, h2]
  exact Prod.ext (List.pairwise_iff_getElem.1 hr i (i + 1) (by omega) hi (by omega)) rfl
end Go.Proofs.YtfjccjjdgbkbiaaDoor
namespace Go.Proofs.YtfjccjjdgbkbiaaDoor
open Go.RowKit
open Go.Lib (Utf8Tabs)
set_option linter.unusedVariables false

theorem sortS_short (a : Al) (l : List ByteArray) : (sortS a l).1.length ≤ 4096 ∧ ∀ x ∈ (sortS a l).1, x.length ≤ 64 := by
  by_cases h : (sortS a l).2 = 0
  · obtain ⟨hl, hok, _, _, hs⟩ := sorted_facts h
    refine ⟨?_, fun x hx => (hl x hx).2⟩
    have h2 : (sortS a ((sortS a l).1.map encR)).2 = 0 := by rw [hs]
    have := (sort_zero h2).2.1
    rwa [List.length_map] at this
  · rw [sort_err h]
    exact ⟨by simp, fun x hx => by simp at hx⟩
theorem order_walk (A1 A2 AL : Option Addr) (c1 c2 cl : Nat) (a : Al) (x y z : ByteArray) (l : List ByteArray) (w : World) (hin : AlIn w 0 w.heap.size A1 A2 a) (hT : Utf8Tabs 0 1 w)
    (hx : x.size ≤ maxLen) (hy : y.size ≤ maxLen) (hz : z.size ≤ maxLen) (hsl : Sl 1 vStr w 0 w.heap.size AL l) (hl : l.length ≤ 9223372036854775807) :
    Calls Tryd.prog 7 #[.agg #[.slice A1 a.feats.length c1, .slice A2 a.lets.length c2], .string x, .string y, .string z, .slice AL l.length cl] w fun e w' => e = .returned (.bool true) ∧ Below w.heap.size w w' := by
  have hs0 := LSt.new A1 A2 c1 c2 a w hin hT
  have hsh := sortS_short a l
  have hms : ∀ s ∈ (sortS a l).1.map encR, s.size ≤ maxLen := fun s hs => by
    obtain ⟨q, hq, rfl⟩ := List.mem_map.1 hs
    exact encR_max (by have := hsh.2 q hq; omega)
  have hS : ∀ (l : List ByteArray) (B : Option Addr) (d : Nat), l.length ≤ 9223372036854775807 → ∀ wx : World, LSt A1 A2 c1 c2 a w wx → Sl 1 vStr wx 0 wx.heap.size B l → Calls Tryd.prog 31 #[.agg #[.slice A1 a.feats.length c1, .slice A2 a.lets.length c2], .slice B l.length d] wx (StrsOut ((sortS a l).1.map encR, (sortS a l).2) wx) :=
    fun l B d hn wx h hsx => sort_any A1 A2 B c1 c2 d 0 a l wx h.al h.tabs hsx hn
  refine order_core A1 A2 AL c1 c2 cl a x y z l ((sortS a l).1.map encR) (cmpS a x y).1 (cmpS a y x).1 (cmpS a y z).1 (cmpS a x z).1 (cmpS a x y).2 (cmpS a y x).2 (cmpS a y z).2 (cmpS a x z).2 (sortS a l).2 w hs0 hsl hl
    (by rw [List.length_map]; exact hsh.1) (order_two a x y) (order_three a x y z) (fun wx h => awake_any wx h.tabs) ?_ ?_ ?_ ?_ ?_ ?_ ?_ ?_ ?_ hms ?_
  · exact fun wx h => cmp_any A1 A2 c1 c2 0 a x y wx h.al h.tabs hx hy
  · exact fun wx h => cmp_any A1 A2 c1 c2 0 a y x wx h.al h.tabs hy hx
  · exact fun wx h => cmp_any A1 A2 c1 c2 0 a y z wx h.al h.tabs hy hz
  · exact fun wx h => cmp_any A1 A2 c1 c2 0 a x z wx h.al h.tabs hx hz
  · exact fun wx h => hS l AL cl hl wx h (h.slice hsl)
  · intro he B d wx h hsx
    obtain ⟨_, _, _, _, hs⟩ := sorted_facts he
    have := hS ((sortS a l).1.map encR) B d (by rw [List.length_map]; have := hsh.1; omega) wx h hsx
    rw [hs] at this
    exact this
  · intro he i hi wx h
    have hi' : i + 1 < (sortS a l).1.length := by simpa using hi
    have := cmp_any A1 A2 c1 c2 0 a ((sortS a l).1.map encR)[i] ((sortS a l).1.map encR)[i + 1] wx h.al h.tabs (hms _ (List.getElem_mem _)) (hms _ (List.getElem_mem _))
    rw [List.getElem_map, List.getElem_map, sorted_next he hi'] at this
    rw [List.getElem_map, List.getElem_map]
    exact this
  · exact fun he s hs => ((sorted_facts he).2.2.2.1 s).1 hs
  · exact fun he s hs => ((sorted_facts he).2.2.2.1 s).2 hs
  · exact fun he => by rw [sort_err he]; rfl
end Go.Proofs.YtfjccjjdgbkbiaaDoor
namespace Go.Proofs.YtfjccjjdgbkbiaaDoor
open Go.ChangeShapes Go.WideShapes Go.RowKit
set_option linter.unusedVariables false

def tLt : Ty Lt := ⟨3, vLt, fun _ => 4, fun _ => True⟩
set_option maxRecDepth 100000 in
theorem opens_Lt {H : Type} {enc : TypeId × Value → H} {w : World} : Opens enc Tryd.prog w 84 tLt := by
  refine ⟨by kernel_rfl, vLt_good, fun {fuel cs x ps} h hf => ?_⟩
  obtain ⟨ys, n, _, hx, hlen, hyl, hfs⟩ := DataW.trod_struct Tryd.underlying84 h
  have hlen' : cs.length = 3 := hlen.trans (by kernel_rfl)
  match cs, hlen', ys, hyl with
  | [c0, c1, c2], _, [y0, y1, y2], _ =>
    simp only [Prod.mk.injEq] at hx
    obtain ⟨rfl, rfl⟩ := hx
    have g0 := hfs 0 _ rfl
    have g1 := hfs 1 _ rfl
    have g2 := hfs 2 _ rfl
    have o0 := (opens_int Tryd.underlying21 (by kernel_rfl) : Opens enc Tryd.prog w _ _)
    have e0 : Tryd.prog.cellsOf _ = 1 := o0.size
    obtain ⟨a0, ⟨p0, k0⟩, _, m0, _⟩ := o0.cells (cs := [c0]) (x := y0.1) (ps := y0.2) (by simpa [e0] using g0) (fun b o hm => hf b o (List.mem_flatMap.2 ⟨y0, by simp, hm⟩))
    have o1 := (opens_int Tryd.underlying38 (by kernel_rfl) : Opens enc Tryd.prog w _ _)
    have e1 : Tryd.prog.cellsOf _ = 1 := o1.size
    obtain ⟨a1, ⟨p1, k1⟩, _, m1, _⟩ := o1.cells (cs := [c1]) (x := y1.1) (ps := y1.2) (by simpa [e1] using g1) (fun b o hm => hf b o (List.mem_flatMap.2 ⟨y1, by simp, hm⟩))
    obtain ⟨a2, ⟨p2, k2⟩, _, m2, _⟩ := o1.cells (cs := [c2]) (x := y2.1) (ps := y2.2) (by simpa [e1] using g2) (fun b o hm => hf b o (List.mem_flatMap.2 ⟨y2, by simp, hm⟩))
    have k1 := kin_u32 k1
    have k2 := kin_u32 k2
    have n1 : ((a1.toNat : Nat) : Int) = a1 := Int.toNat_of_nonneg k1.1
    have n2 : ((a2.toNat : Nat) : Int) = a2 := Int.toNat_of_nonneg k2.1
    simp only [List.cons.injEq, and_true] at p0 p1 p2
    refine ⟨⟨a0, a1.toNat, a2.toNat⟩, ⟨by rw [p0, p1, p2, n1, n2], k0, by show a1.toNat < _; omega, by show a2.toNat < _; omega⟩, rfl, ?_, fun _ => trivial⟩
    simp only [tLt, tInt, List.map_cons, List.map_nil, Rows.uptoBulk, Rows.uptoBulkAll] at m0 m1 m2 ⊢
    omega

def vAl : Rep Al := fun w lo hi cs x => ∃ c0 c1, cs = [c0, c1] ∧ vSl 1 vStr w lo hi [c0] x.feats ∧ vSl 3 vLt w lo hi [c1] x.lets
theorem vAl_good : vAl.Good :=
  ⟨fun k ⟨c0, c1, e, h0, h1⟩ => ⟨c0, c1, e, (vSl_good vStr_good).keep k h0, (vSl_good vLt_good).keep k h1⟩, fun a b ⟨c0, c1, e, h0, h1⟩ => ⟨c0, c1, e, (vSl_good vStr_good).wide a b h0, (vSl_good vLt_good).wide a b h1⟩⟩
def tAl : Ty Al := ⟨2, vAl, fun x => (tSl 16 tStr).m x.feats + (tSl 12 tLt).m x.lets + 1, fun x => (tSl 16 tStr).Q x.feats ∧ (tSl 12 tLt).Q x.lets⟩
set_option maxRecDepth 100000 in
theorem opens_Al {H : Type} {enc : TypeId × Value → H} {w : World} : Opens enc Tryd.prog w 25 tAl := by
  refine ⟨by kernel_rfl, vAl_good, fun {fuel cs x ps} h hf => ?_⟩
  obtain ⟨ys, n, _, hx, hlen, hyl, hfs⟩ := DataW.trod_struct Tryd.underlying25 h
  have hlen' : cs.length = 2 := hlen.trans (by kernel_rfl)
  match cs, hlen', ys, hyl with
  | [c0, c1], _, [y0, y1], _ =>
    simp only [Prod.mk.injEq] at hx
    obtain ⟨rfl, rfl⟩ := hx
    have g0 := hfs 0 _ rfl
    have g1 := hfs 1 _ rfl
    have o0 : Opens enc Tryd.prog w _ (tSl 16 tStr) := opens_slice Tryd.underlying22 (by kernel_rfl) (by kernel_rfl) (by decide) (opens_str Tryd.underlying9 (by kernel_rfl))
    have e0 : Tryd.prog.cellsOf _ = 1 := o0.size
    obtain ⟨a0, p0, _, m0, q0⟩ := o0.cells (cs := [c0]) (x := y0.1) (ps := y0.2) (by simpa [e0] using g0) (fun b o hm => hf b o (List.mem_flatMap.2 ⟨y0, by simp, hm⟩))
    have o1 : Opens enc Tryd.prog w _ (tSl 12 tLt) := opens_slice Tryd.underlying23 (by kernel_rfl) (by kernel_rfl) (by decide) opens_Lt
    have e1 : Tryd.prog.cellsOf _ = 1 := o1.size
    obtain ⟨a1, p1, _, m1, q1⟩ := o1.cells (cs := [c1]) (x := y1.1) (ps := y1.2) (by simpa [e1] using g1) (fun b o hm => hf b o (List.mem_flatMap.2 ⟨y1, by simp, hm⟩))
    refine ⟨⟨a0, a1⟩, ⟨c0, c1, rfl, p0, p1⟩, rfl, ?_, fun hq => ⟨q0 fun n hn => hq n (by simp only [DataW.weights, Tryd.underlying25]; exact weights_each 0 rfl rfl hn), q1 fun n hn => hq n (by simp only [DataW.weights, Tryd.underlying25]; exact weights_each 1 rfl rfl hn)⟩⟩
    simp only [tAl, List.map_cons, List.map_nil, Rows.uptoBulk, Rows.uptoBulkAll]
    omega
theorem al_cells {w : World} {lo hi : Nat} {cs : List Value} {x : Al} (h : vAl w lo hi cs x) :
    ∃ A1 c1 A2 c2, cs = [.slice A1 x.feats.length c1, .slice A2 x.lets.length c2] ∧ AlIn w lo hi A1 A2 x := by
  obtain ⟨s0, s1, rfl, ⟨A1, c1, e1, h1, h2, h3⟩, ⟨A2, c2, e2, h4, h5, h6⟩⟩ := h
  simp only [List.cons.injEq, and_true] at e1 e2
  unfold maxLen at h2 h5
  exact ⟨A1, c1, A2, c2, by rw [e1, e2], h3, h6, by omega, by omega⟩
end Go.Proofs.YtfjccjjdgbkbiaaDoor
namespace Go.Proofs.YtfjccjjdgbkbiaaDoor.wordOrder
open Go.ChangeShapes Go.WideShapes Go.ChangeAt Go.RowKit
set_option linter.unusedVariables false

set_option maxRecDepth 100000 in
theorem contract (H : Type) (enc : TypeId × Value → H) (W : World) (base : Nat) (args : Array Value) (ds gs : List (DataW H)) (before : List MemPlace)
    (hval : ∀ (j : Nat) t v, Tryd.f7.params[j]? = some t → args[j]? = some v → Value.okWide Tryd.prog W .any base t v)
    (hW : DataW.Whole enc Tryd.prog Tryd.f7.params.toList Rows.wordOrderSpec.vars false W args.toList ds gs before) (hL : laidMetH Tryd.prog utf8List W) :
    Calls Tryd.prog 7 args W fun e W' => ∃ v, e = .returned v ∧ Rows.wordOrderSpec.post enc Tryd.prog Tryd.f7 false true false false W args v W' := by
  have hW' := hW
  have hfr := free_of_whole hW
  obtain ⟨p, q, hA0, hV, rfl, hfz, hnd⟩ := hW
  have hA : DataW.TrodAll enc Tryd.prog W 0 (fun _ => true) true Tryd.f7.params.toList args.toList ds p := hA0
  rw [Tryd.params7] at hA hval
  obtain ⟨v0, vs0, d0, ds0, p0, q0, hargs, rfl, rfl, h0, r0⟩ := trodAll_cons hA
  obtain ⟨v1, vs1, d1, ds1, p1, q1, rfl, rfl, rfl, h1, r1⟩ := trodAll_cons r0
  obtain ⟨v2, vs2, d2, ds2, p2, q2, rfl, rfl, rfl, h2, r2⟩ := trodAll_cons r1
  obtain ⟨v3, vs3, d3, ds3, p3, q3, rfl, rfl, rfl, h3, r3⟩ := trodAll_cons r2
  obtain ⟨v4, vs4, d4, ds4, p4, q4, rfl, rfl, rfl, h4, r4⟩ := trodAll_cons r3
  obtain ⟨rfl, rfl, rfl⟩ := trodAll_nil r4
  obtain rfl : args = #[v0, v1, v2, v3, v4] := by cases args; simp_all
  obtain ⟨rfl, rfl⟩ := trodVars_none hV
  obtain ⟨cs0, a, rfl, hva, _, _⟩ := (opens_Al (enc := enc) (w := W)).struct_arg Tryd.underlying25 (hval 0 25 v0 rfl rfl) h0 hfr.left.left
  obtain ⟨A1a, c1a, A2a, c2a, hcs0, ha⟩ := al_cells hva
  obtain rfl : cs0 = #[.slice A1a a.feats.length c1a, .slice A2a a.lets.length c2a] := by cases cs0; simp_all
  obtain ⟨x, rfl, hx, _, _⟩ := Opens.str_arg Tryd.underlying9 (hval 1 9 v1 rfl rfl) h1
  obtain ⟨y, rfl, hy, _, _⟩ := Opens.str_arg Tryd.underlying9 (hval 2 9 v2 rfl rfl) h2
  obtain ⟨z, rfl, hz, _, _⟩ := Opens.str_arg Tryd.underlying9 (hval 3 9 v3 rfl rfl) h3
  have ho4 : Opens enc Tryd.prog W 22 (tSl 16 tStr) := opens_slice (enc := enc) (w := W) Tryd.underlying22 (by kernel_rfl) (by kernel_rfl) (by decide) (opens_str Tryd.underlying9 (by kernel_rfl))
  obtain ⟨Al, cl, l, rfl, hlcl, hcml, hl, _, _⟩ := ho4.slice_arg Tryd.underlying22 (hval 4 22 v4 rfl rfl) h4 hfr.left.right.right.right.right.left
  refine (order_walk A1a A2a Al c1a c2a cl a x y z l W ha (tabs_laid hL) hx hy hz hl (by unfold maxLen at hcml; omega)).mono fun e W' ⟨he, hb⟩ => ?_
  subst he
  exact ⟨_, rfl, post_true laidOut (by rw [Tryd.params7]; intro t ht; simp only [List.mem_cons, List.not_mem_nil, or_false] at ht; rcases ht with rfl | rfl | rfl | rfl | rfl <;> exact ⟨by kernel_rfl, of_decide_eq_true (by kernel_rfl)⟩) (by kernel_rfl) Tryd.underlying4 rfl ⟨rfl, rfl, rfl⟩ hW' hb⟩

theorem reads (os : Os) {H : Type} (enc : TypeId × Value → H) : ∃ places, DataW.whole enc Tryd.prog ((laidWorld os).forCall (fun _ _ => 0) ⟨#[], #[.agg #[.slice none 0 0, .slice none 0 0], .string ⟨#[]⟩, .string ⟨#[]⟩, .string ⟨#[]⟩, .slice none 0 0], []⟩).memory Tryd.f7.params.toList Rows.wordOrderSpec.vars false #[Value.agg #[.slice none 0 0, .slice none 0 0], .string ⟨#[]⟩, .string ⟨#[]⟩, .string ⟨#[]⟩, .slice none 0 0].toList 8 = some ([.agg [.nil, .nil], .lit (.string []), .lit (.string []), .lit (.string []), .nil], [], places) :=
  ⟨[], by kernel_rfl⟩

set_option maxRecDepth 100000 in
theorem lifted (os : Os) (started : os.Started) (H : Type) (enc : TypeId × Value → H) (F : Stop.Interp) :
    ReturnsInHanded {} Tryd.checked os 7 .any ((OpenSpec.ofChange Rows.wordOrderSpec).preRow enc Tryd.prog Tryd.f7 Rows.wordOrderRow.domain false Rows.wordOrderRow.laid) (((OpenSpec.ofChange Rows.wordOrderSpec).at F).post enc Tryd.prog Tryd.f7 false true false false) := by
  obtain ⟨places, hx⟩ := reads os enc
  refine returnsInHanded_of_row (C := Tryd.checked) (s := OpenSpec.ofChange Rows.wordOrderSpec) own started (by kernel_rfl) Tryd.func7
    (witness_row_at (enc := enc) (C := Tryd.checked) false (laidWorld os) #[.agg #[.slice none 0 0, .slice none 0 0], .string ⟨#[]⟩, .string ⟨#[]⟩, .string ⟨#[]⟩, .slice none 0 0] rfl (by kernel_rfl) (by kernel_rfl) (by kernel_rfl)
      (OpenSpec.preRow_of_cond 8 hx (by kernel_rfl) (fun k hk => by cases hk) (by kernel_rfl) (laid_met os _))) ?_
  intro W base args ds gs before hval hW _ _ _ hL _ _
  exact contract H enc W base args ds gs before hval hW hL

theorem said : Rows.WordOrderSaid :=
  OpenClaim.holds_of_cond 7 Tryd.f7 rfl rfl rfl rfl rfl rfl rfl ⟨rfl, rfl, rfl, rfl, rfl⟩ rfl rfl rfl rfl rfl (by kernel_rfl) Tryd.func7 (by kernel_rfl)
    (of_decide_eq_true (by kernel_rfl)) (by unfold Func.isWrapper; first | (rw [if_pos (by decide +kernel)]; kernel_rfl) | (rw [if_neg (by decide +kernel)]; exact ⟨rfl, rfl⟩))
    (fun os started H enc _ F => by rw [OpenClaim.pre_eq_preRow]; exact lifted os started H enc F)

/-- No parameter wants a stand-in; the program's own looks are off. -/
theorem plain (f : FuncId) (fn : Func) (hf : Tryd.pinned.checked.prog.funcNamed "cognate/cognatelaw03.WordOrder" = some f) (hfn : Tryd.pinned.checked.prog.funcs[f]? = some fn) :
    false = Tryd.pinned.checked.prog.looks [] ∧ ∀ (j : Nat) t, fn.params[j]? = some t → Tryd.pinned.checked.prog.wantsStandIn t = false := by
  obtain rfl : f = 7 := Option.some.inj ((show Tryd.prog.funcNamed "cognate/cognatelaw03.WordOrder" = some 7 by kernel_rfl).symm.trans hf) |>.symm
  obtain rfl : fn = Tryd.f7 := (Option.some.inj (Tryd.func7.symm.trans hfn)).symm
  refine ⟨by kernel_rfl, fun j t ht => ?_⟩
  rw [Tryd.params7] at ht
  have hm := Array.mem_of_getElem? ht
  simp only [List.mem_toArray, List.mem_cons, List.not_mem_nil, or_false] at hm
  rcases hm with rfl | rfl | rfl | rfl | rfl
  · exact (show Tryd.prog.wantsStandIn 25 = false by kernel_rfl)
  · exact (show Tryd.prog.wantsStandIn 9 = false by kernel_rfl)
  · exact (show Tryd.prog.wantsStandIn 9 = false by kernel_rfl)
  · exact (show Tryd.prog.wantsStandIn 9 = false by kernel_rfl)
  · exact (show Tryd.prog.wantsStandIn 22 = false by kernel_rfl)

theorem proved : Rows.WordOrderCardSaid :=
  Claim7.holds_tied_plain_at .later [] _ _ _ _ said (fun _ h => by cases h) (by kernel_rfl) (fun _ h => by cases h) wordOrder_row_tie rfl ⟨rfl, rfl⟩ (by kernel_rfl) rfl plain (by kernel_rfl)
#print axioms proved
end Go.Proofs.YtfjccjjdgbkbiaaDoor.wordOrder
