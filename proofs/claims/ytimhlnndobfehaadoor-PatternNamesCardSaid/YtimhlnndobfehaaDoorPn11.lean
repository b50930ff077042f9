/- The examples of chapter 4: the law's walk. -/
import Derived.Test.YtimhlnndobfehaaDoorPn09
import Derived.Test.YtimhlnndobfehaaDoorPn10
namespace Go.Proofs.YtimhlnndobfehaaDoor
open Go.RowKit
open Go.Lib (Utf8Tabs)
set_option linter.unusedVariables false

/-- A text of the examples, read at the chapter's letters. -/
theorem names_parse {s : ByteArray} {ns : List Nd} (hp : parseS lettA s = (ns, 0, 0)) (hs : s.size ≤ maxLen) {W wx : World} {b : Nat} (hT : Utf8Tabs 0 1 W) (hb : Below W.heap.size W wx) (hal : AlIn wx 0 wx.heap.size (some ⟨b, 0, none⟩) (some ⟨b + 1, 0, none⟩) lettA) {n : Nat} (hn : ns.length = n) :
    Calls Tryd.prog 13 #[.agg #[.slice (some ⟨b, 0, none⟩) 3 3, .slice (some ⟨b + 1, 0, none⟩) 5 5], .string s] wx fun e w' => ∃ A c, e = .returned (.tuple #[.agg #[.slice A n c], .int .i64 0, .int .i64 0]) ∧ Sl 5 vNd w' 0 w'.heap.size A ns ∧ ns.length ≤ c ∧ c ≤ maxLen ∧ Below wx.heap.size wx w' := by
  refine (pparse_any (some ⟨b, 0, none⟩) (some ⟨b + 1, 0, none⟩) 3 5 lettA s wx hal (Utf8Tabs_below hT hb) hs).mono ?_
  rintro e w' ⟨v, rfl, hr⟩
  rw [hp] at hr ⊢
  obtain ⟨A, c, rfl, h1, h2, h3, h4⟩ := held_res hr
  rw [hn]
  exact ⟨A, c, rfl, h1, by rw [← hn]; exact h2, h3, h4⟩
def ex0 : List Nd := [⟨9, 0, 0, 0, [1]⟩, ⟨7, 0, 0, 0, [2, 3, 6]⟩, ⟨2, 97, 0, 0, []⟩, ⟨6, 0, 0, 0, [4, 5]⟩, ⟨2, 112, 0, 0, []⟩, ⟨2, 98, 0, 0, []⟩, ⟨1, 0, 0, 0, []⟩]
def ex1 : List Nd := [⟨6, 0, 0, 0, []⟩]
def ex2 : List Nd := [⟨7, 0, 0, 0, []⟩]
def ex3 : List Nd := [⟨9, 0, 0, 0, [1]⟩, ⟨8, 0, 0, 0, [2]⟩, ⟨2, 97, 0, 0, []⟩]
def ex4 : List Nd := [⟨3, 0, 0, 0, []⟩]
def pairN : List Nd := [⟨6, 0, 0, 0, [2, 1]⟩, ⟨2, 98, 0, 0, []⟩, ⟨2, 97, 0, 0, []⟩]
def twoStars : List Nd := [⟨8, 0, 0, 0, [1, 2]⟩, ⟨4, 0, 0, 0, []⟩, ⟨4, 0, 0, 0, []⟩]
theorem pm_1 : madeE [twoStars] = 40 := by kernel_rfl
theorem pm_2 : madeN 8 [twoStars] = [] := by kernel_rfl
theorem pm_3 : sameB abN pairN = true := by kernel_rfl
theorem pm_4 : sameB [leafN 2 97 0 0] [leafN 2 98 0 0] = false := by kernel_rfl
theorem pm_5 : sameB [] [] = false := by kernel_rfl
/-- A row of a node with two kids, and two leaves. -/
theorem three_nodes {w : World} {g h : Nat} {k r1 r2 k1 k2 i j : Int} (hi : Row w h 3 [.int .i64 i, .int .i64 j])
    (hr : Row w g 44 [.int .u8 k, .int .i32 0, .int .u32 0, .int .u32 0, .slice (some ⟨h, 0, none⟩) 2 2, .int .u8 k1, .int .i32 r1, .int .u32 0, .int .u32 0, .slice none 0 0, .int .u8 k2, .int .i32 r2, .int .u32 0, .int .u32 0, .slice none 0 0])
    (hok : kinNd ⟨k, 0, 0, 0, [i, j]⟩ ∧ kinNd ⟨k1, r1, 0, 0, []⟩ ∧ kinNd ⟨k2, r2, 0, 0, []⟩) : Sl 5 vNd w 0 w.heap.size (some ⟨g, 0, none⟩) [⟨k, 0, 0, 0, [i, j]⟩, ⟨k1, r1, 0, 0, []⟩, ⟨k2, r2, 0, 0, []⟩] := by
  refine row_nodes (es := [(⟨k, 0, 0, 0, [i, j]⟩, .slice (some ⟨h, 0, none⟩) 2 2), (⟨k1, r1, 0, 0, []⟩, .slice none 0 0), (⟨k2, r2, 0, 0, []⟩, .slice none 0 0)]) hr (Nat.zero_le _) hr.lt fun n x u hu => ?_
  match n, hu with
  | 0, hu =>
    obtain ⟨rfl, rfl⟩ := Prod.mk.inj (Option.some.inj hu)
    exact ⟨hok.1, _, _, rfl, by simp, by decide, ints_row (l := [i, j]) hi (Nat.zero_le _) hi.lt (fun x hx => hok.1.2.2.2.2 x hx)⟩
  | 1, hu =>
    obtain ⟨rfl, rfl⟩ := Prod.mk.inj (Option.some.inj hu)
    exact ⟨hok.2.1, _, _, rfl, by simp, by decide, Sl.nil _⟩
  | 2, hu =>
    obtain ⟨rfl, rfl⟩ := Prod.mk.inj (Option.some.inj hu)
    exact ⟨hok.2.2, _, _, rfl, by simp, by decide, Sl.nil _⟩
theorem names_wrong {s : ByteArray} {q : Nat} {i : Int} (h : parseS lettA s = ([], q, 40)) (hi : i = (q : Int)) (hs : s.size ≤ maxLen) {W wx : World} (hT : Utf8Tabs 0 1 W) (hb : Below W.heap.size W wx) :
    Calls Tryd.prog 17 #[.string s, .int .i64 i] wx fun e w' => e = .returned (.bool true) ∧ Below wx.heap.size wx w' := by
  subst hi
  exact wrong_any s q wx (Utf8Tabs_below hT hb) hs h
theorem names_rune {r : Int} {wx : World} (hk : kin .i32 r) : Calls Tryd.prog 19 #[.int .i32 r] wx fun e w' => ∃ A c, e = .returned (.agg #[.slice A 1 c]) ∧ Sl 5 vNd w' 0 w'.heap.size A [leafN 2 r 0 0] ∧ 1 ≤ c ∧ c ≤ maxLen ∧ Below wx.heap.size wx w' := by
  refine (rune_any _ _ hk).mono ?_
  rintro e w' ⟨v, rfl, hr⟩
  exact match held_res hr with | ⟨A, c, h0, h1, h2, h3, h4⟩ => ⟨A, c, by rw [h0]; rfl, h1, h2, h3, h4⟩
theorem names_seq {w : World} {g : Nat} {A B : Option Addr} {c d : Nat} (hr : Row w g 28 [.slice A 1 c, .slice B 1 d]) (hc : 1 ≤ c) (hc2 : c ≤ maxLen) (hd : 1 ≤ d) (hd2 : d ≤ maxLen) (h1 : Sl 5 vNd w 0 w.heap.size A [leafN 2 97 0 0]) (h2 : Sl 5 vNd w 0 w.heap.size B [leafN 2 98 0 0]) :
    Calls Tryd.prog 18 #[.slice (some ⟨g, 0, none⟩) 2 2] w fun e w' => ∃ A c, e = .returned (.tuple #[.agg #[.slice A 3 c], .int .i64 0]) ∧ Sl 5 vNd w' 0 w'.heap.size A abN ∧ 3 ≤ c ∧ c ≤ maxLen ∧ Below w.heap.size w w' := by
  refine (ab_seq hr hc hc2 hd hd2 h1 h2).mono ?_
  rintro e w' ⟨v, rfl, hr⟩
  exact match held_res hr with | ⟨A, c, h0, h1, h2, h3, h4⟩ => ⟨A, c, by rw [h0]; rfl, h1, h2, h3, h4⟩
theorem names_star {w : World} {g : Nat} (hs : Sl 5 vNd w 0 w.heap.size (some ⟨g, 0, none⟩) twoStars) : Calls Tryd.prog 20 #[.agg #[.slice (some ⟨g, 0, none⟩) 3 3]] w fun e w' => ∃ A c, e = .returned (.tuple #[.agg #[.slice A 0 c], .int .i64 40]) ∧ Sl 5 vNd w' 0 w'.heap.size A [] ∧ 0 ≤ c ∧ c ≤ maxLen ∧ Below w.heap.size w w' := by
  have h := star_any (some ⟨g, 0, none⟩) 3 0 w.heap.size twoStars w (by decide) (by decide) (Nat.zero_le _) (Nat.le_refl _) hs
  rw [pm_1, pm_2] at h
  refine h.mono ?_
  rintro e w' ⟨v, rfl, hr⟩
  exact match held_res hr with | ⟨A, c, h0, h1, h2, h3, h4⟩ => ⟨A, c, by rw [h0]; rfl, h1, h2, h3, h4⟩
theorem names_same {w : World} {A B : Option Addr} {ps qs : List Nd} {n m c d : Nat} {r : Bool} (hr : sameB ps qs = r) (hn : ps.length = n) (hm : qs.length = m) (h1 : Sl 5 vNd w 0 w.heap.size A ps) (h2 : Sl 5 vNd w 0 w.heap.size B qs) (hn' : n ≤ 1000) (hm' : m ≤ 1000) :
    Calls Tryd.prog 14 #[.agg #[.slice A n c], .agg #[.slice B m d]] w fun e w' => e = .returned (.bool r) ∧ Below w.heap.size w w' := by
  subst hr hn hm
  exact same_any A B c d 0 w.heap.size 0 w.heap.size ps qs w (by omega) (by omega) (Nat.le_refl _) (Nat.le_refl _) h1 h2
theorem names_check {w : World} {A : Option Addr} {c : Nat} (h : Sl 5 vNd w 0 w.heap.size A pairN) : Calls Tryd.prog 15 #[.agg #[.slice none 0 0, .slice none 0 0], .agg #[.slice A 3 c]] w fun e w' => e = .returned (.int .i64 7) ∧ Below w.heap.size w w' := by
  have h := pcheck_any none none A 0 0 c 0 ⟨[], []⟩ pairN w ⟨Sl.nil _, Sl.nil _, by simp, by simp⟩ h (by decide)
  rw [show patE ⟨[], []⟩ pairN = 7 from pn_c] at h
  exact h
set_option maxHeartbeats 16000000 in
set_option maxRecDepth 100000 in
theorem pnames_walk (w : World) (hT : Utf8Tabs 0 1 w) : Calls Tryd.prog 4 #[] w fun e w' => e = .returned (.bool true) ∧ Below w.heap.size w w' := by
  have HS0 : Hid (HdSt w [] w) := ⟨fun x hx => (by cases hx), Below.refl _ _⟩
  have HT := Lib.hid hT
  clear hT
  go_enter Tryd.func4, Tryd.ntmps4
  go_wp2_with fail
  refine (plett_any w).mono ?_
  rintro e l0 ⟨b0, rfl, hal0, hbl0⟩
  have HL0 := Lib.hid (HS0.out.on hbl0)
  have HC0 := Lib.hid (names_parse (ns := ex0) pn_3 (by decide) HT.out HL0.out.below hal0 (n := 7) rfl)
  clear hal0 hbl0 HS0
  go_wp2_with fail
  refine HC0.out.mono ?_
  rintro e p0 ⟨A0, c0, rfl, hs0, hc0, hm0, hb0⟩
  have HP0 := Lib.hid (HL0.out.on hb0)
  obtain ⟨x0, o0, ha0, hx0, hn0⟩ := nd_cells hs0 (by decide)
  obtain ⟨B1, d1, _, _, _, k14, hk1⟩ := hn0 1 (by decide)
  obtain ⟨bk, ok, hbk, _, hbkl, ⟨kz2, _⟩, _⟩ := ints_at hk1 (i := 2) (by decide)
  subst ha0 hbk
  obtain ⟨v0, hv0⟩ : ∃ v, v = p0.alloc (.cells #[.slice (some ⟨x0, o0, none⟩) 7 c0] 28) := ⟨_, rfl⟩
  obtain ⟨g0, hg0⟩ : ∃ g, g = p0.heap.size := ⟨_, rfl⟩
  have HV0 : Hid (HdSt w [(g0, some ⟨x0, o0, none⟩, c0, ex0)] v0) := by
    have h := HP0.out.push hs0 hc0 hm0
    rw [hv0, hg0]
    exact h
  have n14 : p0.cell? ⟨x0, o0 + 5 + 4, none⟩ = some (.slice (some ⟨bk, ok, none⟩) 3 d1) := k14
  have nz2 : p0.cell? ⟨bk, ok + 2, none⟩ = some (.int .i64 6) := kz2
  have n00 : p0.cell? ⟨x0, o0, none⟩ = some (.int .u8 9) := (hn0 0 (by decide)).choose_spec.choose_spec.1
  have n30 : p0.cell? ⟨x0, o0 + 15, none⟩ = some (.int .u8 6) := (hn0 3 (by decide)).choose_spec.choose_spec.1
  have n60 : p0.cell? ⟨x0, o0 + 30, none⟩ = some (.int .u8 1) := (hn0 6 (by decide)).choose_spec.choose_spec.1
  clear hn0 k14 kz2 hk1 hs0 hb0 HL0 HC0 HP0
  go_wp2_with fail
  rw [← hv0, ← hg0]
  refine (plett_any v0).mono ?_
  rintro e l1 ⟨b1, rfl, hal1, hbl1⟩
  have HL1 := Lib.hid (HV0.out.on hbl1)
  have HC1 := Lib.hid (names_parse (ns := ex1) pn_4 (by decide) HT.out HL1.out.below hal1 (n := 1) rfl)
  clear hal1 hbl1 HV0 hv0 hg0
  clear n14 nz2 n00 n30 n60
  go_wp2_with fail
  refine HC1.out.mono ?_
  rintro e p1 ⟨A1, c1, rfl, hs1, hc1, hm1, hb1⟩
  have HP1 := Lib.hid (HL1.out.on hb1)
  obtain ⟨x1, o1, ha1, hx1, hn1⟩ := nd_cells hs1 (by decide)
  subst ha1
  obtain ⟨v1, hv1⟩ : ∃ v, v = p1.alloc (.cells #[.slice (some ⟨x1, o1, none⟩) 1 c1] 28) := ⟨_, rfl⟩
  obtain ⟨g1, hg1⟩ : ∃ g, g = p1.heap.size := ⟨_, rfl⟩
  have HV1 : Hid (HdSt w [(g1, some ⟨x1, o1, none⟩, c1, ex1), (g0, some ⟨x0, o0, none⟩, c0, ex0)] v1) := by
    have h := HP1.out.push hs1 hc1 hm1
    rw [hv1, hg1]
    exact h
  clear hn1 hs1 hb1 HL1 HC1 HP1
  go_wp2_with fail
  rw [← hv1, ← hg1]
  refine (plett_any v1).mono ?_
  rintro e l2 ⟨b2, rfl, hal2, hbl2⟩
  have HL2 := Lib.hid (HV1.out.on hbl2)
  have HC2 := Lib.hid (names_parse (ns := ex2) pn_5 (by decide) HT.out HL2.out.below hal2 (n := 1) rfl)
  clear hal2 hbl2 HV1 hv1 hg1
  go_wp2_with fail
  refine HC2.out.mono ?_
  rintro e p2 ⟨A2, c2, rfl, hs2, hc2, hm2, hb2⟩
  have HP2 := Lib.hid (HL2.out.on hb2)
  obtain ⟨x2, o2, ha2, hx2, hn2⟩ := nd_cells hs2 (by decide)
  subst ha2
  obtain ⟨v2, hv2⟩ : ∃ v, v = p2.alloc (.cells #[.slice (some ⟨x2, o2, none⟩) 1 c2] 28) := ⟨_, rfl⟩
  obtain ⟨g2, hg2⟩ : ∃ g, g = p2.heap.size := ⟨_, rfl⟩
  have HV2 : Hid (HdSt w [(g2, some ⟨x2, o2, none⟩, c2, ex2), (g1, some ⟨x1, o1, none⟩, c1, ex1), (g0, some ⟨x0, o0, none⟩, c0, ex0)] v2) := by
    have h := HP2.out.push hs2 hc2 hm2
    rw [hv2, hg2]
    exact h
  clear hn2 hs2 hb2 HL2 HC2 HP2
  go_wp2_with fail
  rw [← hv2, ← hg2]
  refine (plett_any v2).mono ?_
  rintro e l3 ⟨b3, rfl, hal3, hbl3⟩
  have HL3 := Lib.hid (HV2.out.on hbl3)
  have HC3 := Lib.hid (names_parse (ns := ex3) pn_6 (by decide) HT.out HL3.out.below hal3 (n := 3) rfl)
  clear hal3 hbl3 HV2 hv2 hg2
  go_wp2_with fail
  refine HC3.out.mono ?_
  rintro e p3 ⟨A3, c3, rfl, hs3, hc3, hm3, hb3⟩
  have HP3 := Lib.hid (HL3.out.on hb3)
  obtain ⟨x3, o3, ha3, hx3, hn3⟩ := nd_cells hs3 (by decide)
  subst ha3
  obtain ⟨v3, hv3⟩ : ∃ v, v = p3.alloc (.cells #[.slice (some ⟨x3, o3, none⟩) 3 c3] 28) := ⟨_, rfl⟩
  obtain ⟨g3, hg3⟩ : ∃ g, g = p3.heap.size := ⟨_, rfl⟩
  have HV3 : Hid (HdSt w [(g3, some ⟨x3, o3, none⟩, c3, ex3), (g2, some ⟨x2, o2, none⟩, c2, ex2), (g1, some ⟨x1, o1, none⟩, c1, ex1), (g0, some ⟨x0, o0, none⟩, c0, ex0)] v3) := by
    have h := HP3.out.push hs3 hc3 hm3
    rw [hv3, hg3]
    exact h
  clear hn3 hs3 hb3 HL3 HC3 HP3
  go_wp2_with fail
  rw [← hv3, ← hg3]
  refine (plett_any v3).mono ?_
  rintro e l4 ⟨b4, rfl, hal4, hbl4⟩
  have HL4 := Lib.hid (HV3.out.on hbl4)
  have HC4 := Lib.hid (names_parse (ns := ex4) pn_7 (by decide) HT.out HL4.out.below hal4 (n := 1) rfl)
  clear hal4 hbl4 HV3 hv3 hg3
  go_wp2_with fail
  refine HC4.out.mono ?_
  rintro e p4 ⟨A4, c4, rfl, hs4, hc4, hm4, hb4⟩
  have HP4 := Lib.hid (HL4.out.on hb4)
  obtain ⟨x4, o4, ha4, hx4, hn4⟩ := nd_cells hs4 (by decide)
  subst ha4
  obtain ⟨v4, hv4⟩ : ∃ v, v = p4.alloc (.cells #[.slice (some ⟨x4, o4, none⟩) 1 c4] 28) := ⟨_, rfl⟩
  obtain ⟨g4, hg4⟩ : ∃ g, g = p4.heap.size := ⟨_, rfl⟩
  have HV4 : Hid (HdSt w [(g4, some ⟨x4, o4, none⟩, c4, ex4), (g3, some ⟨x3, o3, none⟩, c3, ex3), (g2, some ⟨x2, o2, none⟩, c2, ex2), (g1, some ⟨x1, o1, none⟩, c1, ex1), (g0, some ⟨x0, o0, none⟩, c0, ex0)] v4) := by
    have h := HP4.out.push hs4 hc4 hm4
    rw [hv4, hg4]
    exact h
  clear hn4
  have hd1 := HP4.out.at_ (g := g1) (A := some ⟨x1, o1, none⟩) (c := c1) (ns := ex1) (by simp)
  have q1 : p4.cell? ⟨g1, 0, none⟩ = some (.slice (some ⟨x1, o1, none⟩) 1 c1) := hd1.cell
  have ql1 := hd1.lt
  obtain ⟨x1', o1', ha1, hx1, hn1⟩ := nd_cells hd1.sl (by decide)
  injection ha1 with ha1
  injection ha1 with e1 e2
  subst e1 e2
  have m10 : p4.cell? ⟨x1, o1, none⟩ = some (.int .u8 6) := (hn1 0 (by decide)).choose_spec.choose_spec.1
  clear hn1 hd1
  have hd2 := HP4.out.at_ (g := g2) (A := some ⟨x2, o2, none⟩) (c := c2) (ns := ex2) (by simp)
  have q2 : p4.cell? ⟨g2, 0, none⟩ = some (.slice (some ⟨x2, o2, none⟩) 1 c2) := hd2.cell
  have ql2 := hd2.lt
  obtain ⟨x2', o2', ha2, hx2, hn2⟩ := nd_cells hd2.sl (by decide)
  injection ha2 with ha2
  injection ha2 with e1 e2
  subst e1 e2
  have m20 : p4.cell? ⟨x2, o2, none⟩ = some (.int .u8 7) := (hn2 0 (by decide)).choose_spec.choose_spec.1
  clear hn2 hd2
  have hd3 := HP4.out.at_ (g := g3) (A := some ⟨x3, o3, none⟩) (c := c3) (ns := ex3) (by simp)
  have q3 : p4.cell? ⟨g3, 0, none⟩ = some (.slice (some ⟨x3, o3, none⟩) 3 c3) := hd3.cell
  have ql3 := hd3.lt
  obtain ⟨x3', o3', ha3, hx3, hn3⟩ := nd_cells hd3.sl (by decide)
  injection ha3 with ha3
  injection ha3 with e1 e2
  subst e1 e2
  have m30 : p4.cell? ⟨x3, o3, none⟩ = some (.int .u8 9) := (hn3 0 (by decide)).choose_spec.choose_spec.1
  have m31 : p4.cell? ⟨x3, o3 + 5, none⟩ = some (.int .u8 8) := (hn3 1 (by decide)).choose_spec.choose_spec.1
  clear hn3 hd3
  obtain ⟨x4', o4', ha4, hx4, hn4⟩ := nd_cells hs4 (by decide)
  injection ha4 with ha4
  injection ha4 with e1 e2
  subst e1 e2
  have m40 : p4.cell? ⟨x4, o4, none⟩ = some (.int .u8 3) := (hn4 0 (by decide)).choose_spec.choose_spec.1
  clear hn4
  clear hs4 hb4 HL4 HC4 HP4
  go_wp2_with fail
  rw [← hv4, ← hg4]
  clear hv4 hg4 hx4
  refine (names_wrong pn_w1 (by rfl) (by decide) HT.out HV4.out.below).mono ?_
  rintro e u0 ⟨rfl, hu0⟩
  have HW0 := Lib.hid (HV4.out.on hu0)
  clear hu0 HV4
  clear q1 q2 q3 ql1 ql2 ql3 m10 m20 m30 m31 m40
  go_wp2_with fail
  refine (names_wrong pn_w2 (by rfl) (by decide) HT.out HW0.out.below).mono ?_
  rintro e u1 ⟨rfl, hu1⟩
  have HW1 := Lib.hid (HW0.out.on hu1)
  clear hu1 HW0
  go_wp2_with fail
  refine (names_wrong pn_w3 (by rfl) (by decide) HT.out HW1.out.below).mono ?_
  rintro e u2 ⟨rfl, hu2⟩
  have HW2 := Lib.hid (HW1.out.on hu2)
  clear hu2 HW1
  go_wp2_with fail
  refine (names_wrong pn_w4 (by rfl) (by decide) HT.out HW2.out.below).mono ?_
  rintro e u3 ⟨rfl, hu3⟩
  have HW3 := Lib.hid (HW2.out.on hu3)
  clear hu3 HW2
  go_wp2_with fail
  refine (names_wrong pn_w5 (by rfl) (by decide) HT.out HW3.out.below).mono ?_
  rintro e u4 ⟨rfl, hu4⟩
  have HW4 := Lib.hid (HW3.out.on hu4)
  clear hu4 HW3
  go_wp2_with fail
  refine (names_wrong pn_w6 (by rfl) (by decide) HT.out HW4.out.below).mono ?_
  rintro e u5 ⟨rfl, hu5⟩
  have HW5 := Lib.hid (HW4.out.on hu5)
  clear hu5 HW4
  go_wp2_with fail
  refine (names_wrong pn_w7 (by rfl) (by decide) HT.out HW5.out.below).mono ?_
  rintro e u6 ⟨rfl, hu6⟩
  have HW6 := Lib.hid (HW5.out.on hu6)
  clear hu6 HW5
  obtain ⟨U1, hU1⟩ : ∃ U, U = u6.alloc (.cells #[.int .i64 2, .int .i64 1] 3) := ⟨_, rfl⟩
  obtain ⟨U2, hU2⟩ : ∃ U, U = U1.alloc (.cells #[.int .u8 6, .int .i32 0, .int .u32 0, .int .u32 0, .slice (some ⟨u6.heap.size, 0, none⟩) 2 2, .int .u8 2, .int .i32 98, .int .u32 0, .int .u32 0, .slice none 0 0, .int .u8 2, .int .i32 97, .int .u32 0, .int .u32 0, .slice none 0 0] 44) := ⟨_, rfl⟩
  have r1 : Row U2 u6.heap.size 3 [.int .i64 2, .int .i64 1] := by rw [hU2, hU1]; exact (Row.new u6 _ _).alloc _
  have z1 : U1.heap.size = u6.heap.size + 1 := by rw [hU1]; simp
  have r2 : Row U2 (u6.heap.size + 1) 44 [.int .u8 6, .int .i32 0, .int .u32 0, .int .u32 0, .slice (some ⟨u6.heap.size, 0, none⟩) 2 2, .int .u8 2, .int .i32 98, .int .u32 0, .int .u32 0, .slice none 0 0, .int .u8 2, .int .i32 97, .int .u32 0, .int .u32 0, .slice none 0 0] := by rw [hU2, ← z1]; exact Row.new U1 _ _
  have s2 := three_nodes r1 r2 ⟨kinNd_of (by decide), kinNd_of (by decide), kinNd_of (by decide)⟩
  have b2 : Below u6.heap.size u6 U2 := by rw [hU2, hU1]; exact ((Below.refl _ _).alloc (Nat.le_refl _) _).alloc (by simp) _
  have z2 : U2.heap.size = u6.heap.size + 1 + 1 := by rw [hU2, World.size_alloc, z1]
  have h3 := ((HW6.out.on b2).push (A := some ⟨u6.heap.size + 1, 0, none⟩) (c := 3) (ns := pairN) s2 (by decide) (by decide))
  rw [z2] at h3
  obtain ⟨U3, hU3⟩ : ∃ U, U = U2.alloc (.cells #[.slice (some ⟨u6.heap.size + 1, 0, none⟩) 3 3] 28) := ⟨_, rfl⟩
  have HU3 := Lib.hid (show HdSt w ((u6.heap.size + 1 + 1, some ⟨u6.heap.size + 1, 0, none⟩, 3, pairN) :: [(g4, some ⟨x4, o4, none⟩, c4, ex4), (g3, some ⟨x3, o3, none⟩, c3, ex3), (g2, some ⟨x2, o2, none⟩, c2, ex2), (g1, some ⟨x1, o1, none⟩, c1, ex1), (g0, some ⟨x0, o0, none⟩, c0, ex0)]) U3 by rw [hU3]; exact h3)
  rw [hU2, hU1] at hU3
  clear r1 z1 r2 s2 b2 z2 h3 hU2 hU1 HW6
  go_wp2_with fail
  rw [← hU3]
  generalize u6.heap.size = h6 at *
  clear hU3
  refine (names_rune (by simp [kin, Lit.wf, IntKind.min, IntKind.max, IntKind.signed, IntKind.bits])).mono ?_
  rintro e y1 ⟨B1', k1, rfl, t1, t2, t3, t4⟩
  have HY1 := Lib.hid (HU3.out.on t4)
  have T1 := Lib.hid t1
  clear t1 t4 HU3
  go_wp2_with fail
  refine (names_rune (by simp [kin, Lit.wf, IntKind.min, IntKind.max, IntKind.signed, IntKind.bits])).mono ?_
  rintro e y2 ⟨B2', k2, rfl, s1, s2, s3, s4⟩
  obtain ⟨y3, hy3⟩ : ∃ y, y = y2.alloc (.cells #[.slice B1' 1 k1, .slice B2' 1 k2] 28) := ⟨_, rfl⟩
  have c3 : Below y2.heap.size y2 y3 := by rw [hy3]; exact (Below.refl _ _).alloc (Nat.le_refl _) _
  have r3 : Row y3 y2.heap.size 28 [.slice B1' 1 k1, .slice B2' 1 k2] := by rw [hy3]; exact Row.new _ _ _
  have HY3 := Lib.hid ((HY1.out.on s4).on c3)
  have HSE := Lib.hid (names_seq r3 t2 t3 s2 s3 ((T1.out.below vNd_good (s4.trans (c3.mono s4.size)) (Nat.le_refl _)).wide vNd_good (Nat.le_refl _) (s4.trans (c3.mono s4.size)).size) ((s1.below vNd_good c3 (Nat.le_refl _)).wide vNd_good (Nat.le_refl _) c3.size))
  clear c3 r3 s1 s4 T1 HY1
  go_wp2_with fail
  rw [← hy3]
  clear hy3
  refine HSE.out.mono ?_
  rintro e y4 ⟨B4, k4, rfl, a1, a2, a3, a4⟩
  obtain ⟨y5, hy5⟩ : ∃ y, y = y4.alloc (.cells #[.slice B4 3 k4] 28) := ⟨_, rfl⟩
  obtain ⟨h5, hh5⟩ : ∃ y, y = y4.heap.size := ⟨_, rfl⟩
  have HY5 := Lib.hid (show HdSt w ((h5, B4, k4, abN) :: (h6 + 1 + 1, some ⟨h6 + 1, 0, none⟩, 3, pairN) :: [(g4, some ⟨x4, o4, none⟩, c4, ex4), (g3, some ⟨x3, o3, none⟩, c3, ex3), (g2, some ⟨x2, o2, none⟩, c2, ex2), (g1, some ⟨x1, o1, none⟩, c1, ex1), (g0, some ⟨x0, o0, none⟩, c0, ex0)]) y5 by rw [hy5, hh5]; exact (HY3.out.on a4).push a1 a2 a3)
  obtain ⟨Y1, hY1⟩ : ∃ U, U = y5.alloc (.cells #[.int .i64 1, .int .i64 2] 3) := ⟨_, rfl⟩
  obtain ⟨Y2, hY2⟩ : ∃ U, U = Y1.alloc (.cells #[.int .u8 8, .int .i32 0, .int .u32 0, .int .u32 0, .slice (some ⟨y5.heap.size, 0, none⟩) 2 2, .int .u8 4, .int .i32 0, .int .u32 0, .int .u32 0, .slice none 0 0, .int .u8 4, .int .i32 0, .int .u32 0, .int .u32 0, .slice none 0 0] 44) := ⟨_, rfl⟩
  have r1 : Row Y2 y5.heap.size 3 [.int .i64 1, .int .i64 2] := by rw [hY2, hY1]; exact (Row.new y5 _ _).alloc _
  have z1 : Y1.heap.size = y5.heap.size + 1 := by rw [hY1]; simp
  have r2 : Row Y2 (y5.heap.size + 1) 44 [.int .u8 8, .int .i32 0, .int .u32 0, .int .u32 0, .slice (some ⟨y5.heap.size, 0, none⟩) 2 2, .int .u8 4, .int .i32 0, .int .u32 0, .int .u32 0, .slice none 0 0, .int .u8 4, .int .i32 0, .int .u32 0, .int .u32 0, .slice none 0 0] := by rw [hY2, ← z1]; exact Row.new Y1 _ _
  have s2' := three_nodes r1 r2 ⟨kinNd_of (by decide), kinNd_of (by decide), kinNd_of (by decide)⟩
  have b2 : Below y5.heap.size y5 Y2 := by rw [hY2, hY1]; exact ((Below.refl _ _).alloc (Nat.le_refl _) _).alloc (by simp) _
  have HY2 := Lib.hid (HY5.out.on b2)
  have HST := Lib.hid (names_star s2')
  rw [hY1] at hY2
  have hz5 : y5.heap.size = h5 + 1 := by rw [hy5, hh5]; simp
  clear r1 z1 r2 s2' b2 hY1 HY5 HY3 HSE a1 a4
  rw [hy5] at hY2 hz5 HST
  rw [World.size_alloc] at hY2 HST
  clear hz5
  go_wp2_with fail
  rw [← hY2]
  refine HST.out.mono ?_
  rintro e y6 ⟨B6, k6, rfl, a1, _, a4, a5⟩
  rw [← hh5]
  obtain ⟨y7, hy7⟩ : ∃ y, y = y6.alloc (.cells #[.slice B6 0 k6] 28) := ⟨_, rfl⟩
  have b7 : Below y6.heap.size y6 y7 := by rw [hy7]; exact (Below.refl _ _).alloc (Nat.le_refl _) _
  have HY7 := Lib.hid ((HY2.out.on a5).on b7)
  clear HST HY2 hY2 hh5 hy5 a1 a5 b7
  go_wp2_with fail
  rw [← hy7]
  refine (palive_any _ (Utf8Tabs_below HT.out HY7.out.below)).mono ?_
  rintro e y8 ⟨rfl, d8⟩
  have HY8 := Lib.hid (HY7.out.on d8)
  obtain ⟨qa, qla⟩ := HY8.out.cl (g := h5) (A := B4) (c := k4) (ns := abN) (by simp)
  obtain ⟨qb, qlb⟩ := HY8.out.cl (g := h6 + 1 + 1) (A := some ⟨h6 + 1, 0, none⟩) (c := 3) (ns := pairN) (by simp)
  have qa : y8.cell? ⟨h5, 0, none⟩ = some (.slice B4 3 k4) := qa
  have qb : y8.cell? ⟨h6 + 1 + 1, 0, none⟩ = some (.slice (some ⟨h6 + 1, 0, none⟩) 3 3) := qb
  clear d8 HY7 hy7
  go_wp2_with fail
  refine (names_same pm_3 rfl rfl (HY8.out.at_ (g := h5) (A := B4) (c := k4) (ns := abN) (by simp)).sl (HY8.out.at_ (g := h6 + 1 + 1) (A := some ⟨h6 + 1, 0, none⟩) (c := 3) (ns := pairN) (by simp)).sl (by decide) (by decide)).mono ?_
  rintro e y9 ⟨rfl, d9⟩
  have HY9 := Lib.hid (HY8.out.on d9)
  clear d9 HY8 qa qb qla qlb
  go_wp2_with fail
  refine (names_rune (by simp [kin, Lit.wf, IntKind.min, IntKind.max, IntKind.signed, IntKind.bits])).mono ?_
  rintro e ya ⟨Ba, ka, rfl, t1, t2, t3, t4⟩
  have HYa := Lib.hid (HY9.out.on t4)
  have T1 := Lib.hid t1
  clear t1 t4 HY9
  go_wp2_with fail
  refine (names_rune (by simp [kin, Lit.wf, IntKind.min, IntKind.max, IntKind.signed, IntKind.bits])).mono ?_
  rintro e yb ⟨Bb, kb, rfl, s1, s2, s3, s4⟩
  have HYb := Lib.hid (HYa.out.on s4)
  have HSM := Lib.hid (names_same (c := ka) (d := kb) pm_4 rfl rfl ((T1.out.below vNd_good s4 (Nat.le_refl _)).wide vNd_good (Nat.le_refl _) s4.size) s1 (by decide) (by decide))
  clear s1 s4 HYa T1
  go_wp2_with fail
  refine HSM.out.mono ?_
  rintro e yc ⟨rfl, dc⟩
  have HYc := Lib.hid (HYb.out.on dc)
  clear dc HYb HSM
  go_wp2_with fail
  refine (names_same (A := none) (B := none) (c := 0) (d := 0) pm_5 rfl rfl (Sl.nil _) (Sl.nil _) (by decide) (by decide)).mono ?_
  rintro e yd ⟨rfl, dd⟩
  have HYd := Lib.hid (HYc.out.on dd)
  obtain ⟨qb, qlb⟩ := HYd.out.cl (g := h6 + 1 + 1) (A := some ⟨h6 + 1, 0, none⟩) (c := 3) (ns := pairN) (by simp)
  have qb : yd.cell? ⟨h6 + 1 + 1, 0, none⟩ = some (.slice (some ⟨h6 + 1, 0, none⟩) 3 3) := qb
  have HCK := Lib.hid (names_check (c := 3) (HYd.out.at_ (g := h6 + 1 + 1) (A := some ⟨h6 + 1, 0, none⟩) (c := 3) (ns := pairN) (by simp)).sl)
  clear dd HYc
  go_wp2_with fail
  refine HCK.out.mono ?_
  rintro e ye ⟨rfl, de⟩
  have HB := Lib.hid (HYd.out.on de).below
  clear de HYd HCK qb qlb
  go_wp2_with fail
  go_ret
  exact ⟨rfl, HB.out⟩
end Go.Proofs.YtimhlnndobfehaaDoor
