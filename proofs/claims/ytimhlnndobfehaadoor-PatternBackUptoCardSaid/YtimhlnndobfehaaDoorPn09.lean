/- Some answers of chapter 4 that the document fixes. Is a text refused at a place? A turned tree is a tree; it lies in the turned letters where the tree lies in the letters, counted from the other end. Plain Lean. What is turned twice is as it was; a tree's numbers are met in their order; two trees below one node. Plain Lean. A pattern in a box, through later worlds; what a call answers, put into a box; two patterns in a list. The document's Like, walked. -/
import Derived.Test.YtimhlnndobfehaaDoorPn01
import Derived.Test.YtimhlnndobfehaaDoorPn07
import Derived.Test.YtimhlnndobfehaaDoorPn08
import Derived.Deep.RegionHeld3
import Derived.Test.YtimhlnndobfehaaDoorMc08
import Derived.Test.YtimhlnndobfehaaDoorMc07
import Derived.Test.YtimhlnndobfehaaDoorPn06
import Derived.Test.YtimhlnndobfehaaDoorMc35
import Derived.Test.YtimhlnndobfehaaDoorChecked
import Derived.Deep.DeepCutAuto
import Derived.Deep.CutBlock
namespace Go.Proofs.YtimhlnndobfehaaDoor
open Go.RowKit
open Go.Lib (Utf8Tabs)
set_option linter.unusedVariables false

/-- The state: a pattern in its box. -/
structure PaSt (W : World) (g lo : Nat) (v : Value) (es : List (Nd × Value)) (w : World) : Prop where
  row : Row w g 28 [v]
  nd : Nodes w lo v es
  below : Below W.heap.size W w
theorem PaSt.on {W w w' : World} {g lo : Nat} {v : Value} {es : List (Nd × Value)} (h : PaSt W g lo v es w) (hb : Below w.heap.size w w') : PaSt W g lo v es w' :=
  ⟨h.row.below hb h.row.lt, h.nd.below hb, h.below.trans (hb.mono h.below.size)⟩
theorem PaSt.sl {W w : World} {g lo n c : Nat} {A : Option Addr} {es : List (Nd × Value)} {ns : List Nd} (h : PaSt W g lo (.slice A n c) es w) (he : es.map Prod.fst = ns) : Sl 5 vNd w 0 w.heap.size A ns := by
  obtain ⟨A', c', e, _, _, hs⟩ := h.nd.sl
  injection e with e1 e2 e3
  subst e1
  rw [he] at hs
  exact hs.wide vNd_good (Nat.zero_le _) (Nat.le_refl _)
theorem chap_text (b : Nat) (Av : Option Addr) (cv : Nat) (wx : World) (hal : AlIn wx 0 wx.heap.size (some ⟨b, 0, none⟩) (some ⟨b + 1, 0, none⟩) lettA) (hs : Sl 5 vNd wx 0 wx.heap.size Av chapN) :
    Calls Tryd.prog 12 #[.agg #[.slice (some ⟨b, 0, none⟩) 3 3, .slice (some ⟨b + 1, 0, none⟩) 5 5], .agg #[.slice Av 5 cv]] wx (StrOut (chapS, 0) wx) := by
  have h := ptext_any (some ⟨b, 0, none⟩) (some ⟨b + 1, 0, none⟩) Av 3 5 cv lettA chapN wx hal hs (by decide)
  rw [pn_2] at h
  exact h
theorem nd_sl {w : World} {lo n c : Nat} {A : Option Addr} {es : List (Nd × Value)} {ns : List Nd} (h : Nodes w lo (.slice A n c) es) (he : es.map Prod.fst = ns) : Sl 5 vNd w 0 w.heap.size A ns := by
  obtain ⟨A', c', e, _, _, hs⟩ := h.sl
  injection e with e1 e2 e3
  subst e1
  rw [he] at hs
  exact hs.wide vNd_good (Nat.zero_le _) (Nat.le_refl _)
theorem two_pats {w : World} {g : Nat} {A B : Option Addr} {c d : Nat} {x y : Nd} (hr : Row w g 28 [.slice A 1 c, .slice B 1 d]) (hc : 1 ≤ c) (hc2 : c ≤ maxLen) (hd : 1 ≤ d) (hd2 : d ≤ maxLen) (h1 : Sl 5 vNd w 0 w.heap.size A [x]) (h2 : Sl 5 vNd w 0 w.heap.size B [y]) : Sl 1 vPat w 0 w.heap.size (some ⟨g, 0, none⟩) [[x], [y]] := by
  refine Row.sl (V := vPat) hr rfl (Nat.zero_le _) hr.lt (fun i z v hx hv => ?_)
  match i, hx, hv with
  | 0, hx, hv =>
    obtain rfl := Option.some.inj hx
    obtain rfl := Option.some.inj hv
    exact ⟨A, c, rfl, hc, hc2, h1⟩
  | 1, hx, hv =>
    obtain rfl := Option.some.inj hx
    obtain rfl := Option.some.inj hv
    exact ⟨B, d, rfl, hd, hd2, h2⟩
/-- All nodes of a pattern, in their cells. -/
theorem nd_cells {w : World} {A : Option Addr} {ns : List Nd} (h : Sl 5 vNd w 0 w.heap.size A ns) (h0 : 0 < ns.length) :
    ∃ b off, A = some ⟨b, off, none⟩ ∧ b < w.heap.size ∧ ∀ k (hk : k < ns.length), ∃ B c, w.cell? ⟨b, off + k * 5, none⟩ = some (.int .u8 ns[k].kind) ∧ w.cell? ⟨b, off + k * 5 + 1, none⟩ = some (.int .i32 ns[k].rune) ∧ w.cell? ⟨b, off + k * 5 + 2, none⟩ = some (.int .u32 ns[k].plus) ∧
      w.cell? ⟨b, off + k * 5 + 4, none⟩ = some (.slice B ns[k].kids.length c) ∧ Sl 1 (vInt .i64) w 0 w.heap.size B ns[k].kids := by
  obtain ⟨b, off, _, _, e, _, hb, _⟩ := nd_at h h0
  refine ⟨b, off, e, hb, fun k hk => ?_⟩
  obtain ⟨b', off', B, c, e', _, _, ⟨c0, _⟩, ⟨c1, _⟩, ⟨c2, _⟩, _, ⟨c4, _⟩, _, _, hs, _⟩ := nd_at h hk
  rw [e] at e'
  injection e' with e'
  injection e' with e1 e2
  subst e1 e2
  exact ⟨B, c, c0, c1, c2, c4, hs⟩
def abN : List Nd := [⟨6, 0, 0, 0, [1, 2]⟩, ⟨2, 97, 0, 0, []⟩, ⟨2, 98, 0, 0, []⟩]
theorem ab_e : madeE [[leafN 2 97 0 0], [leafN 2 98 0 0]] = 0 := by kernel_rfl
theorem ab_n : madeN 6 [[leafN 2 97 0 0], [leafN 2 98 0 0]] = abN := by kernel_rfl
theorem ba_e : turnedE abN = 0 := by kernel_rfl
theorem ba_n : turnedN abN = [⟨6, 0, 0, 0, [1, 2]⟩, ⟨2, 98, 0, 0, []⟩, ⟨2, 97, 0, 0, []⟩] := by kernel_rfl
theorem ab_seq {w : World} {g : Nat} {A B : Option Addr} {c d : Nat} (hr : Row w g 28 [.slice A 1 c, .slice B 1 d]) (hc : 1 ≤ c) (hc2 : c ≤ maxLen) (hd : 1 ≤ d) (hd2 : d ≤ maxLen) (h1 : Sl 5 vNd w 0 w.heap.size A [leafN 2 97 0 0]) (h2 : Sl 5 vNd w 0 w.heap.size B [leafN 2 98 0 0]) :
    Calls Tryd.prog 18 #[.slice (some ⟨g, 0, none⟩) 2 2] w fun e w' => ∃ v, e = .returned (.tuple #[v, .int .i64 0]) ∧ PatRes w w' v abN := by
  have h := seq_any (some ⟨g, 0, none⟩) 2 0 w.heap.size [[leafN 2 97 0 0], [leafN 2 98 0 0]] w (by decide) (Nat.le_refl _) (two_pats hr hc hc2 hd hd2 h1 h2)
  rw [ab_e, ab_n] at h
  exact h
set_option maxHeartbeats 4000000 in
set_option maxRecDepth 100000 in
theorem palive_any (w : World) (hT : Utf8Tabs 0 1 w) :
    Calls Tryd.prog 10 #[] w fun e w' => e = .returned (.bool true) ∧ Below w.heap.size w w' := by
  have HP := Lib.hid (fun (b : Nat) (wx : World) (hal : AlIn wx 0 wx.heap.size (some ⟨b, 0, none⟩) (some ⟨b + 1, 0, none⟩) lettA) (hb : Below w.heap.size w wx) => pparse_any (some ⟨b, 0, none⟩) (some ⟨b + 1, 0, none⟩) 3 5 lettA chapS wx hal (Utf8Tabs_below hT hb) (by decide))
  rw [pn_1] at HP
  clear hT
  go_enter Tryd.func10, Tryd.ntmps10
  go_wp2_with fail
  refine (plett_any _).mono ?_
  rintro e w1 ⟨b, rfl, hal, hb1⟩
  have HC := Lib.hid (HP.out b w1 hal hb1)
  have HB1 := Lib.hid hb1
  clear HP hal hb1
  go_wp2_with fail
  refine HC.out.mono ?_
  rintro e w2 ⟨v, rfl, u, es, rfl, hnd, hes, hb2⟩
  obtain ⟨Av, cv, rfl, _, _⟩ := own_form hnd.row
  have HB2 := Lib.hid (HB1.out.trans (hb2.mono HB1.out.size))
  have hel : es.length = 5 := by rw [← List.length_map (f := Prod.fst), hes]; rfl
  obtain ⟨w3, hw3⟩ : ∃ w3, w3 = w2.alloc (.cells #[.slice Av es.length cv] 28) := ⟨_, rfl⟩
  have hb3 : Below w2.heap.size w2 w3 := by rw [hw3]; exact (Below.refl _ _).alloc (Nat.le_refl _) _
  have HS := Lib.hid (show PaSt w w2.heap.size w1.heap.size (.slice Av es.length cv) es w3 from ⟨by rw [hw3]; exact Row.new _ _ _, hnd.below hb3, HB2.out.trans (hb3.mono HB2.out.size)⟩)
  have HES := Lib.hid hes
  obtain ⟨g, hg⟩ : ∃ g, g = w2.heap.size := ⟨_, rfl⟩
  rw [← hg] at HS
  rw [hel] at HS hw3 ⊢
  clear HC hnd hes hb2 hb3 hel
  (try simp only)
  go_upto_region 2 with (fail)
  rw [← hw3, ← hg]
  clear hw3 hg HB1 HB2
  obtain ⟨a1, _⟩ := HS.out.row.cel (i := 0) rfl
  have l1 := HS.out.row.lt
  have HD := Lib.hid (HS.out.on (below_drewN (Below.refl _ _) 1))
  go_region_held3 (fun w' => w'.cell? ⟨g, 0, none⟩ = some (.slice Av 5 cv)) (go_keep)
    ((first
      | (go_at_call 16; refine (plett_any _).mono ?_; rintro e w4 ⟨b4, rfl, hal4, hb4⟩; have HRR := Lib.hid (HD.out.on hb4); have HAL := Lib.hid hal4; have x1 := (HRR.out.row.cel (i := 0) rfl).1)
      | (go_at_call 12; refine (chap_text b4 Av cv _ HAL.out (HRR.out.sl HES.out)).mono ?_; rintro e w5 ⟨rfl, hb5⟩; have HX := Lib.hid (HRR.out.on hb5); have y1 := (HX.out.row.cel (i := 0) rfl).1)))
  clear a1 l1 x1 y1 HRR HD HS hb4 hb5 HAL hal4
  go_wp2_with fail
  refine (rune_any _ _ (by simp [kin, Lit.wf, IntKind.min, IntKind.max, IntKind.signed, IntKind.bits])).mono ?_
  rintro e w6 ⟨v6, rfl, u6, es6, rfl, hn6, he6, hb6⟩
  obtain ⟨A6, c6, rfl, hc6, hm6⟩ := own_form hn6.row
  have hl6 : es6.length = 1 := by rw [← List.length_map (f := Prod.fst), he6]; rfl
  rw [hl6] at hn6 hc6 ⊢
  have HX6 := Lib.hid (HX.out.on hb6)
  have HN6 := Lib.hid hn6
  have HE6 := Lib.hid he6
  clear hn6 he6 hb6 HX hl6
  (try simp only)
  go_wp2_with fail
  refine (rune_any _ _ (by simp [kin, Lit.wf, IntKind.min, IntKind.max, IntKind.signed, IntKind.bits])).mono ?_
  rintro e w7 ⟨v7, rfl, u7, es7, rfl, hn7, he7, hb7⟩
  obtain ⟨A7, c7, rfl, hc7, hm7⟩ := own_form hn7.row
  have hl7 : es7.length = 1 := by rw [← List.length_map (f := Prod.fst), he7]; rfl
  rw [hl7] at hn7 hc7 ⊢
  have HX7 := Lib.hid (HX6.out.on hb7)
  have HN6' := Lib.hid (HN6.out.below hb7)
  have HN7 := Lib.hid hn7
  have HE7 := Lib.hid he7
  clear hn7 he7 hb7 HX6 HN6 hl7
  (try simp only)
  go_wp2_with fail
  obtain ⟨w8, hw8⟩ : ∃ w8, w8 = w7.alloc (.cells #[.slice A6 1 c6, .slice A7 1 c7] 28) := ⟨_, rfl⟩
  have hb8 : Below w7.heap.size w7 w8 := by rw [hw8]; exact (Below.refl _ _).alloc (Nat.le_refl _) _
  have hr8 : Row w8 w7.heap.size 28 [.slice A6 1 c6, .slice A7 1 c7] := by rw [hw8]; exact Row.new _ _ _
  have hq := ab_seq hr8 hc6 hm6 hc7 hm7 (nd_sl (HN6'.out.below hb8) HE6.out) (nd_sl (HN7.out.below hb8) HE7.out)
  have HX8 := Lib.hid (HX7.out.on hb8)
  rw [← hw8]
  refine hq.mono ?_
  rintro e w9 ⟨v9, rfl, u9, es9, rfl, hn9, he9, hb9⟩
  obtain ⟨A9, c9, rfl, _, _⟩ := own_form hn9.row
  have hl9 : es9.length = 3 := by rw [← List.length_map (f := Prod.fst), he9]; rfl
  rw [hl9] at hn9 ⊢
  have HX9 := Lib.hid (HX8.out.on hb9)
  have HN9 := Lib.hid hn9
  have HE9 := Lib.hid he9
  clear hn9 he9 hb9 HX7 HX8 HN6' HN7 hl9 hq hr8 hb8 hw8
  (try simp only)
  go_wp2_with fail
  obtain ⟨wa, hwa⟩ : ∃ wa, wa = w9.alloc (.cells #[.slice A9 3 c9] 28) := ⟨_, rfl⟩
  have hba : Below w9.heap.size w9 wa := by rw [hwa]; exact (Below.refl _ _).alloc (Nat.le_refl _) _
  have hq : Calls Tryd.prog 21 #[.agg #[.slice A9 3 c9]] wa fun e w' => ∃ v, e = .returned (.tuple #[v, .int .i64 0]) ∧ PatRes wa w' v [⟨6, 0, 0, 0, [1, 2]⟩, ⟨2, 98, 0, 0, []⟩, ⟨2, 97, 0, 0, []⟩] := by
    have h := pturned_any (A := A9) (c := c9) (ns := abN) (lo := 0) (hi := wa.heap.size) (w := wa) (by decide) (Nat.le_refl _) (nd_sl (HN9.out.below hba) HE9.out)
    rw [ba_e, ba_n] at h
    exact h
  have HXa := Lib.hid (HX9.out.on hba)
  rw [← hwa]
  refine hq.mono ?_
  rintro e wb ⟨vb, rfl, ub, esb, rfl, hnb, heb, hbb⟩
  obtain ⟨Ab, cb, rfl, _, _⟩ := own_form hnb.row
  have HXb := Lib.hid (HXa.out.on hbb)
  obtain ⟨a1, _⟩ := HXb.out.row.cel (i := 0) rfl
  have l1 := HXb.out.row.lt
  have hlb : esb.length = 3 := by rw [← List.length_map (f := Prod.fst), heb]; rfl
  rw [hlb] at hnb ⊢
  obtain ⟨bx, ox, hax, hbx, hnx⟩ := nd_cells (HXb.out.sl HES.out) (by decide)
  obtain ⟨by_, oy, hay, hby, hny⟩ := nd_cells (nd_sl hnb heb) (by decide)
  obtain ⟨B0, d0, u1, u2, u3, x04, hk0⟩ := hnx 0 (by decide)
  obtain ⟨_, _, u4, u5, x12, u6, u7⟩ := hnx 1 (by decide)
  obtain ⟨_, _, x20, u8, u9, v1, v2⟩ := hnx 2 (by decide)
  obtain ⟨_, _, v3, x31, v4, v5, v6⟩ := hnx 3 (by decide)
  obtain ⟨_, _, v7, y11, v8, v9, u0⟩ := hny 1 (by decide)
  obtain ⟨bk, ok, hbk, _, hbkl, ⟨z2, _⟩, _⟩ := ints_at hk0 (i := 2) (by decide)
  subst hax hay hbk
  have HB := Lib.hid HXb.out.below
  have k04 : wb.cell? ⟨bx, ox + 4, none⟩ = some (.slice (some ⟨bk, ok, none⟩) 3 d0) := by simpa [chapN] using x04
  have k12 : wb.cell? ⟨bx, ox + 5 + 2, none⟩ = some (.int .u32 1) := by simpa [chapN] using x12
  have k20 : wb.cell? ⟨bx, ox + 10, none⟩ = some (.int .u8 8) := by simpa [chapN] using x20
  have k31 : wb.cell? ⟨bx, ox + 15 + 1, none⟩ = some (.int .i32 97) := by simpa [chapN] using x31
  have k11 : wb.cell? ⟨by_, oy + 5 + 1, none⟩ = some (.int .i32 98) := by simpa using y11
  have kz2 : wb.cell? ⟨bk, ok + 2, none⟩ = some (.int .i64 4) := by simpa [chapN] using z2
  have hcs : chapS.toList = [40, 91, 43, 118, 111, 105, 99, 101, 100, 93, 97, 42, 35, 41] := by kernel_rfl
  clear u1 u2 u3 x04 u4 u5 x12 u6 u7 x20 u8 u9 v1 v2 v3 x31 v4 v5 v6 v7 y11 v8 v9 u0 z2
  clear hnx hny hk0 HXb HXa HX9 HN9 hba hwa hq hnb heb HE9
  go_wp2_with fail
  go_ret
  exact ⟨rfl, HB.out.alloc HB.out.size _⟩
end Go.Proofs.YtimhlnndobfehaaDoor
namespace Go.Proofs.YtimhlnndobfehaaDoor
open Go.RowKit
open Go.Lib (Utf8Tabs)
set_option linter.unusedVariables false

set_option maxHeartbeats 2000000 in
set_option maxRecDepth 100000 in
theorem wrong_any (s : ByteArray) (q : Nat) (w : World) (hT : Utf8Tabs 0 1 w) (hs : s.size ≤ maxLen) (h : parseS lettA s = ([], q, 40)) :
    Calls Tryd.prog 17 #[.string s, .int .i64 (q : Int)] w fun e w' => e = .returned (.bool true) ∧ Below w.heap.size w w' := by
  have HP := Lib.hid (fun (b : Nat) (wx : World) (hal : AlIn wx 0 wx.heap.size (some ⟨b, 0, none⟩) (some ⟨b + 1, 0, none⟩) lettA) (hb : Below w.heap.size w wx) => pparse_any (some ⟨b, 0, none⟩) (some ⟨b + 1, 0, none⟩) 3 5 lettA s wx hal (Utf8Tabs_below hT hb) hs)
  rw [h] at HP
  clear h hT hs
  go_enter Tryd.func17, Tryd.ntmps17
  go_wp2_with fail
  refine (plett_any _).mono ?_
  rintro e w1 ⟨b, rfl, hal, hb1⟩
  have HC := Lib.hid (HP.out b w1 hal hb1)
  have HB1 := Lib.hid hb1
  clear HP hal hb1
  go_wp2_with fail
  refine HC.out.mono ?_
  rintro e w2 ⟨v, rfl, u, es, rfl, hnd, hes, hb2⟩
  have hel : es.length = 0 := by rw [← List.length_map (f := Prod.fst), hes]; rfl
  obtain ⟨Av, cv, rfl, _, _⟩ := own_form hnd.row
  rw [hel]
  have HB2 := Lib.hid (HB1.out.trans (hb2.mono HB1.out.size))
  have HS2 := Lib.hid HB2.out.size
  clear HC hnd hes hb2 hel
  (try simp only)
  go_wp2_with fail
  go_ret
  exact ⟨rfl, HB2.out.alloc HS2.out _⟩
end Go.Proofs.YtimhlnndobfehaaDoor
namespace Go.Proofs.YtimhlnndobfehaaDoor
set_option linter.unusedVariables false

theorem inr_append {n : Int} : ∀ {l m : List Nd} {i : Int}, InR n i l → InR n (i + l.length) m → InR n i (l ++ m)
  | [], m, i, _, h => by simpa using h
  | x :: l, m, i, h, k => ⟨h.1, inr_append h.2 (by rw [show i + 1 + (l.length : Int) = i + ((x :: l).length : Nat) by simp; omega]; exact k)⟩
theorem range_split (b p q : Nat) : (List.range' b (p + q)) = List.range' b p ++ List.range' (b + p) q := by
  rw [List.range'_append_1]
/-- What is known of the nodes of a subtree, numbered from b on. -/
structure SubOk (n b : Nat) (l : List Nd) : Prop where
  pos : 1 ≤ l.length
  perm : ((b : Int) :: allKids l).Perm ((List.range' b l.length).map fun j : Nat => (j : Int))
  inr : b + l.length ≤ n → InR n b l
structure SubsOk (n b : Nat) (cs : List Int) (l : List Nd) : Prop where
  perm : (cs ++ allKids l).Perm ((List.range' b l.length).map fun j : Nat => (j : Int))
  inr : b + l.length ≤ n → InR n b l
theorem allKids_append (l m : List Nd) : allKids (l ++ m) = allKids l ++ allKids m := by unfold allKids; simp
theorem subs_ok {n : Nat} {g : Nat → Nat → List Nd} : ∀ (l : List Int) (b : Nat), (∀ k ∈ l, ∀ b, SubOk n b (g b k.toNat)) → SubsOk n b (subs g b l).2 (subs g b l).1
  | [], b, _ => ⟨by simp [subs, allKids], fun _ => trivial⟩
  | k :: r, b, h => by
    have h1 := h k (by simp) b
    have h2 := subs_ok r (b + (g b k.toNat).length) fun k hk => h k (by simp [hk])
    simp only [subs]
    refine ⟨?_, fun hb => ?_⟩
    · rw [allKids_append, List.length_append, range_split, List.map_append]
      refine List.Perm.trans ?_ (h1.perm.append h2.perm)
      rw [List.cons_append, List.cons_append]
      refine List.Perm.cons _ ?_
      rw [← List.append_assoc, ← List.append_assoc]
      exact List.perm_append_comm.append_right _
    · rw [List.length_append] at hb
      exact inr_append (h1.inr (by omega)) (by
        have := h2.inr (by omega)
        rwa [Int.natCast_add] at this)
theorem sub_ok {ns : List Nd} {n : Nat} (hr : InR ns.length 0 ns) (tn : Bool) : ∀ (f b i : Nat), i < ns.length → ns.length - i ≤ f → SubOk n b (sub ns tn f b i)
  | 0, _, i, hi, hf => by omega
  | f + 1, b, i, hi, hf => by
    have hk := subs_ok (n := n) (g := sub ns tn f) (kidsT tn (ns.getD i nd0)) (b + 1) fun k hk b => by
      have := inr_at i hr hi k ((kidsT_mem _ _ _).1 hk)
      exact sub_ok hr tn f b k.toNat (by omega) (by omega)
    have hm : ∀ c ∈ (subs (sub ns tn f) (b + 1) (kidsT tn (ns.getD i nd0))).2, (b : Int) < c ∧ c < b + 1 + (subs (sub ns tn f) (b + 1) (kidsT tn (ns.getD i nd0))).1.length := fun c hc => by
      have := hk.perm.subset (List.mem_append_left _ hc)
      obtain ⟨j, hj, rfl⟩ := List.mem_map.1 this
      simp only [List.mem_range'_1] at hj
      omega
    unfold sub
    refine ⟨by simp, ?_, fun hb => ⟨fun c hc => ?_, ?_⟩⟩
    · rw [List.length_cons, List.range'_succ, List.map_cons]
      exact List.Perm.cons _ hk.perm
    · have := hm c hc
      simp only [List.length_cons] at hb
      omega
    · simp only [List.length_cons] at hb
      have := hk.inr (by omega)
      rwa [Int.natCast_add] at this
theorem nodeOk_kids {x : Nd} {l : List Int} (h : l.length = x.kids.length) : nodeOk { x with kids := l } = nodeOk x := by
  unfold nodeOk
  simp only [h]
theorem subs_nodes {g : Nat → Nat → List Nd} : ∀ (l : List Int) (b : Nat), (∀ k ∈ l, ∀ b, ∀ x ∈ g b k.toNat, nodeOk x = true) → ∀ x ∈ (subs g b l).1, nodeOk x = true
  | [], b, _, x, hx => by simp [subs] at hx
  | k :: r, b, h, x, hx => by
    simp only [subs] at hx
    rcases List.mem_append.1 hx with hx | hx
    · exact h k (by simp) b x hx
    · exact subs_nodes r _ (fun k hk => h k (by simp [hk])) x hx
theorem sub_nodes {ns : List Nd} (hr : InR ns.length 0 ns) (ho : ∀ x ∈ ns, nodeOk x = true) (tn : Bool) : ∀ (f b i : Nat), i < ns.length → ∀ x ∈ sub ns tn f b i, nodeOk x = true
  | 0, _, _, _, x, hx => by simp [sub] at hx
  | f + 1, b, i, hi, x, hx => by
    unfold sub at hx
    rcases List.mem_cons.1 hx with rfl | hx
    · rw [nodeOk_kids (by rw [subs_num, kidsT_length])]
      refine ho _ ?_
      rw [List.getD_eq_getElem?_getD, List.getElem?_eq_getElem hi]
      exact List.getElem_mem hi
    · exact subs_nodes _ _ (fun k hk b x hx => by
        have := inr_at i hr hi k ((kidsT_mem _ _ _).1 hk)
        exact sub_nodes hr ho tn f b k.toNat (by omega) x hx) x hx
theorem sub_tree {ns : List Nd} (h : IsTree ns) (tn : Bool) : IsTree (sub ns tn ns.length 0 0) ∧ (sub ns tn ns.length 0 0).length = ns.length := by
  have hpos := h.pos
  have hl : (sub ns tn ns.length 0 0).length = ns.length := by rw [sub_length, tree_size h]
  have hs := sub_ok (n := ns.length) h.inr tn ns.length 0 0 (by omega) (by omega)
  refine ⟨⟨by omega, by have := h.max; omega, sub_nodes h.inr h.ok tn _ _ _ (by omega), ?_, fun j h1 h2 => ?_⟩, hl⟩
  · rw [hl]
    exact hs.inr (by omega)
  · have hp := hs.perm.count_eq (j : Int)
    rw [List.count_cons] at hp
    have h0 : ((((0 : Nat) : Int) == (j : Int)) = true) = False := by simp; omega
    rw [if_neg (by rw [h0]; exact id)] at hp
    have hnd : ((List.range' 0 (sub ns tn ns.length 0 0).length).map fun j : Nat => (j : Int)).Nodup :=
      List.pairwise_map.2 (List.Pairwise.imp (fun {a b} hne e => hne (by omega)) (show (List.range' 0 (sub ns tn ns.length 0 0).length).Nodup from List.nodup_range' 1))
    have hm : (j : Int) ∈ (List.range' 0 (sub ns tn ns.length 0 0).length).map fun j : Nat => (j : Int) := List.mem_map.2 ⟨j, by simp only [List.mem_range'_1]; omega, rfl⟩
    have h3 := List.nodup_iff_count.1 hnd (j : Int)
    have h4 := List.count_pos_iff.2 hm
    omega

/-- The nodes l stand in Q from b on. -/
def AtQ (Q : List Nd) (b : Nat) (l : List Nd) : Prop := ∀ j x, l[j]? = some x → Q[b + j]? = some x
theorem AtQ.left {Q : List Nd} {b : Nat} {l m : List Nd} (h : AtQ Q b (l ++ m)) : AtQ Q b l := fun j x hx => h j x (by rw [List.getElem?_append_left (List.getElem?_eq_some_iff.1 hx).1]; exact hx)
theorem AtQ.right {Q : List Nd} {b : Nat} {l m : List Nd} (h : AtQ Q b (l ++ m)) : AtQ Q (b + l.length) m := fun j x hx => by
  rw [Nat.add_assoc]
  exact h (l.length + j) x (by rw [List.getElem?_append_right (by omega), Nat.add_sub_cancel_left]; exact hx)
/-- A pair of kids' lists: each of the first stands for the one of the second. -/
inductive Pairs (R : Int → Int → Prop) : List Int → List Int → Prop
  | nil : Pairs R [] []
  | cons {c k : Int} {cs ks : List Int} : R c k → Pairs R cs ks → Pairs R (c :: cs) (k :: ks)
theorem subs_pairs {Q : List Nd} {g : Nat → Nat → List Nd} : ∀ (l : List Int) (b : Nat), AtQ Q b (subs g b l).1 → Pairs (fun c k => AtQ Q c.toNat (g c.toNat k.toNat)) (subs g b l).2 l
  | [], _, _ => .nil
  | k :: r, b, h => by
    simp only [subs] at h ⊢
    exact .cons h.left (subs_pairs r _ h.right)
theorem Pairs.imp {R S : Int → Int → Prop} : ∀ {cs ks : List Int}, Pairs R cs ks → (∀ c k, k ∈ ks → R c k → S c k) → Pairs S cs ks
  | _, _, .nil, _ => .nil
  | _, _, .cons h t, hi => .cons (hi _ _ (by simp) h) (t.imp fun c k hk => hi c k (by simp [hk]))
theorem SeqR.snoc {R : Nat → Nat → Nat → Prop} : ∀ {l : List Int} {k : Int} {i j : Nat}, SeqR R (l ++ [k]) i j ↔ ∃ m, SeqR R l i m ∧ R k.toNat m j
  | [], k, i, j => by
    simp only [List.nil_append, SeqR]
    constructor
    · rintro ⟨m, h, rfl⟩; exact ⟨i, rfl, h⟩
    · rintro ⟨m, rfl, h⟩; exact ⟨j, h, rfl⟩
  | c :: r, k, i, j => by
    simp only [List.cons_append, SeqR, SeqR.snoc]
    constructor
    · rintro ⟨m, h, p, h1, h2⟩; exact ⟨p, ⟨m, h, h1⟩, h2⟩
    · rintro ⟨p, ⟨m, h, h1⟩, h2⟩; exact ⟨m, h, p, h1, h2⟩
theorem seq_flip {n : Nat} {R' R : Nat → Nat → Nat → Prop} (hx' : ∀ c i j, i ≤ n → R' c i j → j ≤ n) (hx : ∀ c i j, i ≤ n → R c i j → j ≤ n) :
    ∀ {cs ks : List Int}, Pairs (fun c k => ∀ p q, p ≤ n → q ≤ n → (R' c.toNat p q ↔ R k.toNat (n - q) (n - p))) cs ks → ∀ p q, p ≤ n → q ≤ n → (SeqR R' cs p q ↔ SeqR R ks.reverse (n - q) (n - p))
  | _, _, .nil, p, q, hp, hq => by simp only [SeqR, List.reverse_nil]; omega
  | _, _, .cons (c := c) (k := k) h t, p, q, hp, hq => by
    rw [List.reverse_cons, SeqR.snoc]
    constructor
    · rintro ⟨m, h1, h2⟩
      have hm := hx' _ _ _ hp h1
      exact ⟨n - m, (seq_flip hx' hx t m q hm hq).1 h2, (h p m hp hm).1 h1⟩
    · rintro ⟨m, h1, h2⟩
      have hm : m ≤ n := SeqR.max (hx) (by omega) h1
      have e : n - (n - m) = m := by omega
      exact ⟨n - m, (h p (n - m) hp (by omega)).2 (by rw [e]; exact h2), (seq_flip hx' hx t (n - m) q (by omega) hq).2 (by rw [e]; exact h1)⟩
theorem star_head {R : Nat → Nat → Prop} {i m j : Nat} (h : R i m) (s : Star R m j) : Star R i j := by
  induction s with
  | refl => exact .tail (.refl _) h
  | tail _ h2 ih => exact .tail ih h2
theorem star_flip {n : Nat} {R' R : Nat → Nat → Prop} (hx' : ∀ i j, i ≤ n → R' i j → j ≤ n) (h : ∀ p q, p ≤ n → q ≤ n → R' p q → R (n - q) (n - p)) {p q : Nat} (hp : p ≤ n) (s : Star R' p q) : Star R (n - q) (n - p) := by
  induction s with
  | refl => exact .refl _
  | tail s1 h2 ih =>
    have hm := Star.max hx' hp s1
    exact star_head (h _ _ hm (hx' _ _ hm h2) h2) ih
theorem head_pair {R : Int → Int → Prop} {cs ks : List Int} (h : Pairs R cs ks) : (cs.head? = none ∧ ks.head? = none) ∨ ∃ c k, cs.head? = some c ∧ ks.head? = some k ∧ R c k := by
  cases h with
  | nil => exact .inl ⟨rfl, rfl⟩
  | cons h _ => exact .inr ⟨_, _, rfl, rfl, h⟩
theorem mem_pair {R : Int → Int → Prop} : ∀ {cs ks : List Int}, Pairs R cs ks → (∀ c ∈ cs, ∃ k ∈ ks, R c k) ∧ (∀ k ∈ ks, ∃ c ∈ cs, R c k)
  | _, _, .nil => ⟨by simp, by simp⟩
  | _, _, .cons (c := c) (k := k) h t => by
    obtain ⟨h1, h2⟩ := mem_pair t
    refine ⟨fun x hx => ?_, fun x hx => ?_⟩
    · rcases List.mem_cons.1 hx with rfl | hx
      · exact ⟨k, by simp, h⟩
      · obtain ⟨y, hy, h3⟩ := h1 x hx; exact ⟨y, by simp [hy], h3⟩
    · rcases List.mem_cons.1 hx with rfl | hx
      · exact ⟨c, by simp, h⟩
      · obtain ⟨y, hy, h3⟩ := h2 x hx; exact ⟨y, by simp [hy], h3⟩
theorem turned_rel {ns Q : List Nd} {L : List Lt} (hk : Kids ns) : ∀ (f b i : Nat), i < ns.length → AtQ Q b (sub ns true f b i) → ∀ p q, p ≤ L.length → q ≤ L.length → (Rel Q L.reverse f b p q ↔ Rel ns L f i (L.length - q) (L.length - p))
  | 0, _, _, _, _, _, _, _, _ => Iff.rfl
  | f + 1, b, i, hi, hQ, p, q, hp, hq => by
    have hxi : ns[i]? = some ns[i] := List.getElem?_eq_getElem hi
    have hg : ns.getD i nd0 = ns[i] := by rw [List.getD_eq_getElem?_getD, hxi]; rfl
    unfold sub at hQ
    rw [hg] at hQ
    have hkx := hk i _ hxi
    generalize ns[i] = x at *
    have h0 := hQ 0 _ rfl
    rw [Nat.add_zero] at h0
    have hs : AtQ Q (b + 1) (subs (sub ns true f) (b + 1) (kidsT true x)).1 := fun j y hy => by
      rw [Nat.add_assoc, Nat.add_comm 1 j]
      exact hQ (j + 1) y hy
    have hpr := (subs_pairs _ _ hs).imp (S := fun c k => ∀ p q, p ≤ L.length → q ≤ L.length → (Rel Q L.reverse f c.toNat p q ↔ Rel ns L f k.toNat (L.length - q) (L.length - p))) fun c k hkm hc => by
      have := hkx k ((kidsT_mem _ _ _).1 hkm)
      exact turned_rel hk f c.toNat k.toNat (by omega) hc
    generalize (subs (sub ns true f) (b + 1) (kidsT true x)).2 = cs at *
    clear hs hQ
    have hx' : ∀ c i j, i ≤ L.length → Rel Q L.reverse f c i j → j ≤ L.length := fun c i j h1 h2 => by
      have := rel_max Q L.reverse f c i j (by rw [List.length_reverse]; exact h1) h2
      rwa [List.length_reverse] at this
    have hx := rel_max ns L f
    unfold Rel
    rw [h0, hxi]
    simp only
    unfold Body
    by_cases k1 : x.kind = 1
    · simp only [k1, if_true]; omega
    simp only [if_neg k1]
    by_cases k5 : x.kind = 5
    · simp only [k5, if_true, List.length_reverse]; omega
    simp only [if_neg k5]
    by_cases k6 : x.kind = 6
    · simp only [k6, if_true]
      have e : kidsT true x = x.kids.reverse := by unfold kidsT; rw [if_pos ⟨rfl, k6⟩]
      rw [e] at hpr
      have := seq_flip hx' hx hpr p q hp hq
      rwa [List.reverse_reverse] at this
    simp only [if_neg k6]
    have e : kidsT true x = x.kids := by unfold kidsT; rw [if_neg (fun h => k6 h.2)]
    rw [e] at hpr
    by_cases k7 : x.kind = 7
    · simp only [k7, if_true]
      obtain ⟨h1, h2⟩ := mem_pair hpr
      constructor
      · rintro ⟨c, hc, h⟩
        obtain ⟨k, hkm, hck⟩ := h1 c hc
        exact ⟨k, hkm, (hck p q hp hq).1 h⟩
      · rintro ⟨k, hkm, h⟩
        obtain ⟨c, hc, hck⟩ := h2 k hkm
        exact ⟨c, hc, (hck p q hp hq).2 h⟩
    simp only [if_neg k7]
    by_cases k9 : x.kind = 9
    · simp only [k9, if_true]
      refine or_congr (by omega) ?_
      rcases head_pair hpr with ⟨h1, h2⟩ | ⟨c, k, h1, h2, h3⟩
      · simp [h1, h2]
      · simp only [h1, h2, Option.some.injEq, exists_eq_left']
        exact h3 p q hp hq
    simp only [if_neg k9]
    by_cases k8 : x.kind = 8
    · simp only [k8, if_true]
      refine or_congr (by omega) ?_
      rcases head_pair hpr with ⟨h1, h2⟩ | ⟨c, k, h1, h2, h3⟩
      · simp [h1, h2]
      · simp only [h1, h2, Option.some.injEq, exists_eq_left']
        refine ⟨star_flip (hx' _) (fun u v hu hv => (h3 u v hu hv).1) hp, fun h => ?_⟩
        have := star_flip (n := L.length) (R' := Rel ns L f k.toNat) (R := Rel Q L.reverse f c.toNat) (hx _) (fun u v hu hv h => by
          refine (h3 _ _ (by omega) (by omega)).2 ?_
          rw [show L.length - (L.length - u) = u by omega, show L.length - (L.length - v) = v by omega]
          exact h) (by omega) h
        rwa [show L.length - (L.length - p) = p by omega, show L.length - (L.length - q) = q by omega] at this
    simp only [if_neg k8]
    have ht : ∀ l, takesB { x with kids := cs } l = takesB x l := fun l => rfl
    constructor
    · rintro ⟨rfl, l, hl, h⟩
      refine ⟨by omega, l, ?_, h⟩
      rw [List.getElem?_reverse (by omega)] at hl
      rw [← hl]
      congr 1
      omega
    · rintro ⟨h1, l, hl, h⟩
      have hlt := (List.getElem?_eq_some_iff.1 hl).1
      refine ⟨by omega, l, ?_, h⟩
      rw [List.getElem?_reverse (by omega), ← hl]
      congr 1
      omega
/-- The turned pattern in the turned letters. -/
theorem turned_lies {ns : List Nd} {L : List Lt} (h : IsTree ns) {i j : Nat} (hi : i ≤ L.length) (hj : j ≤ L.length) : Lies (sub ns true ns.length 0 0) L.reverse 0 (L.length - j) (L.length - i) ↔ Lies ns L 0 i j := by
  unfold Lies
  rw [(sub_tree h true).2, turned_rel h.kids ns.length 0 0 h.pos (fun k x hx => by rw [Nat.zero_add]; exact hx) _ _ (by omega) (by omega)]
  rw [show L.length - (L.length - i) = i by omega, show L.length - (L.length - j) = j by omega]
end Go.Proofs.YtimhlnndobfehaaDoor
namespace Go.Proofs.YtimhlnndobfehaaDoor
set_option linter.unusedVariables false

theorem Pairs.snoc {R : Int → Int → Prop} : ∀ {cs ks : List Int} {c k : Int}, Pairs R cs ks → R c k → Pairs R (cs ++ [c]) (ks ++ [k])
  | _, _, _, _, .nil, h => .cons h .nil
  | _, _, _, _, .cons h1 t, h => .cons h1 (Pairs.snoc t h)
theorem Pairs.rev {R : Int → Int → Prop} : ∀ {cs ks : List Int}, Pairs R cs ks → Pairs R cs.reverse ks.reverse
  | _, _, .nil => .nil
  | _, _, .cons h t => by
    rw [List.reverse_cons, List.reverse_cons]
    exact Pairs.snoc (Pairs.rev t) h
theorem subs_subs {g h : Nat → Nat → List Nd} : ∀ {cs ks : List Int}, Pairs (fun c k => ∀ b, g b c.toNat = h b k.toNat) cs ks → ∀ b, subs g b cs = subs h b ks
  | _, _, .nil, _ => rfl
  | _, _, .cons e t, b => by
    simp only [subs]
    rw [e b, subs_subs t]
theorem kidsT_xor (tn tm : Bool) (x : Nd) : (if tm = true ∧ x.kind = 6 then (kidsT tn x).reverse else kidsT tn x) = kidsT (tn != tm) x := by
  unfold kidsT
  by_cases h6 : x.kind = 6
  · cases tn <;> cases tm <;> simp [h6]
  · cases tn <;> cases tm <;> simp [h6]
/-- A numbered tree, numbered anew. -/
theorem sub_sub {ns Q : List Nd} (hr : InR ns.length 0 ns) (tn tm : Bool) : ∀ (f g b i : Nat), i < ns.length → ns.length - i ≤ f → f ≤ g → AtQ Q b (sub ns tn f b i) → ∀ base, sub Q tm g base b = sub ns (tn != tm) f base i
  | 0, _, _, _, hi, hf, _, _, _ => by omega
  | f + 1, 0, _, _, _, _, hg, _, _ => by omega
  | f + 1, g + 1, b, i, hi, hf, hg, hQ, base => by
    unfold sub at hQ
    have h0 := hQ 0 _ rfl
    rw [Nat.add_zero] at h0
    have hs : AtQ Q (b + 1) (subs (sub ns tn f) (b + 1) (kidsT tn (ns.getD i nd0))).1 := fun j y hy => by
      rw [Nat.add_assoc, Nat.add_comm 1 j]
      exact hQ (j + 1) y hy
    have hpr := (subs_pairs _ _ hs).imp (S := fun c k => ∀ base, sub Q tm g base c.toNat = sub ns (tn != tm) f base k.toNat) fun c k hkm hc => by
      have := inr_at i hr hi k ((kidsT_mem _ _ _).1 hkm)
      exact sub_sub hr tn tm f g c.toNat k.toNat (by omega) (by omega) (by omega) hc
    have hk : Pairs (fun c k => ∀ base, sub Q tm g base c.toNat = sub ns (tn != tm) f base k.toNat) (kidsT tm { ns.getD i nd0 with kids := (subs (sub ns tn f) (b + 1) (kidsT tn (ns.getD i nd0))).2 }) (kidsT (tn != tm) (ns.getD i nd0)) := by
      rw [← kidsT_xor]
      unfold kidsT at hpr ⊢
      simp only at hpr ⊢
      split
      · exact hpr.rev
      · exact hpr
    unfold sub
    rw [List.getD_eq_getElem?_getD (l := Q), h0, Option.getD_some, subs_subs hk]
theorem atQ_self (l : List Nd) : AtQ l 0 l := fun j x hx => by rw [Nat.zero_add]; exact hx
/-- A numbered tree as a whole, numbered anew. -/
theorem sub_again {ns : List Nd} (h : IsTree ns) (tn tm : Bool) (base : Nat) : sub (sub ns tn ns.length 0 0) tm (sub ns tn ns.length 0 0).length base 0 = sub ns (tn != tm) ns.length base 0 :=
  sub_sub h.inr tn tm ns.length _ 0 0 h.pos (by omega) (by rw [(sub_tree h tn).2]; exact Nat.le_refl _) (atQ_self _) base

/-- Going through the nodes: are the numbers met in their order? -/
def numL : List Nd → Nat → List Int → Option (List Int)
  | [], _, st => some st
  | x :: r, i, st => match st with
    | [] => none
    | t :: q => if t = (i : Int) then numL r (i + 1) (x.kids ++ q) else none
theorem numL_cons (x : Nd) (r : List Nd) (i : Nat) (t : Int) (q : List Int) : numL (x :: r) i (t :: q) = if t = (i : Int) then numL r (i + 1) (x.kids ++ q) else none := rfl
def numB (ns : List Nd) : Bool := decide (numL ns 0 [0] = some [])
theorem num_subs {g : Nat → Nat → List Nd} : ∀ (l : List Int) (b : Nat) (st : List Int) (rest : List Nd), (∀ k ∈ l, ∀ (b : Nat) (st : List Int) (rest : List Nd), numL (g b k.toNat ++ rest) b ((b : Int) :: st) = numL rest (b + (g b k.toNat).length) st) → numL ((subs g b l).1 ++ rest) b ((subs g b l).2 ++ st) = numL rest (b + (subs g b l).1.length) st
  | [], b, st, rest, _ => by simp [subs]
  | k :: r, b, st, rest, h => by
    simp only [subs]
    rw [List.append_assoc, List.cons_append, h k (by simp), num_subs r _ st rest (fun k hk => h k (by simp [hk])), List.length_append, Nat.add_assoc]
theorem num_sub {ns : List Nd} (hr : InR ns.length 0 ns) (tn : Bool) : ∀ (f b i : Nat) (st : List Int) (rest : List Nd), i < ns.length → ns.length - i ≤ f → numL (sub ns tn f b i ++ rest) b ((b : Int) :: st) = numL rest (b + (sub ns tn f b i).length) st
  | 0, _, _, _, _, hi, hf => by omega
  | f + 1, b, i, st, rest, hi, hf => by
    unfold sub
    rw [List.cons_append, numL_cons, if_pos rfl]
    rw [num_subs _ (b + 1) st rest (fun k hk b st rest => by
      have := inr_at i hr hi k ((kidsT_mem _ _ _).1 hk)
      exact num_sub hr tn f b k.toNat st rest (by omega) (by omega)), List.length_cons, Nat.add_assoc, Nat.add_comm 1]
theorem num_tree {ns : List Nd} (h : IsTree ns) (tn : Bool) : numB (sub ns tn ns.length 0 0) = true := by
  unfold numB
  have := num_sub h.inr tn ns.length 0 0 [] [] h.pos (by omega)
  rw [List.append_nil] at this
  rw [show ([0] : List Int) = [((0 : Nat) : Int)] from rfl, this]
  rfl

/-- Two trees below one node. -/
def twoN (kind : Int) (p q : List Nd) : List Nd := ⟨kind, 0, 0, 0, [1, ((1 + p.length : Nat) : Int)]⟩ :: (sub p false p.length 1 0 ++ sub q false q.length (1 + p.length) 0)
theorem cat_two {p q : List Nd} (hp : IsTree p) : catSt [p, q] = ([1, ((1 + p.length : Nat) : Int)], sub p false p.length 1 0 ++ sub q false q.length (1 + p.length) 0) := by
  unfold catSt
  simp only [List.foldl_cons, List.foldl_nil, List.nil_append, List.length_nil, Nat.add_zero]
  rw [sub_length, tree_size hp]
  rfl
theorem two_made {kind : Int} {p q : List Nd} (hp : treeB p = true) (hq : treeB q = true) (h : 1 + p.length + q.length ≤ 256) : madeE [p, q] = 0 ∧ madeN kind [p, q] = twoN kind p q := by
  have hE : madeE [p, q] = 0 := madeE_ok (by simp) (by simp [hp, hq]) (by simp [sumLen]; omega)
  refine ⟨hE, ?_⟩
  rw [madeN_ok hE, cat_two ((treeB_iff p).1 hp)]
  rfl
theorem two_many {p q : List Nd} (hp : treeB p = true) (hq : treeB q = true) (h : 256 < 1 + p.length + q.length) : madeE [p, q] = 4 := madeE_sum (by simp) (by simp [hp, hq]) (by simp [sumLen]; omega)
theorem two_bad {p q : List Nd} (h : treeB p = false ∨ treeB q = false) : madeE [p, q] = 40 ∧ ∀ kind, madeN kind [p, q] = [] := by
  have hE : madeE [p, q] = 40 := by
    rcases h with h | h
    · exact madeE_tree (ls := [p, q]) (by simp) (j := 0) (by simp) h
    · exact madeE_tree (ls := [p, q]) (by simp) (j := 1) (by simp) h
  exact ⟨hE, fun kind => madeN_bad (by rw [hE]; decide)⟩
theorem two_len {kind : Int} {p q : List Nd} (hp : IsTree p) (hq : IsTree q) : (twoN kind p q).length = 1 + p.length + q.length := by
  unfold twoN
  rw [List.length_cons, List.length_append, sub_length, sub_length, tree_size hp, tree_size hq]
  omega
theorem two_tree {kind : Int} {p q : List Nd} (hp : IsTree p) (hq : IsTree q) (hk : kind = 6 ∨ kind = 7) (h : 1 + p.length + q.length ≤ 256) : IsTree (twoN kind p q) := by
  have hl := two_len (kind := kind) hp hq
  have h1 := sub_ok (n := 1 + p.length + q.length) hp.inr false p.length 1 0 hp.pos (by omega)
  have h2 := sub_ok (n := 1 + p.length + q.length) hq.inr false q.length (1 + p.length) 0 hq.pos (by omega)
  have l1 : (sub p false p.length 1 0).length = p.length := by rw [sub_length, tree_size hp]
  have l2 : (sub q false q.length (1 + p.length) 0).length = q.length := by rw [sub_length, tree_size hq]
  have hp0 := hp.pos
  have hq0 := hq.pos
  refine ⟨by omega, by omega, fun x hx => ?_, ?_, fun j j1 j2 => ?_⟩
  · unfold twoN at hx
    rcases List.mem_cons.1 hx with rfl | hx
    · unfold nodeOk
      rcases hk with rfl | rfl <;> simp
    rcases List.mem_append.1 hx with hx | hx
    · exact sub_nodes hp.inr hp.ok false _ _ _ hp.pos x hx
    · exact sub_nodes hq.inr hq.ok false _ _ _ hq.pos x hx
  · rw [hl]
    unfold twoN
    refine ⟨fun k hk => ?_, ?_⟩
    · simp only [List.mem_cons, List.not_mem_nil, or_false] at hk
      rcases hk with rfl | rfl <;> omega
    · refine inr_append (h1.inr (by omega)) ?_
      have := h2.inr (by omega)
      rw [l1]
      rwa [Int.natCast_add] at this
  · have hpm : (allKids (twoN kind p q)).Perm ((List.range' 1 (p.length + q.length)).map fun j : Nat => (j : Int)) := by
      rw [range_split, List.map_append]
      refine List.Perm.trans ?_ ((l1 ▸ h1.perm).append (l2 ▸ h2.perm))
      show ([1, ((1 + p.length : Nat) : Int)] ++ allKids (sub p false p.length 1 0 ++ sub q false q.length (1 + p.length) 0)).Perm _
      rw [allKids_append]
      show ((1 : Int) :: ([((1 + p.length : Nat) : Int)] ++ (allKids (sub p false p.length 1 0) ++ allKids (sub q false q.length (1 + p.length) 0)))).Perm ((1 : Int) :: (allKids (sub p false p.length 1 0) ++ ([((1 + p.length : Nat) : Int)] ++ allKids (sub q false q.length (1 + p.length) 0))))
      refine List.Perm.cons _ ?_
      rw [← List.append_assoc, ← List.append_assoc]
      exact List.perm_append_comm.append_right _
    have hnd : ((List.range' 1 (p.length + q.length)).map fun j : Nat => (j : Int)).Nodup :=
      List.pairwise_map.2 (List.Pairwise.imp (fun {a b} hne e => hne (by omega)) (show (List.range' 1 (p.length + q.length)).Nodup from List.nodup_range' 1))
    have hm : (j : Int) ∈ (List.range' 1 (p.length + q.length)).map fun j : Nat => (j : Int) := List.mem_map.2 ⟨j, by simp only [List.mem_range'_1]; omega, rfl⟩
    have h3 := List.nodup_iff_count.1 hnd (j : Int)
    have h4 := List.count_pos_iff.2 hm
    rw [hpm.count_eq]
    omega
theorem two_num {kind : Int} {p q : List Nd} (hp : IsTree p) (hq : IsTree q) : numB (twoN kind p q) = true := by
  have l1 : (sub p false p.length 1 0).length = p.length := by rw [sub_length, tree_size hp]
  have e1 := num_sub hp.inr false p.length 1 0 [((1 + p.length : Nat) : Int)] (sub q false q.length (1 + p.length) 0) hp.pos (by omega)
  have e2 := num_sub hq.inr false q.length (1 + p.length) 0 [] [] hq.pos (by omega)
  rw [List.append_nil] at e2
  rw [l1, e2] at e1
  unfold numB twoN
  rw [show ([0] : List Int) = [((0 : Nat) : Int)] from rfl, numL_cons, if_pos rfl]
  have e3 : ([1, ((1 + p.length : Nat) : Int)] ++ [] : List Int) = ((1 : Nat) : Int) :: [((1 + p.length : Nat) : Int)] := rfl
  simp only
  rw [e3, Nat.zero_add, e1]
  rfl
/-- A sequence of two, turned, is the sequence of what was turned, the last one first. -/
theorem sub_succ (ns : List Nd) (tn : Bool) (f b i : Nat) : sub ns tn (f + 1) b i = { ns.getD i nd0 with kids := (subs (sub ns tn f) (b + 1) (kidsT tn (ns.getD i nd0))).2 } :: (subs (sub ns tn f) (b + 1) (kidsT tn (ns.getD i nd0))).1 := rfl
theorem two_turned {p q : List Nd} (hp : IsTree p) (hq : IsTree q) : sub (twoN 6 p q) true (twoN 6 p q).length 0 0 = twoN 6 (sub q true q.length 0 0) (sub p true p.length 0 0) := by
  have l1 : (sub p false p.length 1 0).length = p.length := by rw [sub_length, tree_size hp]
  have a1 : AtQ (twoN 6 p q) 1 (sub p false p.length 1 0) := fun j x hx => by
    unfold twoN
    rw [show 1 + j = j + 1 by omega, List.getElem?_cons_succ, List.getElem?_append_left (List.getElem?_eq_some_iff.1 hx).1]
    exact hx
  have a2 : AtQ (twoN 6 p q) (1 + p.length) (sub q false q.length (1 + p.length) 0) := fun j x hx => by
    unfold twoN
    rw [show 1 + p.length + j = (p.length + j) + 1 by omega, List.getElem?_cons_succ, List.getElem?_append_right (by omega), l1, Nat.add_sub_cancel_left]
    exact hx
  have hl := two_len (kind := 6) hp hq
  have hlq := (sub_tree hq true).2
  have hlp := (sub_tree hp true).2
  rw [hl, show 1 + p.length + q.length = (p.length + q.length) + 1 by omega, sub_succ]
  have hk : kidsT true ((twoN 6 p q).getD 0 nd0) = [((1 + p.length : Nat) : Int), 1] := rfl
  rw [hk]
  have hx : (twoN 6 p q).getD 0 nd0 = ⟨6, 0, 0, 0, [1, ((1 + p.length : Nat) : Int)]⟩ := rfl
  rw [hx]
  have s1 := fun base => sub_sub (Q := twoN 6 p q) hp.inr false true p.length (p.length + q.length) 1 0 hp.pos (by omega) (by omega) a1 base
  have s2 := fun base => sub_sub (Q := twoN 6 p q) hq.inr false true q.length (p.length + q.length) (1 + p.length) 0 hq.pos (by omega) (by omega) a2 base
  have n1 : ((1 : Int)).toNat = 1 := rfl
  have n2 : (((1 + p.length : Nat) : Int)).toNat = 1 + p.length := by omega
  simp only [subs, n1, n2, s1, s2, Bool.false_bne, List.append_nil]
  have lq : (sub q true q.length 1 0).length = q.length := by rw [sub_length, tree_size hq]
  have r1 := sub_again hq true false 1
  have r2 := sub_again hp true false (1 + q.length)
  simp only [Bool.bne_false] at r1 r2
  have e : twoN 6 (sub q true q.length 0 0) (sub p true p.length 0 0) = ⟨6, 0, 0, 0, [1, ((1 + q.length : Nat) : Int)]⟩ :: (sub q true q.length 1 0 ++ sub p true p.length (1 + q.length) 0) := by
    show _ :: _ = _
    rw [hlq]
    rw [hlq] at r1
    rw [r1, r2]
  rw [e]
  simp only [Nat.zero_add, lq]
  rfl
end Go.Proofs.YtimhlnndobfehaaDoor
namespace Go.Proofs.YtimhlnndobfehaaDoor
open Go.RowKit
set_option linter.unusedVariables false

/-- A pattern in its box. -/
structure Hd (w : World) (g : Nat) (A : Option Addr) (c : Nat) (ns : List Nd) : Prop where
  row : Row w g 28 [.slice A ns.length c]
  sl : Sl 5 vNd w 0 w.heap.size A ns
  c1 : ns.length ≤ c
  c2 : c ≤ maxLen
section
variable {w w' : World} {g g' c c' : Nat} {A A' : Option Addr} {ns ms : List Nd}
theorem Hd.on (h : Hd w g A c ns) (hb : Below w.heap.size w w') : Hd w' g A c ns :=
  ⟨h.row.below hb h.row.lt, (h.sl.below vNd_good hb (Nat.le_refl _)).wide vNd_good (Nat.le_refl _) hb.size, h.c1, h.c2⟩
theorem Hd.cell (h : Hd w g A c ns) : w.cell? ⟨g, 0, none⟩ = some (.slice A ns.length c) := (h.row.cel (i := 0) rfl).1
theorem Hd.lt (h : Hd w g A c ns) : g < w.heap.size := h.row.lt
theorem Hd.box (hs : Sl 5 vNd w 0 w.heap.size A ns) (h1 : ns.length ≤ c) (h2 : c ≤ maxLen) : Hd (w.alloc (.cells #[.slice A ns.length c] 28)) w.heap.size A c ns :=
  ⟨Row.new w _ _, (hs.below vNd_good ((Below.refl _ _).alloc (Nat.le_refl _) _) (Nat.le_refl _)).wide vNd_good (Nat.le_refl _) (by simp), h1, h2⟩
theorem held_res {v : Value} (h : PatRes w w' v ns) : ∃ A c, v = .agg #[.slice A ns.length c] ∧ Sl 5 vNd w' 0 w'.heap.size A ns ∧ ns.length ≤ c ∧ c ≤ maxLen ∧ Below w.heap.size w w' := by
  obtain ⟨u, es, rfl, hn, he, hb⟩ := h
  obtain ⟨A', c', e, h1, h2, hs⟩ := hn.sl
  have hel : es.length = ns.length := by rw [← he, List.length_map]
  rw [he] at hs
  rw [hel] at e
  subst e
  exact ⟨A', c', rfl, hs.wide vNd_good (Nat.zero_le _) (Nat.le_refl _), by rw [← hel]; exact h1, h2, hb⟩
theorem pats_two (hr : Row w g 28 [.slice A ns.length c, .slice A' ms.length c']) (c1 : ns.length ≤ c) (c2 : c ≤ maxLen) (d1 : ms.length ≤ c') (d2 : c' ≤ maxLen) (h1 : Sl 5 vNd w 0 w.heap.size A ns) (h2 : Sl 5 vNd w 0 w.heap.size A' ms) : Sl 1 vPat w 0 w.heap.size (some ⟨g, 0, none⟩) [ns, ms] := by
  refine Row.sl (V := vPat) hr rfl (Nat.zero_le _) hr.lt (fun i z v hx hv => ?_)
  match i, hx, hv with
  | 0, hx, hv =>
    obtain rfl := Option.some.inj hx
    obtain rfl := Option.some.inj hv
    exact ⟨A, c, rfl, c1, c2, h1⟩
  | 1, hx, hv =>
    obtain rfl := Option.some.inj hx
    obtain rfl := Option.some.inj hv
    exact ⟨A', c', rfl, d1, d2, h2⟩
theorem pats_one (hr : Row w g 28 [.slice A ns.length c]) (c1 : ns.length ≤ c) (c2 : c ≤ maxLen) (h1 : Sl 5 vNd w 0 w.heap.size A ns) : Sl 1 vPat w 0 w.heap.size (some ⟨g, 0, none⟩) [ns] := by
  refine Row.sl (V := vPat) hr rfl (Nat.zero_le _) hr.lt (fun i z v hx hv => ?_)
  match i, hx, hv with
  | 0, hx, hv =>
    obtain rfl := Option.some.inj hx
    obtain rfl := Option.some.inj hv
    exact ⟨A, c, rfl, c1, c2, h1⟩
/-- The list of two patterns that were read of their boxes. -/
theorem Hd.list (h : Hd w g A c ns) (h' : Hd w g' A' c' ms) : Sl 1 vPat (w.alloc (.cells #[.slice A ns.length c, .slice A' ms.length c'] 28)) 0 (w.alloc (.cells #[.slice A ns.length c, .slice A' ms.length c'] 28)).heap.size (some ⟨w.heap.size, 0, none⟩) [ns, ms] := by
  have hb : Below w.heap.size w (w.alloc (.cells #[.slice A ns.length c, .slice A' ms.length c'] 28)) := (Below.refl _ _).alloc (Nat.le_refl _) _
  exact pats_two (Row.new w _ _) h.c1 h.c2 h'.c1 h'.c2 (h.on hb).sl (h'.on hb).sl
end
/-- What the law asks of two patterns: all that is known of the answers. -/
structure TurnsOk (p q : List Nd) : Prop where
  tp : IsTree p
  tq : IsTree q
  e1 : turnedE p = 0
  e2 : turnedE q = 0
  e3 : turnedE (turnedN p) = 0
  l1 : (turnedN p).length = p.length
  s1 : sameB (turnedN (turnedN p)) p = true
  s2 : sameB p p = true
  n1 : numB (turnedN p) = true
  n2 : numB (turnedN (turnedN p)) = true
  k1 : ∀ x ∈ turnedN p, x.kids.length ≤ 1000
  k2 : ∀ x ∈ turnedN (turnedN p), x.kids.length ≤ 1000
  m1 : p.length ≤ 256
  m2 : q.length ≤ 256
  m3 : (turnedN (turnedN p)).length = p.length
structure TurnsTwo (p q : List Nd) : Prop where
  e : madeE [p, q] = 0
  t : turnedE (madeN 6 [p, q]) = 0
  w : madeE [turnedN q, turnedN p] = 0
  s : sameB (turnedN (madeN 6 [p, q])) (madeN 6 [turnedN q, turnedN p]) = true
  n1 : numB (madeN 6 [p, q]) = true
  n2 : numB (madeN 7 [p, q]) = true
  n3 : numB (turnedN (madeN 6 [p, q])) = true
  l1 : (madeN 6 [p, q]).length = 1 + p.length + q.length
  l2 : (madeN 7 [p, q]).length = 1 + p.length + q.length
  l3 : (turnedN (madeN 6 [p, q])).length = 1 + p.length + q.length
  k1 : ∀ x ∈ madeN 6 [p, q], x.kids.length ≤ 1000
  k2 : ∀ x ∈ madeN 7 [p, q], x.kids.length ≤ 1000
  k3 : ∀ x ∈ turnedN (madeN 6 [p, q]), x.kids.length ≤ 1000
  c1 : ((madeN 6 [p, q]).getD 0 nd0).kind = 6
  c2 : ((madeN 7 [p, q]).getD 0 nd0).kind = 7
theorem kids_few {ns : List Nd} (h : IsTree ns) : ∀ x ∈ ns, x.kids.length ≤ 1000 := fun x hx => by
  have := kids_le h hx
  have := h.max
  omega
theorem tree_self {ns : List Nd} (h : IsTree ns) : sameB ns ns = true := by rw [sameB_self]; exact (treeB_iff ns).2 h
theorem turns_ok {p q : List Nd} (hp : treeB p = true) (hq : treeB q = true) : TurnsOk p q := by
  have tp := (treeB_iff p).1 hp
  have tq := (treeB_iff q).1 hq
  obtain ⟨e1, n1⟩ := turned_true hp
  obtain ⟨e2, _⟩ := turned_true hq
  obtain ⟨t1, l1⟩ := sub_tree tp true
  have hb1 := (treeB_iff _).2 t1
  obtain ⟨e3, n3⟩ := turned_true hb1
  have hback : turnedN (turnedN p) = sub p false p.length 0 0 := by rw [n1, n3]; exact sub_again tp true true 0
  obtain ⟨t2, l2⟩ := sub_tree tp false
  refine ⟨tp, tq, e1, e2, by rw [n1]; exact e3, by rw [n1]; exact l1, ?_, tree_self tp, ?_, ?_, ?_, ?_, tp.max, tq.max, by rw [hback]; exact l2⟩
  · rw [hback]
    unfold sameB
    rw [(treeB_iff _).2 t2, hp, sub_again tp false false 0]
    simp
  · rw [n1]; exact num_tree tp true
  · rw [hback]; exact num_tree tp false
  · rw [n1]; exact kids_few t1
  · rw [hback]; exact kids_few t2
theorem turns_two {p q : List Nd} (hp : treeB p = true) (hq : treeB q = true) (h : 1 + p.length + q.length ≤ 256) : TurnsTwo p q := by
  have tp := (treeB_iff p).1 hp
  have tq := (treeB_iff q).1 hq
  obtain ⟨e, n6⟩ := two_made (kind := 6) hp hq h
  obtain ⟨_, n7⟩ := two_made (kind := 7) hp hq h
  have t6 := two_tree (kind := 6) tp tq (.inl rfl) h
  have t7 := two_tree (kind := 7) tp tq (.inr rfl) h
  obtain ⟨e6, r6⟩ := turned_true ((treeB_iff _).2 t6)
  obtain ⟨_, n1⟩ := turned_true hp
  obtain ⟨_, n2⟩ := turned_true hq
  obtain ⟨t1, l1⟩ := sub_tree tp true
  obtain ⟨t2, l2⟩ := sub_tree tq true
  have hl6 := two_len (kind := 6) tp tq
  have hl7 := two_len (kind := 7) tp tq
  obtain ⟨ew, nw⟩ := two_made (kind := 6) ((treeB_iff _).2 t2) ((treeB_iff _).2 t1) (by rw [l1, l2]; omega)
  have h3 := two_turned tp tq
  obtain ⟨t3, l3⟩ := sub_tree t6 true
  refine ⟨e, by rw [n6]; exact e6, by rw [n1, n2]; exact ew, ?_, by rw [n6]; exact two_num tp tq, by rw [n7]; exact two_num tp tq, ?_, by rw [n6]; exact hl6, by rw [n7]; exact hl7, ?_, by rw [n6]; exact kids_few t6, by rw [n7]; exact kids_few t7, ?_, by rw [n6]; rfl, by rw [n7]; rfl⟩
  · rw [n6, r6, n1, n2, nw, h3]
    exact tree_self (by rw [← h3]; exact t3)
  · rw [n6, r6]; exact num_tree t6 true
  · rw [n6, r6, l3]; exact hl6
  · rw [n6, r6]; exact kids_few t3
end Go.Proofs.YtimhlnndobfehaaDoor
namespace Go.Proofs.YtimhlnndobfehaaDoor
open Go.RowKit
set_option linter.unusedVariables false

def TwoSt (w : World) (x y : Nd) (B : Option Addr) (cc : Nat) (B' : Option Addr) (cc' : Nat) (p6 p7 : Value) (wc : World) : Prop :=
  ∃ b6 b7, p6 = .pointer (some ⟨b6, 0, none⟩) ∧ p7 = .pointer (some ⟨b7, 0, none⟩) ∧ Row wc b6 44 (ndCells x (.slice B x.kids.length cc)) ∧ Row wc b7 44 (ndCells y (.slice B' y.kids.length cc')) ∧ Below w.heap.size w wc

theorem two_new (w : World) (t : TypeId) (l m : List Value) : Row ((w.alloc (.cells l.toArray t)).alloc (.cells m.toArray t)).drew w.heap.size t l ∧ Row ((w.alloc (.cells l.toArray t)).alloc (.cells m.toArray t)).drew (w.heap.size + 1) t m ∧ Below w.heap.size w ((w.alloc (.cells l.toArray t)).alloc (.cells m.toArray t)).drew := by
  have h1 : Row ((w.alloc (.cells l.toArray t)).alloc (.cells m.toArray t)) w.heap.size t l := (Row.new w t l).alloc _
  have h2 : Row ((w.alloc (.cells l.toArray t)).alloc (.cells m.toArray t)) (w.heap.size + 1) t m := by
    have h := Row.new (w.alloc (.cells l.toArray t)) t m
    simpa using h
  have h3 : Below w.heap.size w ((w.alloc (.cells l.toArray t)).alloc (.cells m.toArray t)) := ((Below.refl _ _).alloc (Nat.le_refl _) _).alloc (by simp) _
  exact ⟨h1, h2, ⟨h3.os, h3.tape, h3.output, h3.size, h3.block⟩⟩
theorem two_st (w : World) (x y : Nd) (B : Option Addr) (cc : Nat) (B' : Option Addr) (cc' : Nat) :
    TwoSt w x y B cc B' cc' (.pointer (some ⟨w.heap.size, 0, none⟩)) (.pointer (some ⟨w.heap.size + 1, 0, none⟩)) ((w.alloc (.cells (ndCells x (.slice B x.kids.length cc)).toArray 44)).alloc (.cells (ndCells y (.slice B' y.kids.length cc')).toArray 44)).drew :=
  ⟨_, _, rfl, rfl, (two_new w _ _ _).1, (two_new w _ _ _).2.1, (two_new w _ _ _).2.2⟩
theorem two_st' (w : World) (x y : Nd) (B : Option Addr) (cc : Nat) (B' : Option Addr) (cc' : Nat) :
    TwoSt w x y B cc B' cc' (.pointer (some ⟨w.heap.size + 1, 0, none⟩)) (.pointer (some ⟨w.heap.size, 0, none⟩)) ((w.alloc (.cells (ndCells y (.slice B' y.kids.length cc')).toArray 44)).alloc (.cells (ndCells x (.slice B x.kids.length cc)).toArray 44)).drew :=
  ⟨_, _, rfl, rfl, (two_new w _ _ _).2.1, (two_new w _ _ _).1, (two_new w _ _ _).2.2⟩

theorem take_eq_step {α : Type} {l m : List α} {k : Nat} (h1 : k < l.length) (h2 : k < m.length) (h : l.take k = m.take k) (he : l[k] = m[k]) : l.take (k + 1) = m.take (k + 1) := by
  rw [List.take_succ_eq_append_getElem h1, List.take_succ_eq_append_getElem h2, h, he]

end Go.Proofs.YtimhlnndobfehaaDoor
