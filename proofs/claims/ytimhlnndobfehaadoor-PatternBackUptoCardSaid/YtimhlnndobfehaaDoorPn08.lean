/- pattern.Text. The document put, walked. The document's node, walked. The document's Tree, walked. Turned (both) and the document's Norm, walked. When two patterns are the same. Plain Lean. The program's made, walked. The document's made, walked. Seq, Or, Star, Opt (both), walked. -/
import Derived.Test.YtimhlnndobfehaaDoorPn07
import Derived.Test.YtimhlnndobfehaaDoorMc22
import Derived.Laws.EntriesVeiled
import Derived.Test.YtimhlnndobfehaaDoorPn05
import Derived.Test.YtimhlnndobfehaaDoorMc08
import Derived.Test.YtimhlnndobfehaaDoorMc06
import Derived.Test.YtimhlnndobfehaaDoorChecked
import Derived.Deep.DeepCutAuto
import Derived.Deep.CutBlock
import Derived.Test.YtimhlnndobfehaaDoorPn06
import Derived.Deep.AppendLies
namespace Go.Proofs.YtimhlnndobfehaaDoor
open Go.RowKit
set_option linter.unusedVariables false

theorem nodeOk_kind {kd rn pl mi : Int} {ks : List Int} (h : nodeOk ⟨kd, rn, pl, mi, ks⟩ = true) : 1 ≤ kd ∧ kd ≤ 9 ∧ ((kd = 8 ∨ kd = 9) → ks.length = 1) := by
  unfold nodeOk at h
  simp only [Bool.and_eq_true] at h
  have h1 := h.1.1
  split at h1
  · omega
  · split at h1
    · simp only [decide_eq_true_eq] at h1
      omega
    · split at h1
      · omega
      · cases h1
section
variable {a : Al} {ns : List Nd} {A1 A2 An : Option Addr} {c1 c2 cn b bf bp ba : Nat}
theorem write_any (ht : IsTree ns) : ∀ (f at_ : Nat) (l : List UInt8) (w : World), at_ < ns.length → ns.length - at_ ≤ f → l.length + 900 * szN ns f at_ ≤ 1000000 → Ws a ns A1 A2 An c1 c2 cn b bf bp ba l w →
    Calls Tryd.prog 37 #[.int .i64 (at_ : Int), .pointer (some ⟨bp, 0, none⟩), .pointer (some ⟨b, 0, none⟩), .pointer (some ⟨ba, 0, none⟩), .pointer (some ⟨bf, 0, none⟩)] w (WrOut b (l ++ txtN a ns f at_) w) := by
  intro f
  induction f with
  | zero => intro at_ l w h1 h2; omega
  | succ f ih =>
    intro at_ l w hat hf hsz hs
    have hxx : ns.getD at_ nd0 = ns[at_] := by rw [List.getD_eq_getElem?_getD, List.getElem?_eq_getElem hat]; rfl
    have hok := ht.ok _ (List.getElem_mem hat)
    have hin := inr_at at_ ht.inr hat
    have hle : l.length ≤ 1000000 := by omega
    simp only [szN] at hsz
    simp only [txtN]
    rw [hxx] at hin hsz ⊢
    obtain ⟨⟨kd, rn, pl, mi, ks⟩, hx⟩ : ∃ x, ns[at_] = x := ⟨_, rfl⟩
    rw [hx] at hok hin hsz ⊢
    simp only at hin hsz
    obtain ⟨g1, g2, g3⟩ := nodeOk_kind hok
    have hg : ∀ k ∈ ks, ((fun k : Int => txtN a ns f k.toNat) k).length + 1 ≤ 900 * (fun k : Int => szN ns f k.toNat) k := fun k hk => by
      have := hin k hk
      exact txt_len a ht.inr f k.toNat (by omega) (by omega)
    have hk : ∀ k ∈ ks, ∀ (l1 : List UInt8) (wx : World), l1.length + 900 * (fun k : Int => szN ns f k.toNat) k ≤ 1000000 → Ws a ns A1 A2 An c1 c2 cn b bf bp ba l1 wx → Calls Tryd.prog 37 #[.int .i64 k, .pointer (some ⟨bp, 0, none⟩), .pointer (some ⟨b, 0, none⟩), .pointer (some ⟨ba, 0, none⟩), .pointer (some ⟨bf, 0, none⟩)] wx (WrOut b (l1 ++ (fun k : Int => txtN a ns f k.toNat) k) wx) := fun k hk l1 wx h1 h2 => by
      have h3 := hin k hk
      have h4 := ih k.toNat l1 wx (by omega) (by omega) h1 h2
      rw [show ((k.toNat : Nat) : Int) = k by omega] at h4
      exact h4
    have hkd : kd = 1 ∨ kd = 2 ∨ kd = 3 ∨ kd = 4 ∨ kd = 5 ∨ kd = 6 ∨ kd = 7 ∨ kd = 8 ∨ kd = 9 := by omega
    rcases hkd with rfl | rfl | rfl | rfl | rfl | rfl | rfl | rfl | rfl
    · exact wr_empty hs hat hx hle
    · exact wr_rune hs hat hx hle
    · exact wr_class hs hat hx hle
    · exact wr_any hs hat hx hle
    · exact wr_edge hs hat hx hle
    · exact wr_seq _ _ hs hat hx hle hsz hg hk
    · exact wr_or _ _ hs hat hx hle hsz hg hk
    · exact wr_star _ _ hs hat hx hle hsz hg hk (g3 (.inl rfl))
    · exact wr_opt _ _ hs hat hx hle hsz hg hk (g3 (.inr rfl))
end
theorem patE_tree {a : Al} {ns : List Nd} (h : patE a ns = 0) : alE a = 0 ∧ IsTree ns := by
  unfold patE at h
  by_cases hE : alE a = 0
  · rw [if_neg (by simp [hE])] at h
    refine ⟨hE, (treeB_iff ns).1 ?_⟩
    by_cases hp : patOk a ns = true
    · unfold patOk at hp
      simp only [Bool.and_eq_true] at hp
      exact hp.1
    · rw [if_neg hp] at h; cases h
  · rw [if_pos hE] at h; exact absurd h hE
set_option maxHeartbeats 8000000 in
set_option maxRecDepth 100000 in
theorem ptext_any (A1 A2 An : Option Addr) (c1 c2 cn : Nat) (a : Al) (ns : List Nd) (w : World) (hin : AlIn w 0 w.heap.size A1 A2 a) (hns : Sl 5 vNd w 0 w.heap.size An ns) (hm : ns.length ≤ 9223372036854775807) :
    Calls Tryd.prog 12 #[.agg #[.slice A1 a.feats.length c1, .slice A2 a.lets.length c2], .agg #[.slice An ns.length cn]] w (StrOut (ptextS a ns) w) := by
  obtain ⟨W2, hW2⟩ : ∃ W2, W2 = (w.alloc (.cells #[.slice A1 a.feats.length c1, .slice A2 a.lets.length c2] 25)).alloc (.cells #[.slice An ns.length cn] 28) := ⟨_, rfl⟩
  have hal : Below w.heap.size w W2 := by rw [hW2]; exact ((Below.refl _ _).alloc (Nat.le_refl _) _).alloc (by simp) _
  have hs2 : W2.heap.size = w.heap.size + 2 := by rw [hW2]; simp
  have hr0 : Row W2 w.heap.size 25 [.slice A1 a.feats.length c1, .slice A2 a.lets.length c2] := by rw [hW2]; exact (Row.new w _ _).alloc _
  have hr1 : Row W2 (w.heap.size + 1) 28 [.slice An ns.length cn] := by
    have h := Row.new (w.alloc (.cells #[.slice A1 a.feats.length c1, .slice A2 a.lets.length c2] 25)) 28 [.slice An ns.length cn]
    rw [hW2]
    simpa using h
  have hin2 := hin.below hal (Nat.le_refl _)
  have hns2 := hns.below vNd_good hal (Nat.le_refl _)
  have hcall := Lib.hid (pcheck_any A1 A2 An c1 c2 cn 0 a ns W2 (hin2.wide (Nat.le_refl _) (by omega)) (hns2.wide vNd_good (Nat.le_refl _) (by omega)) hm)
  obtain ⟨y0, _⟩ := hr0.cel (i := 0) rfl
  obtain ⟨y1, _⟩ := hr0.cel (i := 1) rfl
  obtain ⟨y2, _⟩ := hr1.cel (i := 0) rfl
  have HAL := Lib.hid hal
  have HR0 := Lib.hid hr0
  have HR1 := Lib.hid hr1
  have HIN := Lib.hid hin2
  have HNS := Lib.hid hns2
  have HS2 := Lib.hid hs2
  have HX : Hid (ptextS a ns = if patE a ns ≠ 0 then (⟨#[]⟩, patE a ns) else if 65536 < (txtN a ns ns.length 0).length then (⟨#[]⟩, 3) else (⟨(txtN a ns ns.length 0).toArray⟩, 0)) := rfl
  generalize ptextS a ns = R at *
  clear hal hr0 hr1 hin hns hin2 hns2 hs2 y0 y1 y2
  by_cases hE : patE a ns = 0
  · obtain ⟨hE1, ht⟩ := patE_tree hE
    have HXX : Hid (R = if 65536 < (txtN a ns ns.length 0).length then (⟨#[]⟩, 3) else (⟨(txtN a ns ns.length 0).toArray⟩, 0)) := by show _ = _; rw [HX.out, if_neg (by simp [hE])]
    rw [hE] at hcall
    have htl := txt_len a ht.inr ns.length 0 ht.pos (by omega)
    rw [tree_size ht] at htl
    have hmax := ht.max
    have HT := Lib.hid ht
    clear HX hE hE1 ht
    go_enter Tryd.func12, Tryd.ntmps12
    go_wp2_with fail
    rw [← hW2]
    clear hW2
    refine hcall.out.mono ?_
    rintro e w1 ⟨rfl, hb1⟩
    have hbw : Below w.heap.size w w1 := HAL.out.trans (hb1.mono HAL.out.size)
    have hs1 := hb1.size
    have hS2 := HS2.out
    obtain ⟨b, hb⟩ : ∃ b, b = w1.heap.size := ⟨_, rfl⟩
    obtain ⟨wb, hwb⟩ : ∃ wb : World, wb = w1.alloc (.cells #[.pointer none, .slice none 0 0] 72) := ⟨_, rfl⟩
    obtain ⟨wd, hwd⟩ : ∃ wd : World, wd = wb.alloc (.cells #[.func (.func 37) #[] #[.pointer (some ⟨w.heap.size + 1, 0, none⟩), .pointer (some ⟨w1.heap.size, 0, none⟩), .pointer (some ⟨w.heap.size, 0, none⟩), .pointer (some ⟨w1.heap.size + 1, 0, none⟩)]] 73) := ⟨_, rfl⟩
    have sb : wb.heap.size = w1.heap.size + 1 := by rw [hwb]; simp
    have sd : wd.heap.size = w1.heap.size + 2 := by rw [hwd]; simp; omega
    have hbb : Below w1.heap.size w1 wb := by rw [hwb]; exact (Below.refl _ _).alloc (Nat.le_refl _) _
    have hbd : Below w1.heap.size w1 wd := by rw [hwd]; exact hbb.alloc (by omega) _
    have hbld : Bld w1.heap.size w1.heap.size [] wb := by rw [hwb]; exact Lib.fresh_isBuilder _ _ _
    have hbld2 : Bld w1.heap.size w1.heap.size [] wd := by rw [hwd]; exact bld_below hbld ((Below.refl _ _).alloc (Nat.le_refl _) _)
    have hrf : Row wd (w1.heap.size + 1) 73 [.func (.func 37) #[] #[.pointer (some ⟨w.heap.size + 1, 0, none⟩), .pointer (some ⟨w1.heap.size, 0, none⟩), .pointer (some ⟨w.heap.size, 0, none⟩), .pointer (some ⟨w1.heap.size + 1, 0, none⟩)]] := by
      have h := Row.new wb 73 [.func (.func 37) #[] #[.pointer (some ⟨w.heap.size + 1, 0, none⟩), .pointer (some ⟨w1.heap.size, 0, none⟩), .pointer (some ⟨w.heap.size, 0, none⟩), .pointer (some ⟨w1.heap.size + 1, 0, none⟩)]]
      rw [sb] at h
      rw [hwd]; exact h
    have hbwd : Below w.heap.size w wd := hbw.trans (hbd.mono (by omega))
    have hb2d : Below W2.heap.size W2 wd := hb1.trans (hbd.mono hs1)
    have hws : Ws a ns A1 A2 An c1 c2 cn w1.heap.size (w1.heap.size + 1) (w.heap.size + 1) w.heap.size [] wd :=
      ⟨(HIN.out.below (hb2d.mono (by omega)) (Nat.le_refl _)).wide (Nat.le_refl _) (by omega), (HNS.out.below vNd_good (hb2d.mono (by omega)) (Nat.le_refl _)).wide vNd_good (Nat.le_refl _) (by omega), by omega, by omega, by omega,
        HR0.out.below hb2d HR0.out.lt, HR1.out.below hb2d HR1.out.lt, hrf, hbld2⟩
    have hcl := write_any HT.out ns.length 0 [] wd HT.out.pos (by omega) (by rw [tree_size HT.out]; simp; omega) hws
    have HWD : Hid (wd = (w1.alloc (.cells #[.pointer none, .slice none 0 0] 72)).alloc (.cells #[.func (.func 37) #[] #[.pointer (some ⟨w.heap.size + 1, 0, none⟩), .pointer (some ⟨w1.heap.size, 0, none⟩), .pointer (some ⟨w.heap.size, 0, none⟩), .pointer (some ⟨w1.heap.size + 1, 0, none⟩)]] 73)) := by show _ = _; rw [hwd, hwb]
    have HCL := Lib.hid hcl
    have HBD := Lib.hid (hbwd.trans ((Below.refl w.heap.size wd)))
    have HS1 : Hid (w.heap.size ≤ w1.heap.size) := by show _ ≤ _; omega
    clear hb b hwb hwd hbb hbd hbld hbld2 hrf hb2d hws hcl hbw hbwd sb hb1 hcall htl
    go_wp2_with fail
    rw [← HWD.out]
    refine HCL.out.mono ?_
    rintro e w3 ⟨rfl, hb3, hbe3, ho3⟩
    have HBE := Lib.hid (HBD.out.trans (hbe3.mono HS1.out))
    rw [List.nil_append] at hb3
    have hlb := bld_lt hb3
    have HLen := Lib.hid (Tryd.Builder_Len w1.heap.size w1.heap.size _ w3 hb3)
    have HStr := Lib.hid (Tryd.Builder_String_any w1.heap.size w1.heap.size (txtN a ns ns.length 0) w3 hb3 (Nat.le_of_lt hlb.2))
    have hbl := Lib.byteCells_length (txtN a ns ns.length 0)
    rw [hbl] at HLen
    generalize txtN a ns ns.length 0 = T at *
    clear hb3 hbe3 ho3 HCL hbl hlb HWD
    go_wp2_with fail
    refine HLen.out.mono ?_
    rintro e w4 ⟨rfl, rfl⟩
    clear HLen
    by_cases h6 : 65536 < T.length
    · have HFIN := Lib.hid (StrOut.mk' (show R = (⟨#[]⟩, 3) by rw [HXX.out, if_pos h6]) HBE.out)
      have j1 : (65536 : Int) < (T.length : Int) := by omega
      clear HXX HStr
      go_wp2_with fail
      go_ret2
      exact HFIN.out
    · have j1 : ¬ (65536 : Int) < (T.length : Int) := by omega
      have HR : Hid (R = (⟨T.toArray⟩, 0)) := by show _ = _; rw [HXX.out, if_neg h6]
      clear HXX
      go_wp2_with fail
      refine HStr.out.mono ?_
      rintro e w5 ⟨rfl, hb5⟩
      have HFIN := Lib.hid (StrOut.mk' HR.out (HBE.out.trans (hb5.mono HS1.out)))
      clear hb5 HStr
      go_wp2_with fail
      go_ret2
      exact HFIN.out
  · have HR : Hid (R = (⟨#[]⟩, patE a ns)) := by show _ = _; rw [HX.out, if_pos hE]
    generalize patE a ns = E at *
    have hne : (E != 0) = true := by rw [bne_iff_ne]; exact hE
    clear HX hE
    go_enter Tryd.func12, Tryd.ntmps12
    go_wp2_with fail
    rw [← hW2]
    clear hW2
    refine hcall.out.mono ?_
    rintro e w1 ⟨rfl, hb1⟩
    have HFIN := Lib.hid (StrOut.mk' HR.out (HAL.out.trans (hb1.mono HAL.out.size)))
    clear hb1 hcall
    go_wp2_with fail
    go_ret2
    exact HFIN.out
end Go.Proofs.YtimhlnndobfehaaDoor
namespace Go.Proofs.YtimhlnndobfehaaDoor
open Go.RowKit
set_option linter.unusedVariables false

def PutSt (x : Nd) (w : World) (lo : Nat) (v0 : Value) (es : List (Nd × Value)) (kd : List Int) (l2 : List Nd) (v u : Value) (wr : World) : Prop :=
  ∃ es2, Nodes wr lo v (es ++ (({ x with kids := [] } : Nd), .slice none 0 0) :: es2) ∧ es2.map Prod.fst = l2 ∧ wr.ownsRow lo 3 1 u kd.length (kd.map (Value.int .i64)) ∧ Fr (fun k => v0.ownBlock = some k) w wr ∧
    (v.ownBlock = v0.ownBlock ∨ ∀ g, v.ownBlock = some g → w.heap.size ≤ g) ∧
    (∀ g, u.ownBlock = some g → w.heap.size ≤ g ∧ ∀ (i : Nat) (y : Nd) (t : Value), (es ++ (({ x with kids := [] } : Nd), .slice none 0 0) :: es2)[i]? = some (y, t) → t.ownBlock ≠ some g) ∧
    (∀ (i : Nat) (y : Nd) (t : Value) (g : Nat), es2[i]? = some (y, t) → t.ownBlock = some g → w.heap.size ≤ g) ∧
    v.ownBlock ≠ some w.heap.size ∧ Row wr w.heap.size 44 (ndCells { x with kids := [] } (.slice none 0 0)) ∧ ∀ k ∈ kd, kin .i64 k

theorem kidsT_at (tn : Bool) (x : Nd) (j : Nat) (hj : j < x.kids.length) : (kidsT tn x)[j]'(by rw [kidsT_length]; exact hj) = if (tn && (x.kind == 6)) = true then x.kids[x.kids.length - 1 - j] else x.kids[j] := by
  by_cases h : tn = true ∧ x.kind = 6
  · have e : kidsT tn x = x.kids.reverse := by unfold kidsT; rw [if_pos h]
    have e2 : (tn && (x.kind == 6)) = true := by rw [h.1, h.2]; rfl
    rw [if_pos e2]
    simp only [e, List.getElem_reverse]
  · have e : kidsT tn x = x.kids := by unfold kidsT; rw [if_neg h]
    have e2 : (tn && (x.kind == 6)) = false := by simpa using h
    simp only [e, e2, Bool.false_eq_true, if_false]

end Go.Proofs.YtimhlnndobfehaaDoor
namespace Go.Proofs.YtimhlnndobfehaaDoor
open Go.RowKit
set_option linter.unusedVariables false

theorem nodeOk_iff (kd rn pl mi : Int) (ks : List Int) : nodeOk ⟨kd, rn, pl, mi, ks⟩ = true ↔ ((kd = 6 ∨ kd = 7) ∨ ((kd = 8 ∨ kd = 9) ∧ ks.length = 1) ∨ ((1 ≤ kd ∧ kd ≤ 5) ∧ ks.length = 0)) ∧ (rn = 0 ∨ kd = 2) ∧ ((pl = 0 ∧ mi = 0) ∨ kd = 3) := by
  unfold nodeOk
  dsimp only
  by_cases h1 : kd = 6 ∨ kd = 7
  · rw [if_pos h1]
    simp only [Bool.and_eq_true, Bool.or_eq_true, decide_eq_true_eq, and_assoc, true_and]
    omega
  · rw [if_neg h1]
    by_cases h2 : kd = 8 ∨ kd = 9
    · rw [if_pos h2]
      simp only [Bool.and_eq_true, Bool.or_eq_true, decide_eq_true_eq, and_assoc]
      omega
    · rw [if_neg h2]
      by_cases h3 : 1 ≤ kd ∧ kd ≤ 5
      · rw [if_pos h3]
        simp only [Bool.and_eq_true, Bool.or_eq_true, decide_eq_true_eq, and_assoc]
        omega
      · rw [if_neg h3]
        simp only [Bool.and_eq_true, Bool.false_eq_true, false_and, false_iff]
        omega

end Go.Proofs.YtimhlnndobfehaaDoor
namespace Go.Proofs.YtimhlnndobfehaaDoor
open Go.RowKit
set_option linter.unusedVariables false

def vN (c : Nat) : Value := .int .i64 (c : Int)
theorem vN_int (c : Nat) : vN c = .int .i64 (c : Int) := rfl

end Go.Proofs.YtimhlnndobfehaaDoor
namespace Go.Proofs.YtimhlnndobfehaaDoor
open Go.RowKit
set_option linter.unusedVariables false

def turnedE (ns : List Nd) : Int := if treeB ns then 0 else 40
def turnedN (ns : List Nd) : List Nd := if treeB ns then sub ns true ns.length 0 0 else []
theorem turned_false {ns : List Nd} (h : treeB ns = false) : turnedE ns = 40 ∧ turnedN ns = [] := by unfold turnedE turnedN; rw [h]; exact ⟨rfl, rfl⟩
theorem turned_true {ns : List Nd} (h : treeB ns = true) : turnedE ns = 0 ∧ turnedN ns = sub ns true ns.length 0 0 := by unfold turnedE turnedN; rw [h]; exact ⟨rfl, rfl⟩
theorem walked_top {ns : List Nd} (tn : Bool) {A : Option Addr} {c lo hi : Nat} {w : World} (ht : IsTree ns) (hhi : hi ≤ w.heap.size) (hsl : Sl 5 vNd w lo hi A ns) :
    Calls Tryd.prog 46 #[.slice none 0 0, .slice A ns.length c, .int .i64 0, .bool tn] w fun e w' =>
      ∃ A' n' c', e = .returned (.slice A' n' c') ∧ PatRes w w' (.agg #[.slice A' n' c']) (sub ns tn ns.length 0 0) := by
  refine (walked_any tn (c := c) (es := []) (v := .slice none 0 0) ht (by simp) (Nat.le_refl _) (hsl.wide vNd_good (Nat.le_refl _) hhi) (Nodes.nil w _)).mono ?_
  rintro e w' ⟨v', es', rfl, hn, he, hF⟩
  obtain ⟨A', c', rfl, _, _⟩ := own_form hn.row
  exact ⟨A', _, c', rfl, _, es', rfl, hn, he, hF.below (fun k h => by simp [Value.ownBlock] at h) (Nat.le_refl _)⟩
section
variable (A : Option Addr) (c lo hi : Nat) (ns : List Nd) (w : World)
set_option maxHeartbeats 4000000 in
theorem pturned_any (hm : ns.length ≤ 9223372036854775807) (hhi : hi ≤ w.heap.size) (hsl : Sl 5 vNd w lo hi A ns) :
    Calls Tryd.prog 21 #[.agg #[.slice A ns.length c]] w fun e w' => ∃ v, e = .returned (.tuple #[v, .int .i64 (turnedE ns)]) ∧ PatRes w w' v (turnedN ns) := by
  have hr1 : Row ((w.alloc (.cells #[.slice A ns.length c] 28)).alloc (.cells #[.slice none 0 0] 28)) w.heap.size 28 [.slice A ns.length c] := (Row.new w _ _).alloc _
  have hr2 : Row ((w.alloc (.cells #[.slice A ns.length c] 28)).alloc (.cells #[.slice none 0 0] 28)) (w.heap.size + 1) 28 [.slice none 0 0] := by
    have h := Row.new (w.alloc (.cells #[.slice A ns.length c] 28)) 28 [.slice none 0 0]
    simpa using h
  have hb : Below w.heap.size w ((w.alloc (.cells #[.slice A ns.length c] 28)).alloc (.cells #[.slice none 0 0] 28)) := ((Below.refl _ _).alloc (Nat.le_refl _) _).alloc (by simp) _
  have hbs := hb.size
  go_enter Tryd.func21, Tryd.ntmps21
  go_wp2_with fail
  refine (tree_any A c lo hi ns _ hm (by omega) (hsl.below vNd_good hb hhi)).mono ?_
  rintro e w1 ⟨rfl, hb1⟩
  have hbw : Below w.heap.size w w1 := hb.trans (hb1.mono hbs)
  have hr3 := hr1.below hb1 hr1.lt
  have hr4 := hr2.below hb1 hr2.lt
  obtain ⟨c3, f3⟩ := hr3.cel (i := 0) rfl
  obtain ⟨c4, f4⟩ := hr4.cel (i := 0) rfl
  have hl4 := hr4.lt
  clear hr1 hr2 hb hb1 hbs
  cases ht : treeB ns with
  | false =>
    have HT := Lib.hid (turned_false ht)
    go_wp2_with fail
    (try simp only [Exit.inBlock, Exit.then])
    refine bodyPost_ret (res_cell_tmp rfl _ _ (w.heap.size + 1) _ rfl (hr4.set_ 0 _)) rfl ?_
    refine ⟨_, by rw [HT.out.1]; rfl, ?_⟩
    rw [HT.out.2]
    exact PatRes.nothing (hbw.setCell (by simp) _)
  | true =>
    have HT := Lib.hid (turned_true ht)
    go_wp2_with fail
    refine (walked_top true ((treeB_iff ns).1 ht) (by have := hbw.size; omega) (hsl.below vNd_good hbw hhi)).mono ?_
    rintro e w2 ⟨A', n', c', rfl, hp⟩
    have hfin := hp.up hbw (H := w.heap.size + 1) (by omega) hr4.lt (.slice A' n' c')
    obtain ⟨_, _, _, _, _, hB⟩ := hp
    have hr5 := hr4.below hB hr4.lt
    obtain ⟨c5, f5⟩ := hr5.cel (i := 0) rfl
    clear hr3 hr4 c3 c4 f3 f4
    go_wp2_with fail
    (try simp only [Exit.inBlock, Exit.then])
    refine bodyPost_ret (res_cell_tmp rfl _ _ (w.heap.size + 1) _ rfl (hr5.set_ 0 _)) rfl ?_
    refine ⟨_, by rw [HT.out.1]; rfl, ?_⟩
    rw [HT.out.2]
    exact hfin

end
end Go.Proofs.YtimhlnndobfehaaDoor
namespace Go.Proofs.YtimhlnndobfehaaDoor

def sameB (ps qs : List Nd) : Bool := treeB ps && treeB qs && decide (sub ps false ps.length 0 0 = sub qs false qs.length 0 0)
theorem sameB_p {ps qs : List Nd} (h : treeB ps = false) : sameB ps qs = false := by unfold sameB; rw [h]; rfl
theorem sameB_q {ps qs : List Nd} (h : treeB qs = false) : sameB ps qs = false := by unfold sameB; rw [h]; simp
theorem sameB_len {ps qs : List Nd} (hp : treeB ps = true) (hq : treeB qs = true) (h : ps.length ≠ qs.length) : sameB ps qs = false := by
  unfold sameB
  rw [hp, hq]
  simp only [Bool.and_self, Bool.true_and, decide_eq_false_iff_not]
  intro e
  have := congrArg List.length e
  rw [sub_length, sub_length, tree_size ((treeB_iff ps).1 hp), tree_size ((treeB_iff qs).1 hq)] at this
  exact h this
theorem sameB_like {ps qs : List Nd} (hp : treeB ps = true) (hq : treeB qs = true) (h : ps.length = qs.length) : sameB ps qs = likeB ps qs ps.length 0 0 := by
  unfold sameB
  rw [hp, hq, ← h, Bool.eq_iff_iff]
  simp only [Bool.and_self, Bool.true_and, decide_eq_true_eq]
  exact sub_like ps qs ps.length 0 0 0
theorem sameB_self (ns : List Nd) : sameB ns ns = treeB ns := by unfold sameB; simp

/-- Patterns in their one numbering, one behind the other, behind a first node. -/
def catSt (ls : List (List Nd)) : List Int × List Nd :=
  ls.foldl (fun s l => (s.1 ++ [((1 + s.2.length : Nat) : Int)], s.2 ++ sub l false l.length (1 + s.2.length) 0)) ([], [])
theorem catSt_snoc (ls : List (List Nd)) (l : List Nd) : catSt (ls ++ [l]) = ((catSt ls).1 ++ [((1 + (catSt ls).2.length : Nat) : Int)], (catSt ls).2 ++ sub l false l.length (1 + (catSt ls).2.length) 0) := by
  unfold catSt
  rw [List.foldl_append]
  rfl
theorem catSt_take {ls : List (List Nd)} {j : Nat} (h : j < ls.length) : catSt (ls.take (j + 1)) = ((catSt (ls.take j)).1 ++ [((1 + (catSt (ls.take j)).2.length : Nat) : Int)], (catSt (ls.take j)).2 ++ sub ls[j] false ls[j].length (1 + (catSt (ls.take j)).2.length) 0) := by
  rw [List.take_succ_eq_append_getElem h, catSt_snoc]
def sumLen (ls : List (List Nd)) : Nat := (ls.map List.length).sum
theorem sumLen_take {ls : List (List Nd)} {j : Nat} (h : j < ls.length) : sumLen (ls.take (j + 1)) = sumLen (ls.take j) + ls[j].length := by
  unfold sumLen
  rw [List.take_succ_eq_append_getElem h, List.map_append, List.sum_append]
  simp
theorem sumLen_le : ∀ (ls : List (List Nd)) (j : Nat), sumLen (ls.take j) ≤ sumLen ls
  | [], j => by simp
  | l :: ls, 0 => by simp [sumLen]
  | l :: ls, j + 1 => by
    have := sumLen_le ls j
    simp only [sumLen, List.take_succ_cons, List.map_cons, List.sum_cons] at this ⊢
    omega
theorem catSt_len {ls : List (List Nd)} (ht : ∀ l ∈ ls, treeB l = true) : ∀ j : Nat, j ≤ ls.length → (catSt (ls.take j)).2.length = sumLen (ls.take j) ∧ (catSt (ls.take j)).1.length = j
  | 0, _ => by simp [catSt, sumLen]
  | j + 1, hj => by
    have ih := catSt_len ht j (by omega)
    have hl : treeB ls[j] = true := ht _ (List.getElem_mem _)
    rw [catSt_take (by omega), sumLen_take (by omega)]
    simp only [List.length_append, List.length_cons, List.length_nil, sub_length]
    rw [tree_size ((treeB_iff _).1 hl)]
    omega
/-- What is refused of patterns that are put together; the nodes that come out. -/
def madeE (ls : List (List Nd)) : Int := if 256 < ls.length then 4 else if ls.all treeB then (if 256 < 1 + sumLen ls then 4 else 0) else 40
def madeN (kind : Int) (ls : List (List Nd)) : List Nd := if madeE ls = 0 then ⟨kind, 0, 0, 0, (catSt ls).1⟩ :: (catSt ls).2 else []
theorem madeE_many {ls : List (List Nd)} (h : 256 < ls.length) : madeE ls = 4 := by unfold madeE; rw [if_pos h]
theorem madeE_tree {ls : List (List Nd)} (h : ls.length ≤ 256) {j : Nat} (hj : j < ls.length) (ht : treeB ls[j] = false) : madeE ls = 40 := by
  have : ls.all treeB = false := by
    rw [List.all_eq_false]
    exact ⟨_, List.getElem_mem hj, by rw [ht]; simp⟩
  unfold madeE
  rw [if_neg (by omega), if_neg (by rw [this]; simp)]
theorem madeE_sum {ls : List (List Nd)} (h : ls.length ≤ 256) (ht : ∀ l ∈ ls, treeB l = true) (hs : 256 < 1 + sumLen ls) : madeE ls = 4 := by
  have : ls.all treeB = true := List.all_eq_true.2 ht
  unfold madeE
  rw [if_neg (by omega), if_pos this, if_pos hs]
theorem madeE_ok {ls : List (List Nd)} (h : ls.length ≤ 256) (ht : ∀ l ∈ ls, treeB l = true) (hs : 1 + sumLen ls ≤ 256) : madeE ls = 0 := by
  have : ls.all treeB = true := List.all_eq_true.2 ht
  unfold madeE
  rw [if_neg (by omega), if_pos this, if_neg (by omega)]
theorem madeN_ok {kind : Int} {ls : List (List Nd)} (h : madeE ls = 0) : madeN kind ls = ⟨kind, 0, 0, 0, (catSt ls).1⟩ :: (catSt ls).2 := by unfold madeN; rw [if_pos h]
theorem madeN_bad {kind : Int} {ls : List (List Nd)} (h : madeE ls ≠ 0) : madeN kind ls = [] := by unfold madeN; rw [if_neg h]
end Go.Proofs.YtimhlnndobfehaaDoor
namespace Go.Proofs.YtimhlnndobfehaaDoor
open Go.RowKit
set_option linter.unusedVariables false

theorem pat_at {w : World} {lo hi k : Nat} {A : Option Addr} {ls : List (List Nd)} (h : Sl 1 vPat w lo hi A ls) (hk : k < ls.length) :
    ∃ b off B c, A = some ⟨b, off, none⟩ ∧ lo ≤ b ∧ b < hi ∧ Cel w b (off + k) (.slice B ls[k].length c) ∧ ls[k].length ≤ c ∧ c ≤ maxLen ∧ Sl 5 vNd w lo hi B ls[k] := by
  obtain ⟨b, off, cs, e, h1, h2, _, h4, B, c, e4, hl, hm, hs⟩ := h.at_ hk
  subst e4
  have := h4 0 _ rfl
  simp only [Nat.mul_one, Nat.add_zero] at this
  exact ⟨b, off, B, c, e, h1, h2, this, hl, hm, hs⟩
theorem Nodes.one (w : World) (x : Nd) (hx : x.kids = []) (hk : kinNd x) : Nodes (w.alloc (.cells #[.int .u8 x.kind, .int .i32 x.rune, .int .u32 x.plus, .int .u32 x.minus, .slice none 0 0] 44)) w.heap.size (.slice (some ⟨w.heap.size, 0, none⟩) 1 1) [(x, .slice none 0 0)] := by
  refine ⟨⟨rfl, .inr ⟨w.heap.size, 1, #[.int .u8 x.kind, .int .i32 x.rune, .int .u32 x.plus, .int .u32 x.minus, .slice none 0 0], rfl, Nat.le_refl _, Row.new w 44 [.int .u8 x.kind, .int .i32 x.rune, .int .u32 x.plus, .int .u32 x.minus, .slice none 0 0], Nat.le_refl _, by unfold maxLen; omega, rfl, rfl⟩⟩, fun i y u hi => ?_, fun i y u g hi hg => ?_, fun i j y u z t g hi hj _ _ => ?_⟩
  · match i, hi with
    | 0, hi =>
      simp only [List.getElem?_cons_zero, Option.some.injEq, Prod.mk.injEq] at hi
      obtain ⟨rfl, rfl⟩ := hi
      rw [hx]
      exact ⟨World.ownsRow_nil _ _ _ _, hk⟩
  · match i, hi with
    | 0, hi =>
      simp only [List.getElem?_cons_zero, Option.some.injEq, Prod.mk.injEq] at hi
      obtain ⟨rfl, rfl⟩ := hi
      simp [Value.ownBlock] at hg
  · match i, j, hi, hj with
    | 0, 0, _, _ => rfl

def MadeSt (w : World) (kind : Int) (ls : List (List Nd)) (k : Nat) (v : Value) (wr : World) : Prop :=
  ∃ u es2, Row wr w.heap.size 28 [.slice none 0 0] ∧ Nodes wr w.heap.size v ((⟨kind, 0, 0, 0, (catSt (ls.take k)).1⟩, u) :: es2) ∧ es2.map Prod.fst = (catSt (ls.take k)).2 ∧ Below w.heap.size w wr
def TestSt (w : World) (ls : List (List Nd)) (k : Nat) (wr : World) : Prop :=
  (∀ l ∈ ls.take k, treeB l = true) ∧ sumLen (ls.take k) ≤ 256 * k ∧ Row wr w.heap.size 28 [.slice none 0 0] ∧ Below w.heap.size w wr
theorem TestSt.step {w wr wr' : World} {ls : List (List Nd)} {k : Nat} (h : TestSt w ls k wr) (hk : k < ls.length) (ht : treeB ls[k] = true) (hb : Below wr.heap.size wr wr') : TestSt w ls (k + 1) wr' := by
  obtain ⟨h1, h2, h3, h4⟩ := h
  refine ⟨fun l hl => ?_, ?_, h3.below hb h3.lt, h4.trans (hb.mono h4.size)⟩
  · rw [List.take_succ_eq_append_getElem hk, List.mem_append] at hl
    rcases hl with hl | hl
    · exact h1 l hl
    · rw [List.mem_singleton.1 hl]; exact ht
  · rw [sumLen_take hk]
    have := ((treeB_iff _).1 ht).max
    omega

set_option maxHeartbeats 8000000 in
set_option maxRecDepth 100000 in
theorem made_any (kind : Int) (hkk : kin .u8 kind) (AL : Option Addr) (cL lo hi : Nat) (ls : List (List Nd)) (w : World) (hm : ls.length ≤ 9223372036854775807) (hhi : hi ≤ w.heap.size) (hsl : Sl 1 vPat w lo hi AL ls) :
    Calls Tryd.prog 50 #[.int .u8 kind, .slice AL ls.length cL] w fun e w' => ∃ v, e = .returned (.tuple #[v, .int .i64 (madeE ls)]) ∧ PatRes w w' v (madeN kind ls) := by
  have hb0 : Below w.heap.size w (w.alloc (.cells #[.slice none 0 0] 28)) := (Below.refl _ _).alloc (Nat.le_refl _) _
  have hr0 : Row (w.alloc (.cells #[.slice none 0 0] 28)) w.heap.size 28 [.slice none 0 0] := Row.new w _ _
  have hfail : ∀ (e : Int) (wr : World), madeE ls = e → e ≠ 0 → Below w.heap.size w wr → PatRes w (wr.setCell ⟨w.heap.size, 0, none⟩ (.slice none 0 0)) (.agg #[.slice none 0 0]) (madeN kind ls) := by
    intro e wr h1 h2 h3
    rw [madeN_bad (by rw [h1]; exact h2)]
    exact PatRes.nothing (h3.setCell (Nat.le_refl _) _)
  by_cases hbig : 256 < ls.length
  · have hE := Lib.hid (madeE_many hbig)
    go_enter Tryd.func50, Tryd.ntmps50
    go_wp2_with fail
    refine bodyPost_ret (res_cell_tmp rfl _ _ w.heap.size _ rfl hr0) rfl ?_
    refine ⟨_, by rw [hE.out]; rfl, ?_⟩
    rw [madeN_bad (by rw [hE.out]; decide)]
    exact PatRes.nothing hb0
  · have hle : ls.length ≤ 256 := by omega
    go_enter Tryd.func50, Tryd.ntmps50
    go_wp2_with fail
    go_loopw [6, 18] (fun m i wr => ∃ k : Nat, k ≤ ls.length ∧ i = .int .i64 k ∧ m = .int .i64 (1 + (sumLen (ls.take k) : Int)) ∧ TestSt w ls k wr) (fun _ i _ => ls.length - (intOf i).toNat)
    case atStart =>
      exact ⟨0, by omega, rfl, rfl, by simp, by simp [sumLen], hr0, hb0⟩
    case round =>
      obtain ⟨k, hk, rfl, rfl, hst⟩ := hrel
      by_cases hlt : k < ls.length
      · have hst' := hst
        obtain ⟨_, hs2, hr, hbw⟩ := hst'
        have hbs := hbw.size
        obtain ⟨b, off, B, cc, rfl, _, hb, ⟨c0, f0⟩, hkl, hkc, hks⟩ := pat_at (hsl.below vPat_good hbw hhi) hlt
        have hstep := Lib.hid (fun (ht : treeB ls[k] = true) wr' => hst.step (wr' := wr') hlt ht)
        have hbad := Lib.hid (fun (ht : treeB ls[k] = false) => madeE_tree hle hlt ht)
        have hsum := sumLen_take hlt
        generalize hN : sumLen (ls.take k) = N at *
        generalize hN2 : sumLen (ls.take (k + 1)) = N2 at *
        have hgood : treeB ls[k] = true → ls[k].length ≤ 256 := fun ht => ((treeB_iff _).1 ht).max
        generalize ls[k] = x at *
        have hxm : x.length ≤ 9223372036854775807 := by unfold maxLen at hkc; omega
        have hba : Below wr.heap.size wr (wr.alloc (.cells #[.slice B x.length cc] 28)) := (Below.refl _ _).alloc (Nat.le_refl _) _
        have hbox := Row.new wr 28 [.slice B x.length cc]
        go_wp2_with fail
        refine (tree_any B cc lo hi x _ hxm (by have := hba.size; omega) (hks.below vNd_good hba (by omega))).mono ?_
        rintro e w1 ⟨rfl, hb1⟩
        have hbox1 := hbox.below hb1 hbox.lt
        have hb01 := hba.trans (hb1.mono hba.size)
        have hr1 := hr.below hb01 hr.lt
        obtain ⟨cb, fb⟩ := hbox1.cel (i := 0) rfl
        obtain ⟨cr, fr⟩ := hr1.cel (i := 0) rfl
        clear hbox hbox1 c0 f0
        cases ht : treeB x with
        | false =>
          have hE := Lib.hid (hbad.out ht)
          have hfin := hfail 40 w1 hE.out (by decide) (hbw.trans (hb01.mono hbs))
          go_wp2_with fail
          refine bodyPost_ret (res_cell_tmp rfl _ _ w.heap.size _ rfl (hr1.set_ 0 _)) rfl ?_
          exact ⟨_, by rw [hE.out]; rfl, hfin⟩
        | true =>
          have hS := hstep.out ht w1 hb01
          have hx2 := hgood ht
          clear hgood hbad hstep
          go_wp2_with fail
          exact ⟨⟨k + 1, by omega, by go_num, by rw [hN2]; go_num, hS⟩, by simp [intOf]; omega⟩
      · obtain rfl : k = ls.length := by omega
        obtain ⟨hall, hs2, hr, hbw⟩ := hst
        rw [List.take_length] at hall hs2 ⊢
        obtain ⟨cr, fr⟩ := hr.cel (i := 0) rfl
        have hbs := hbw.size
        by_cases hsum : 256 < 1 + sumLen ls
        · have hE := Lib.hid (madeE_sum hle hall hsum)
          have hfin := hfail 4 wr hE.out (by decide) hbw
          generalize sumLen ls = N at *
          clear hall
          go_wp2_with fail
          refine bodyPost_ret (res_cell_tmp rfl _ _ w.heap.size _ rfl (hr.set_ 0 _)) rfl ?_
          exact ⟨_, by rw [hE.out]; rfl, hfin⟩
        · have hE := Lib.hid (madeE_ok hle hall (by omega))
          have hOK := Lib.hid (madeN_ok (kind := kind) hE.out)
          have hst0 : MadeSt w kind ls 0 (.slice (some ⟨wr.heap.size, 0, none⟩) 1 1) (wr.alloc (.cells #[.int .u8 kind, .int .i32 0, .int .u32 0, .int .u32 0, .slice none 0 0] 44)) := by
            refine ⟨.slice none 0 0, [], hr.alloc _, (Nodes.one wr ⟨kind, 0, 0, 0, []⟩ rfl ⟨hkk, by rfl, by rfl, by rfl, by simp⟩).low hbs, by simp [catSt], hbw.alloc hbs _⟩
          have hlen := catSt_len hall
          have hS : sumLen ls ≤ 255 := by omega
          have hcl : Hid (∀ j, j ≤ ls.length → (catSt (ls.take j)).2.length = sumLen (ls.take j) ∧ (catSt (ls.take j)).1.length = j ∧ sumLen (ls.take j) ≤ 255) := fun j hj => ⟨(hlen j hj).1, (hlen j hj).2, by have := sumLen_le ls j; omega⟩
          have hAll := Lib.hid hall
          clear hlen hall
          generalize sumLen ls = N at *
          go_wp2_with fail
          go_loopw [9, 40] (fun v i wr => ∃ k : Nat, k ≤ ls.length ∧ i = .int .i64 k ∧ MadeSt w kind ls k v wr) (fun _ i _ => ls.length - (intOf i).toNat)
          case atStart => exact ⟨0, by omega, rfl, hst0⟩
          case round =>
            obtain ⟨k, hk, rfl, hst⟩ := hrel
            obtain ⟨u, es2, hr2, hn2, he2, hb2⟩ := hst
            have hbs2 := hb2.size
            clear cr fr
            obtain ⟨cr, fr⟩ := hr2.cel (i := 0) rfl
            by_cases hlt : k < ls.length
            · obtain ⟨i0, hi0, hz0, hz1, hz2⟩ := info_parts int_info
              obtain ⟨b, off, B, cc, rfl, _, hb, ⟨c0, f0⟩, hkl, hkc, hks⟩ := pat_at (hsl.below vPat_good hb2 hhi) hlt
              have htree : IsTree ls[k] := (treeB_iff _).1 (hAll.out _ (List.getElem_mem hlt))
              have hnext := Lib.hid (catSt_take hlt)
              have hck := hcl.out k (by omega)
              have hpos := htree.pos
              have hmax := htree.max
              generalize hkd : (catSt (ls.take k)).1 = kd at *
              generalize hl2 : (catSt (ls.take k)).2 = l2 at *
              generalize ls[k] = x at *
              have hkdl : kd.length = k := hck.2.1
              have hes2 : es2.length = l2.length := by rw [← he2, List.length_map]
              have hrow := hn2.row
              obtain ⟨L, hL⟩ : ∃ L, L = (((⟨kind, 0, 0, 0, kd⟩ : Nd), u) :: es2).length := ⟨_, rfl⟩
              rw [← hL] at hrow
              have hL2 : L = 1 + l2.length := by rw [hL, List.length_cons, hes2]; omega
              have hLm : L ≤ 256 := by omega
              obtain ⟨g, cv, rfl, hc1, hc2, hg1, hg2⟩ := own_pos hrow (by omega)
              have hget : (((⟨kind, 0, 0, 0, kd⟩ : Nd), u) :: es2)[0]? = some ((⟨kind, 0, 0, 0, kd⟩ : Nd), u) := rfl
              have hkid := hn2.kid _ _ _ hget
              obtain ⟨Au, cu, rfl, hcu1, hcu2⟩ := own_form hkid.1
              obtain ⟨cq, fq⟩ := hn2.cel hL hget 4 (by decide)
              simp only [ndCells, Nat.zero_mul, Nat.zero_add, List.getD_cons_succ, List.getD_cons_zero] at cq fq
              have hba : Below wr.heap.size wr ((wr.alloc (.cells #[.slice B x.length cc] 28)).alloc (.cells #[.int .i64 (L : Int)] 3)) := ((Below.refl _ _).alloc (Nat.le_refl _) _).alloc (by simp) _
              have hbox : Row ((wr.alloc (.cells #[.slice B x.length cc] 28)).alloc (.cells #[.int .i64 (L : Int)] 3)) wr.heap.size 28 [.slice B x.length cc] := (Row.new wr _ _).alloc _
              have hnI : Row ((wr.alloc (.cells #[.slice B x.length cc] 28)).alloc (.cells #[.int .i64 (L : Int)] 3)) (wr.heap.size + 1) 3 [.int .i64 (L : Int)] := by
                have h := Row.new (wr.alloc (.cells #[.slice B x.length cc] 28)) 3 [.int .i64 (L : Int)]
                simpa using h
              have hnW := hn2.below hba
              have hrW := hr2.below hba hr2.lt
              have hownW := (hnW.kid _ _ _ hget).1
              have hnews := hnI.news
              have hone : ∀ u ∈ [Value.int .i64 (L : Int)], u.oneCell' = true := by intro u hu; rw [List.mem_singleton.1 hu]; rfl
              have h63 : kd.length + 1 ≤ maxLen := by unfold maxLen; omega
              have hby : (kd.length + 1) * 8 ≤ 140737488355328 := by omega
              have hloW : w.heap.size ≤ ((wr.alloc (.cells #[.slice B x.length cc] 28)).alloc (.cells #[.int .i64 (L : Int)] 3)).heap.size := by have := hba.size; omega
              have hgW : g < ((wr.alloc (.cells #[.slice B x.length cc] 28)).alloc (.cells #[.int .i64 (L : Int)] 3)).heap.size := by have := hba.size; omega
              have hWs : ((wr.alloc (.cells #[.slice B x.length cc] 28)).alloc (.cells #[.int .i64 (L : Int)] 3)).heap.size = wr.heap.size + 2 := by simp
              have HL := Lib.hid hL
              have HL2 := Lib.hid hL2
              have HKD := Lib.hid hkdl
              have HES := Lib.hid hes2
              have HE2 := Lib.hid he2
              have HCK := Lib.hid hck
              have HWS := Lib.hid hWs
              have HK1 := Lib.hid hkd
              have HK2 := Lib.hid hl2
              have hLp : 1 ≤ L := by omega
              have hkdm : kd.length ≤ 256 := by omega
              clear hL hL2 hkdl hes2 he2 hck hWs hget hkd hl2
              go_wp2_with (at_builtin; refine wpList_append_lies _ rfl _ _ 42 rfl w.heap.size 3 i0 (.int .i64 0) 1 8 Tryd.underlying42 hi0 hz0 hz1 hz2 rfl (by decide) (.slice Au kd.length cu) kd.length (kd.map (Value.int .i64)) rfl hownW ⟨wr.heap.size + 1, 0, none⟩ 1 1 [.int .i64 (L : Int)] rfl rfl hnews hone (by decide) h63 hby hloW _ rfl ?_)
              intro g5 cap5 w5 hown5 hgr5 hat5 hlt5
              generalize hWW : ((wr.alloc (.cells #[.slice B x.length cc] 28)).alloc (.cells #[.int .i64 (L : Int)] 3)) = W at *
              have hb5 : w5.heap[g]? = W.heap[g]? := hgr5.block g hgW (fun e => hnW.far 0 _ _ g rfl e.symm rfl)
              obtain ⟨cqW, fqW⟩ := hnW.cel HL.out (i := 0) rfl 4 (by decide)
              simp only [ndCells, Nat.zero_mul, Nat.zero_add, List.getD_cons_succ, List.getD_cons_zero] at cqW fqW
              have cq5 : w5.cell? ⟨g, 4, none⟩ = some (.slice Au kd.length cu) := (World.cell?_of_block (a := ⟨g, 4, none⟩) hb5).trans cqW
              have fq5 : w5.frozen? ⟨g, 4, none⟩ = false := (World.frozen?_of_block (a := ⟨g, 4, none⟩) hb5).trans fqW
              have hkm := hnW.kid_more (i := 0) (k := (L : Int)) (g := g) rfl rfl hgr5 hown5 (kin_mk64 (by omega)) (by
                rcases hat5 with h | h
                · exact .inl h.symm
                · exact .inr (by show some g5 = _; rw [h, HWS.out]))
              simp only [Nat.zero_mul, Nat.zero_add, List.set_cons_zero] at hkm
              have hbox5 := hbox.grown hgr5 (fun e => row_ne_own hbox hownW (by decide) e.symm)
              have hr5 := hrW.grown hgr5 (fun e => row_ne_own hrW hownW (by decide) e.symm)
              have hbox6 := hbox5.far (p := ⟨g, 4, none⟩) (by show wr.heap.size ≠ g; omega) (.slice (some ⟨g5, 0, none⟩) (kd.length + 1) cap5)
              have hr6 := hr5.far (p := ⟨g, 4, none⟩) (by have := row_ne_own hrW hnW.row (by decide); intro e; exact this (by rw [e]; rfl)) (.slice (some ⟨g5, 0, none⟩) (kd.length + 1) cap5)
              have hbw6 : Below w.heap.size wr (w5.setCell ⟨g, 4, none⟩ (.slice (some ⟨g5, 0, none⟩) (kd.length + 1) cap5)) := ((hba.mono hbs2).grown hgr5 hloW (fun j hj => (hownW.lt j hj).1)).setCell hg1 _
              obtain ⟨cb6, fb6⟩ := hbox6.cel (i := 0) rfl
              have hs6 := hbw6.size
              have hcall := walked_any false (c := cc) (es := (({ kind := kind, rune := 0, plus := 0, minus := 0, kids := kd ++ [(L : Int)] } : Nd), .slice (some ⟨g5, 0, none⟩) (kd.length + 1) cap5) :: es2) (v := .slice (some ⟨g, 0, none⟩) L cv) htree (by rw [List.length_cons, HES.out]; have := HL2.out; omega) (show w.heap.size ≤ _ by omega) ((hks.below vNd_good hbw6 hhi).wide vNd_good (Nat.le_refl _) hhi) hkm
              clear hgr5 hown5 hnW hrW hownW hnews hbox hnI hba hbox5 hbox6 hr5 cqW fqW cq fq
              have hdone : ∀ v7 es7 w7, Nodes w7 w.heap.size v7 ((({ kind := kind, rune := 0, plus := 0, minus := 0, kids := kd ++ [(L : Int)] } : Nd), .slice (some ⟨g5, 0, none⟩) (kd.length + 1) cap5) :: es2 ++ es7) → es7.map Prod.fst = sub x false x.length ((({ kind := kind, rune := 0, plus := 0, minus := 0, kids := kd ++ [(L : Int)] } : Nd), Value.slice (some ⟨g5, 0, none⟩) (kd.length + 1) cap5) :: es2).length 0 → Fr (fun k => (Value.slice (some ⟨g, 0, none⟩) L cv).ownBlock = some k) (w5.setCell ⟨g, 4, none⟩ (.slice (some ⟨g5, 0, none⟩) (kd.length + 1) cap5)) w7 → MadeSt w kind ls (k + 1) v7 w7 := by
                intro v7 es7 w7 hn7 he7 hF7
                have hLL : ((({ kind := kind, rune := 0, plus := 0, minus := 0, kids := kd ++ [(L : Int)] } : Nd), Value.slice (some ⟨g5, 0, none⟩) (kd.length + 1) cap5) :: es2).length = 1 + l2.length := by rw [List.length_cons, HES.out]; omega
                rw [hLL] at he7
                refine ⟨.slice (some ⟨g5, 0, none⟩) (kd.length + 1) cap5, es2 ++ es7, (hF7.block _ hr6.lt (fun e => row_ne_own hr6 hkm.row (by decide) e)).trans hr6, ?_, ?_, (hb2.trans hbw6).trans (hF7.below (fun j hj => ?_) (by omega))⟩
                · rw [hnext.out, ← HL2.out]
                  exact hn7
                · rw [hnext.out, List.map_append, HE2.out, he7]
                · simp only [Value.ownBlock, Option.some.injEq] at hj
                  omega
              clear hkm hnext
              go_wp2_with fail
              refine hcall.mono ?_
              rintro e w7 ⟨v7, es7, rfl, hn7, he7, hF7⟩
              have hfin := hdone v7 es7 w7 hn7 he7 hF7
              clear hdone hcall hn7 he7 hF7
              go_wp2_with fail
              exact ⟨⟨k + 1, by omega, by go_num, hfin⟩, by simp [intOf]; omega⟩
            · obtain rfl : k = ls.length := by omega
              obtain ⟨A', c', rfl, _, _⟩ := own_form hn2.row
              have hfin : PatRes w (wr.setCell ⟨w.heap.size, 0, none⟩ (.slice A' (((⟨kind, 0, 0, 0, (catSt (ls.take ls.length)).1⟩ : Nd), u) :: es2).length c')) (.agg #[.slice A' (((⟨kind, 0, 0, 0, (catSt (ls.take ls.length)).1⟩ : Nd), u) :: es2).length c']) (madeN kind ls) := by
                refine ⟨_, _, rfl, hn2.same fun g hg => Below.heap_setCell _ _ _ g (fun e => ?_), ?_, hb2.setCell (Nat.le_refl _) _⟩
                · simp only at e
                  subst e
                  rcases hg with hg | ⟨i, y, t, hi, hg⟩
                  · exact row_ne_own hr2 hn2.row (by decide) hg
                  · exact row_ne_own hr2 (hn2.kid i y t hi).1 (by decide) hg
                · rw [hOK.out, List.map_cons, he2, List.take_length]
              generalize (((⟨kind, 0, 0, 0, (catSt (ls.take ls.length)).1⟩ : Nd), u) :: es2).length = L at *
              go_wp2_with fail
              refine bodyPost_ret (res_cell_tmp rfl _ _ w.heap.size _ rfl (hr2.set_ 0 _)) rfl ?_
              exact ⟨_, by rw [hE.out]; rfl, hfin⟩
end Go.Proofs.YtimhlnndobfehaaDoor
namespace Go.Proofs.YtimhlnndobfehaaDoor
open Go.RowKit
set_option linter.unusedVariables false

def MadeStR (w : World) (kind : Int) (ls : List (List Nd)) (k : Nat) (v vk : Value) (wr : World) : Prop :=
  ∃ es2, Row wr w.heap.size 28 [.slice none 0 0] ∧ Nodes wr w.heap.size v ((⟨kind, 0, 0, 0, []⟩, .slice none 0 0) :: es2) ∧ es2.map Prod.fst = (catSt (ls.take k)).2 ∧ Below w.heap.size w wr ∧
    wr.ownsRow w.heap.size 3 1 vk (catSt (ls.take k)).1.length ((catSt (ls.take k)).1.map (Value.int .i64)) ∧ (∀ n ∈ (catSt (ls.take k)).1, kin .i64 n) ∧
    ∀ (i : Nat) (y : Nd) (t : Value) (g : Nat), es2[i]? = some (y, t) → t.ownBlock = some g → vk.ownBlock ≠ some g

end Go.Proofs.YtimhlnndobfehaaDoor
namespace Go.Proofs.YtimhlnndobfehaaDoor
open Go.RowKit
set_option linter.unusedVariables false

theorem res_cell_tup {fn : Func} {p q : Tmp} (h : fn.results = #[.cell p 28, .tmp q]) (tmps : Array Value) (w : World) (g : Nat) (u z : Value) (hp : tmps.getD p undef = .pointer (some ⟨g, 0, none⟩)) (hz : tmps.getD q undef = z) (hg : Row w g 28 [u]) :
    (results fn tmps).run Tryd.prog w = .ok (.tuple #[.agg #[u], z]) w := by
  subst hz
  exact res_cell_tmp h tmps w g u hp hg

set_option maxHeartbeats 4000000 in
theorem seq_any (AL : Option Addr) (cL lo hi : Nat) (ls : List (List Nd)) (w : World) (hm : ls.length ≤ 9223372036854775807) (hhi : hi ≤ w.heap.size) (hsl : Sl 1 vPat w lo hi AL ls) :
    Calls Tryd.prog 18 #[.slice AL ls.length cL] w fun e w' => ∃ v, e = .returned (.tuple #[v, .int .i64 (madeE ls)]) ∧ PatRes w w' v (madeN 6 ls) := by
  have hb : Below w.heap.size w (w.alloc (.cells #[.slice none 0 0] 28)) := (Below.refl _ _).alloc (Nat.le_refl _) _
  have hr : Row (w.alloc (.cells #[.slice none 0 0] 28)) w.heap.size 28 [.slice none 0 0] := Row.new w _ _
  have hbs := hb.size
  go_enter Tryd.func18, Tryd.ntmps18
  go_wp2_with fail
  refine (made_any 6 (show (Lit.int .u8 6).wf = true from rfl) AL cL lo hi ls _ hm (by omega) (hsl.below vPat_good hb hhi)).mono ?_
  rintro e w1 ⟨v, rfl, hp⟩
  obtain ⟨u, es, rfl, hp2⟩ := id hp
  obtain ⟨Au, cu, rfl, _, _⟩ := own_form hp2.1.row
  have hfin := hp.up hb (H := w.heap.size) (Nat.le_refl _) hr.lt (.slice Au es.length cu)
  have hr1 := hr.below hp2.2.2 hr.lt
  obtain ⟨c1, f1⟩ := hr1.cel (i := 0) rfl
  clear hp hp2 hr hbs
  go_wp2_with fail
  (try simp only [Exit.inBlock, Exit.then])
  refine bodyPost_ret (res_cell_tup (z := .int .i64 (madeE ls)) rfl _ _ w.heap.size _ rfl rfl (hr1.set_ 0 _)) rfl ?_
  exact ⟨_, rfl, hfin⟩

set_option maxHeartbeats 4000000 in
theorem or_any (AL : Option Addr) (cL lo hi : Nat) (ls : List (List Nd)) (w : World) (hm : ls.length ≤ 9223372036854775807) (hhi : hi ≤ w.heap.size) (hsl : Sl 1 vPat w lo hi AL ls) :
    Calls Tryd.prog 22 #[.slice AL ls.length cL] w fun e w' => ∃ v, e = .returned (.tuple #[v, .int .i64 (madeE ls)]) ∧ PatRes w w' v (madeN 7 ls) := by
  have hb : Below w.heap.size w (w.alloc (.cells #[.slice none 0 0] 28)) := (Below.refl _ _).alloc (Nat.le_refl _) _
  have hr : Row (w.alloc (.cells #[.slice none 0 0] 28)) w.heap.size 28 [.slice none 0 0] := Row.new w _ _
  have hbs := hb.size
  go_enter Tryd.func22, Tryd.ntmps22
  go_wp2_with fail
  refine (made_any 7 (show (Lit.int .u8 7).wf = true from rfl) AL cL lo hi ls _ hm (by omega) (hsl.below vPat_good hb hhi)).mono ?_
  rintro e w1 ⟨v, rfl, hp⟩
  obtain ⟨u, es, rfl, hp2⟩ := id hp
  obtain ⟨Au, cu, rfl, _, _⟩ := own_form hp2.1.row
  have hfin := hp.up hb (H := w.heap.size) (Nat.le_refl _) hr.lt (.slice Au es.length cu)
  have hr1 := hr.below hp2.2.2 hr.lt
  obtain ⟨c1, f1⟩ := hr1.cel (i := 0) rfl
  clear hp hp2 hr hbs
  go_wp2_with fail
  (try simp only [Exit.inBlock, Exit.then])
  refine bodyPost_ret (res_cell_tup (z := .int .i64 (madeE ls)) rfl _ _ w.heap.size _ rfl rfl (hr1.set_ 0 _)) rfl ?_
  exact ⟨_, rfl, hfin⟩

set_option maxHeartbeats 4000000 in
theorem star_any (A : Option Addr) (c lo hi : Nat) (ns : List Nd) (w : World) (hc : ns.length ≤ c) (hcm : c ≤ maxLen) (hlo : lo ≤ w.heap.size) (hhi : hi ≤ w.heap.size) (hsl : Sl 5 vNd w lo hi A ns) :
    Calls Tryd.prog 20 #[.agg #[.slice A ns.length c]] w fun e w' => ∃ v, e = .returned (.tuple #[v, .int .i64 (madeE [ns])]) ∧ PatRes w w' v (madeN 8 [ns]) := by
  have hb : Below w.heap.size w (((w.alloc (.cells #[.slice A ns.length c] 28)).alloc (.cells #[.slice none 0 0] 28)).alloc (.cells #[.slice A ns.length c] 28)) := (((Below.refl _ _).alloc (Nat.le_refl _) _).alloc (by simp) _).alloc (by simp; omega) _
  have hr : Row (((w.alloc (.cells #[.slice A ns.length c] 28)).alloc (.cells #[.slice none 0 0] 28)).alloc (.cells #[.slice A ns.length c] 28)) (w.heap.size + 1) 28 [.slice none 0 0] := by
    have h := Row.new (w.alloc (.cells #[.slice A ns.length c] 28)) 28 [.slice none 0 0]
    simp only [World.size_alloc] at h
    exact h.alloc _
  have hrn : Row (((w.alloc (.cells #[.slice A ns.length c] 28)).alloc (.cells #[.slice none 0 0] 28)).alloc (.cells #[.slice A ns.length c] 28)) (w.heap.size + 1 + 1) 28 [.slice A ns.length c] := by
    have h := Row.new ((w.alloc (.cells #[.slice A ns.length c] 28)).alloc (.cells #[.slice none 0 0] 28)) 28 [.slice A ns.length c]
    simp only [World.size_alloc] at h
    exact h
  have hbs := hb.size
  have hl := hrn.lt
  have hs1 : Sl 1 vPat (((w.alloc (.cells #[.slice A ns.length c] 28)).alloc (.cells #[.slice none 0 0] 28)).alloc (.cells #[.slice A ns.length c] 28)) lo (w.heap.size + 3) (some ⟨w.heap.size + 1 + 1, 0, none⟩) [ns] := by
    refine hrn.sl rfl (by omega) (by omega) (fun i x v hx hv => ?_)
    match i, hx, hv with
    | 0, hx, hv =>
      simp only [List.getElem?_cons_zero, Option.some.injEq] at hx hv
      subst hx hv
      exact ⟨A, c, rfl, hc, hcm, (hsl.below vNd_good hb hhi).wide vNd_good (Nat.le_refl _) (by omega)⟩
  have hz : w.heap.size + 3 ≤ (((w.alloc (.cells #[.slice A ns.length c] 28)).alloc (.cells #[.slice none 0 0] 28)).alloc (.cells #[.slice A ns.length c] 28)).heap.size := by omega
  have hcall := made_any 8 (show (Lit.int .u8 8).wf = true from rfl) (some ⟨w.heap.size + 1 + 1, 0, none⟩) 1 lo (w.heap.size + 3) [ns] _ (by simp) hz hs1
  clear hrn hl hs1 hz
  go_enter Tryd.func20, Tryd.ntmps20
  go_wp2_with fail
  refine hcall.mono ?_
  rintro e w1 ⟨v, rfl, hp⟩
  obtain ⟨u, es, rfl, hp2⟩ := id hp
  obtain ⟨Au, cu, rfl, _, _⟩ := own_form hp2.1.row
  have hfin := hp.up hb (H := w.heap.size + 1) (by omega) hr.lt (.slice Au es.length cu)
  have hr1 := hr.below hp2.2.2 hr.lt
  obtain ⟨c1, f1⟩ := hr1.cel (i := 0) rfl
  clear hp hp2 hr hbs hcall
  go_wp2_with fail
  (try simp only [Exit.inBlock, Exit.then])
  refine bodyPost_ret (res_cell_tup (z := .int .i64 (madeE [ns])) rfl _ _ (w.heap.size + 1) _ rfl rfl (hr1.set_ 0 _)) rfl ?_
  exact ⟨_, rfl, hfin⟩

end Go.Proofs.YtimhlnndobfehaaDoor
