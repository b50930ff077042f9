/- The document's longest; All. -/
import Derived.Test.YtimhlnndobfehaaGreatDoorMs05
import Derived.Test.YtimhlnndobfehaaGreatDoorMd25
namespace Go.Proofs.YtimhlnndobfehaaGreatDoor
open Go.RowKit
open Go.Lib (Utf8Tabs)
set_option linter.unusedVariables false

/-- The last place of a set that is known above. -/
theorem sorted_last {l : List Nat} (hs : l.Pairwise (· < ·)) {k : Nat} (hk : k ∈ l) (hm : ∀ x ∈ l, x ≤ k) : l.getLast? = some k := by
  have hne : l ≠ [] := List.ne_nil_of_mem hk
  have h1 := hm _ (List.getLast_mem hne)
  have e := List.dropLast_concat_getLast hne
  rw [List.getLast?_eq_some_getLast hne]
  rw [← e] at hk hs
  rcases List.mem_append.1 hk with h | h
  · have := (List.pairwise_append.1 hs).2.2 k h (l.getLast hne) (by simp)
    omega
  · rw [List.mem_singleton] at h
    rw [← h]
/-- The greatest place to which it lies from one; -1: none. -/
def lastI (ns : List Nd) (L : List Lt) (i : Nat) : Int := match (endsL ns L 0 i).getLast? with
  | none => -1
  | some t => (t : Int)
theorem last_at {ns : List Nd} {L : List Lt} {i k : Nat} (h : (fromS ns L i).getD k false = true) (ha : ∀ j, k < j → (fromS ns L i).getD j false = false) : lastI ns L i = (k : Int) := by
  unfold lastI
  rw [sorted_last (ends_sorted ns L 0 i) (mem_from.2 h) fun x hx => by
    have h1 := mem_from.1 hx
    rcases Nat.lt_or_ge k x with hlt | hge
    · rw [ha x hlt] at h1; cases h1
    · exact hge]
theorem last_no {ns : List Nd} {L : List Lt} {i : Nat} (ha : ∀ j, (fromS ns L i).getD j false = false) : lastI ns L i = -1 := by
  have : endsL ns L 0 i = [] := by
    rw [List.eq_nil_iff_forall_not_mem]
    intro x hx
    have h1 := mem_from.1 hx
    rw [ha x] at h1
    cases h1
  unfold lastI
  rw [this]
  rfl
section
variable {A1 A2 An AD : Option Addr} {c1 c2 cn cl : Nat} {a : Al} {ns : List Nd} {ls : List Int}
set_option maxHeartbeats 8000000 in
set_option maxRecDepth 100000 in
theorem rlongest_any (ht : IsTree ns) {i : Nat} (hi : i ≤ ls.length) {w : World} (hE : StE A1 A2 An AD a ns ls w) :
    Calls Tryz.prog 68 #[.agg #[.slice A1 a.feats.length c1, .slice A2 a.lets.length c2], .agg #[.slice An ns.length cn], .slice AD ls.length cl, .int .i64 (i : Int)] w fun e w' => e = .returned (.int .i64 (lastI ns (matL a ls) i)) ∧ Below w.heap.size w w' := by
  obtain ⟨W2, hW2⟩ : ∃ W2, W2 = (w.alloc (.cells #[.slice A1 a.feats.length c1, .slice A2 a.lets.length c2] 25)).alloc (.cells #[.slice An ns.length cn] 28) := ⟨_, rfl⟩
  have hal : Below w.heap.size w W2 := by rw [hW2]; exact ((Below.refl _ _).alloc (Nat.le_refl _) _).alloc (by simp) _
  have hl64 := hE.len
  have HF := Lib.hid (rfrom_any (cn := cn) (c1 := c1) (c2 := c2) (cl := cl) (tree_nodes ht) ht.pos hi (hE.on hal))
  have HLN := Lib.hid (show (fromS ns (matL a ls) i).length = ls.length + 1 by rw [fromS_len, matL_len])
  have HAT := Lib.hid (fun k => last_at (ns := ns) (L := matL a ls) (i := i) (k := k))
  have HNO := Lib.hid (last_no (ns := ns) (L := matL a ls) (i := i))
  have HAB : Hid (∀ j, ls.length < j → (fromS ns (matL a ls) i).getD j false = false) := fun j hj => by
    rw [List.getD_eq_getElem?_getD, List.getElem?_eq_none (by rw [HLN.out]; omega)]
    rfl
  have HAL := Lib.hid hal
  clear hal hE ht
  generalize lastI ns (matL a ls) i = R at *
  generalize fromS ns (matL a ls) i = S at *
  obtain ⟨n, hn⟩ : ∃ n, n = ls.length + 1 := ⟨_, rfl⟩
  rw [← hn] at HF HLN
  have HN := Lib.hid hn
  have hn2 : n ≤ 65 := by omega
  clear hn
  go_enter Tryz.func68, Tryz.ntmps68
  go_wp2_with fail
  rw [← hW2]
  clear hW2
  refine HF.out.mono ?_
  rintro e w1 ⟨g, rfl, hg, hrow, hb1⟩
  have HROW := Lib.hid hrow
  have hgl := hrow.lt
  have HB := Lib.hid (HAL.out.trans (hb1.mono HAL.out.size))
  clear hrow hb1 HF
  go_wp2_with fail
  go_loopw [10] (fun x wr => wr = w1 ∧ ∃ k : Int, x = .int .i64 k ∧ -1 ≤ k ∧ k ≤ (ls.length : Int) ∧ Hid (∀ j : Nat, k < (j : Int) → S.getD j false = false)) (fun x _ => (intOf x + 1).toNat)
  case atStart => exact ⟨rfl, (ls.length : Int), rfl, by omega, by omega, fun j hj => HAB.out j (by omega)⟩
  case round =>
    obtain ⟨rfl, k, rfl, hk1, hk2, hab⟩ := hrel
    by_cases h0 : 0 ≤ k
    · obtain ⟨q, rfl⟩ := Int.eq_ofNat_of_zero_le h0
      have hqn : q < n := by have := HN.out; omega
      have j1 : (q : Int) < (n : Int) := by omega
      have hck := (HROW.out.cel (i := q) (by rw [HLN.out]; exact hqn)).1
      cases hx : S.getD q false with
      | true =>
        rw [hx] at hck
        have HR := Lib.hid (HAT.out q hx (fun j hj => hab.out j (by omega)))
        clear hx hab HAB
        go_wp2_with fail
        go_ret
        exact ⟨by rw [HR.out]; rfl, HB.out⟩
      | false =>
        rw [hx] at hck
        have HAB2 : Hid (∀ j : Nat, (q : Int) - 1 < (j : Int) → S.getD j false = false) := fun j hj => by
          by_cases e : j = q
          · rw [e]; exact hx
          · exact hab.out j (by omega)
        clear hx hab HAB
        go_wp2_with fail
        exact ⟨⟨trivial, (q : Int) - 1, by go_num, by omega, by omega, HAB2⟩, by simp [intOf]⟩
    · have HR := Lib.hid (HNO.out (fun j => hab.out j (by omega)))
      have h1 : k < 0 := by omega
      clear hab HAB
      go_wp2_with fail
      go_ret
      exact ⟨by rw [HR.out]; rfl, HB.out⟩
end
/-- Spans of the call's own, so far. -/
def SpSt (ns : List Nd) (L : List Lt) (W : World) (v x : Value) (wr : World) : Prop :=
  ∃ (i : Nat) (acc : List (Nat × Nat)) (A : Option Addr) (c : Nat), v = .slice A acc.length c ∧ x = .int .i64 (i : Int) ∧ i ≤ L.length + 1 ∧ acc.length ≤ i ∧ Hid (spanL ns L 0 = acc ++ spanL ns L i) ∧ wr.ownsRow W.heap.size 51 2 (.slice A acc.length c) acc.length (spanVs acc) ∧ Below W.heap.size W wr
theorem last_cases (ns : List Nd) (L : List Lt) (i : Nat) (hi : i ≤ L.length) : (lastI ns L i = -1 ∧ spanL ns L i = spanL ns L (i + 1)) ∨ ∃ t : Nat, lastI ns L i = (t : Int) ∧ t ≤ L.length ∧ spanL ns L i = (i, t) :: spanL ns L (max (i + 1) t) := by
  unfold lastI
  cases h : (endsL ns L 0 i).getLast? with
  | none => exact .inl ⟨rfl, span_none hi (List.getLast?_eq_none_iff.1 h)⟩
  | some t => exact .inr ⟨t, rfl, ends_le (List.mem_of_getLast? h), span_some hi h⟩
set_option maxHeartbeats 8000000 in
set_option maxRecDepth 100000 in
theorem rall_any (A1 A2 An : Option Addr) (c1 c2 cn : Nat) (a : Al) (ns : List Nd) (s : ByteArray) (w : World) (hin : AlIn w 0 w.heap.size A1 A2 a) (hT : Utf8Tabs 0 1 w) (hns : Sl 5 vNd w 0 w.heap.size An ns) (hm : ns.length ≤ 9223372036854775807) (hs : s.size ≤ maxLen) :
    Calls Tryz.prog 32 #[.agg #[.slice A1 a.feats.length c1, .slice A2 a.lets.length c2], .agg #[.slice An ns.length cn], .string s] w (SpsOut (allM a ns s) w) := by
  obtain ⟨W2, hW2⟩ : ∃ W2, W2 = (w.alloc (.cells #[.slice A1 a.feats.length c1, .slice A2 a.lets.length c2] 25)).alloc (.cells #[.slice An ns.length cn] 28) := ⟨_, rfl⟩
  have hal : Below w.heap.size w W2 := by rw [hW2]; exact ((Below.refl _ _).alloc (Nat.le_refl _) _).alloc (by simp) _
  have hr0 : Row W2 w.heap.size 25 [.slice A1 a.feats.length c1, .slice A2 a.lets.length c2] := by rw [hW2]; exact (Row.new w _ _).alloc _
  have hr1 : Row W2 (w.heap.size + 1) 28 [.slice An ns.length cn] := by
    have h := Row.new (w.alloc (.cells #[.slice A1 a.feats.length c1, .slice A2 a.lets.length c2] 25)) 28 [.slice An ns.length cn]
    rw [hW2]
    simpa using h
  have HC := Lib.hid (fun (wx : World) (hx : Below W2.heap.size W2 wx) => And.intro (And.intro ((hr0.below hx hr0.lt).cel (i := 0) rfl).1 ((hr0.below hx hr0.lt).cel (i := 1) rfl).1) (And.intro ((hr1.below hx hr1.lt).cel (i := 0) rfl).1 hx.size))
  have HAS := Lib.hid (rasked_any A1 A2 An c1 c2 cn 0 a ns s W2 (hin.on hal) (Utf8Tabs_below hT hal) ((hns.below vNd_good hal (Nat.le_refl _)).wide vNd_good (Nat.le_refl _) hal.size) hm hs)
  have HS : Hid (allM a ns s = if begE a ns s ≠ 0 then ([], begE a ns s) else (spanL ns (matW a s) 0, 0)) := rfl
  have HSK := Lib.hid (askS_err a ns s)
  have HAL := Lib.hid hal
  have HIN := Lib.hid hin
  have HNS := Lib.hid hns
  have hB0 : w.heap.size < W2.heap.size := hr0.lt
  have hB1 : w.heap.size + 1 < W2.heap.size := hr1.lt
  clear hal hr0 hr1 hin hns hT
  generalize allM a ns s = R at *
  by_cases hb : begE a ns s = 0
  · have haz : askS a ns s = ((lettersS a s).1, 0) := Prod.ext (askS_ok hb) ((askS_err a ns s).trans hb)
    rw [haz] at HAS
    have htree : IsTree ns := (beg_zero hb).1
    have hml : matW a s = matL a (lettersS a s).1 := rfl
    have hR : R = (spanL ns (matW a s) 0, 0) := by rw [HS.out, if_neg (by simp [hb])]
    have hLS : ∀ (w5 : World) (A : Option Addr) (c : Nat), Below w.heap.size w w5 → ∀ base, w5.ownsRow base 21 1 (.slice A (lettersS a s).1.length c) (lettersS a s).1.length (runeVs (lettersS a s).1) → StE A1 A2 An A a ns (lettersS a s).1 w5 := fun w5 A c h5 base ho => ask_state hb HIN.out HNS.out h5 ho
    have HLST := Lib.hid hLS
    rw [hml] at hR
    have HR := Lib.hid hR
    have HTR := Lib.hid htree
    clear hb haz hR HS htree hLS HSK hml
    generalize hll : (lettersS a s).1 = ll at *
    clear hll
    go_enter Tryz.func32, Tryz.ntmps32
    go_wp2_with fail
    rw [← hW2]
    clear hW2
    refine HAS.out.mono ?_
    rintro e w1 ⟨A, c, rfl, hown, hb1⟩
    have HB1 := Lib.hid hb1
    obtain ⟨⟨d0, d1⟩, d2, ds⟩ := HC.out w1 hb1
    have HBW := Lib.hid (HAL.out.trans (hb1.mono HAL.out.size))
    have hE := HLST.out w1 A c HBW.out _ hown
    have HE := Lib.hid hE
    have hl64 := hE.len
    have HF := Lib.hid (fun (k : Nat) (hk : k ≤ ll.length) (wx : World) (hx : Below w1.heap.size w1 wx) => rlongest_any (cn := cn) (c1 := c1) (c2 := c2) (cl := c) HTR.out hk (hE.on hx))
    have HLC := Lib.hid (fun k (hk : k ≤ ll.length) => last_cases ns (matL a ll) k (by rw [matL_len]; exact hk))
    have HSE := Lib.hid (fun (k : Nat) (hk : (matL a ll).length < k) => span_end (ns := ns) (L := matL a ll) hk)
    have HML2 := Lib.hid (matL_len a ll)
    have HCX := Lib.hid (fun (wx : World) (hx : Below w1.heap.size w1 wx) => HC.out wx (HB1.out.trans (hx.mono HB1.out.size)))
    have HST : Hid (SpSt ns (matL a ll) w1 (.slice none 0 0) (.int .i64 0) w1) := ⟨0, [], none, 0, rfl, rfl, by omega, by simp, by show _ = _; simp, World.ownsRow_nil _ _ _ _, Below.refl _ _⟩
    clear hb1 hown HAS HLST hE HE d0 d1 d2
    simp only
    obtain ⟨i1, hi1, hy0, hy1, hy2⟩ := info_parts span_info
    go_wp2_with fail
    go_loopw [10, 11] (fun v x wr => SpSt ns (matL a ll) w1 v x wr) (fun _ x _ => ll.length + 2 - (intOf x).toNat)
    case atStart => exact HST.out
    case round =>
      clear HST
      obtain ⟨i, acc, A5, c5, rfl, rfl, hi, hal, hsp, hown, hbw⟩ := hrel
      rw [HML2.out] at hi
      by_cases hlt : i ≤ ll.length
      · obtain ⟨⟨d0, d1⟩, d2, ds⟩ := HCX.out wr hbw
        have hcall := Lib.hid (HF.out i hlt wr hbw)
        have j1 : (i : Int) ≤ (ll.length : Int) := by omega
        have hlc := HLC.out i hlt
        have HOWN := Lib.hid hown
        have HBK := Lib.hid hbw
        clear hown hbw
        rcases hlc with ⟨h1, h2⟩ | ⟨t, h1, ht, h2⟩
        · rw [h1] at hcall
          have HSP : Hid (spanL ns (matL a ll) 0 = acc ++ spanL ns (matL a ll) (i + 1)) := by show _ = _; rw [hsp.out, h2]
          clear h1 h2 hsp
          go_wp2_with fail
          refine hcall.out.mono ?_
          rintro e w5 ⟨rfl, hb5⟩
          have HFIN : Hid (SpSt ns (matL a ll) w1 (.slice A5 acc.length c5) (.int .i64 ((i : Int) + 1)) w5) := ⟨i + 1, acc, A5, c5, rfl, by simp, by rw [HML2.out]; omega, by omega, HSP.out, own_below HOWN.out hb5, HBK.out.trans (hb5.mono HBK.out.size)⟩
          have j9 : max ((i : Int) + 1) (-1) = (i : Int) + 1 := by omega
          clear hb5 hcall HSP HOWN HBK
          go_wp2_with fail
          exact ⟨HFIN.out, by simp [intOf]; omega⟩
        · rw [h1] at hcall
          have HSP : Hid (spanL ns (matL a ll) 0 = (acc ++ [(i, t)]) ++ spanL ns (matL a ll) (max (i + 1) t)) := by show _ = _; rw [hsp.out, h2]; simp
          rw [HML2.out] at ht
          clear h1 h2 hsp
          go_wp2_with fail
          refine hcall.out.mono ?_
          rintro e w5 ⟨rfl, hb5⟩
          have hbw5 := HBK.out.trans (hb5.mono HBK.out.size)
          have ha3 : Below w5.heap.size w5 (w5.alloc (.cells #[.int .i64 (i : Int), .int .i64 (t : Int)] 51)) := (Below.refl _ _).alloc (Nat.le_refl _) _
          have hownA := own_below (own_below HOWN.out hb5) ha3
          have hnews := (Row.new w5 51 [.int .i64 (i : Int), .int .i64 (t : Int)]).news
          have hone : ∀ u ∈ [Value.int .i64 (i : Int), .int .i64 (t : Int)], u.oneCell' = true := by
            intro u hu
            simp only [List.mem_cons, List.not_mem_nil, or_false] at hu
            rcases hu with rfl | rfl <;> rfl
          have h63 : acc.length + 1 ≤ maxLen := by unfold maxLen; omega
          have hby : (acc.length + 1) * 16 ≤ 140737488355328 := by omega
          have hlo : w1.heap.size ≤ (w5.alloc (.cells #[.int .i64 (i : Int), .int .i64 (t : Int)] 51)).heap.size := by have := hbw5.size; have := ha3.size; omega
          have HB5 := Lib.hid hbw5
          have HA3 := Lib.hid ha3
          have HOA := Lib.hid hownA
          clear hb5 hcall HOWN HBK hbw5 ha3
          go_wp2_with (at_builtin; refine wpList_append_lies _ rfl _ _ 54 rfl w1.heap.size 51 i1 (.agg #[.int .i64 0, .int .i64 0]) 2 16 Tryz.underlying54 hi1 hy0 hy1 hy2 rfl (by decide) (.slice A5 acc.length c5) acc.length (spanVs acc) rfl hownA ⟨w5.heap.size, 0, none⟩ 1 1 [.int .i64 (i : Int), .int .i64 (t : Int)] rfl rfl hnews hone (by decide) h63 hby hlo _ rfl ?_)
          intro g cap w6 hown6 hgr6 hat6 hlt6
          have hbw6 : Below w1.heap.size w1 w6 := (HB5.out.trans (HA3.out.mono HB5.out.size)).grown hgr6 (by have := HB5.out.size; have := HA3.out.size; omega) (fun j hj => (HOA.out.lt j hj).1)
          have hfin : SpSt ns (matL a ll) w1 (.slice (some ⟨g, 0, none⟩) (acc.length + 1) cap) (.int .i64 (max ((i : Int) + 1) (t : Int))) w6 := by
            have e1 : (acc ++ [(i, t)]).length = acc.length + 1 := by simp
            rw [show max ((i : Int) + 1) (t : Int) = ((max (i + 1) t : Nat) : Int) by omega, ← e1]
            exact ⟨max (i + 1) t, acc ++ [(i, t)], some ⟨g, 0, none⟩, cap, rfl, rfl, by rw [HML2.out]; omega, by rw [e1]; omega, HSP.out, by rw [e1, spanVs_snoc]; exact hown6, hbw6⟩
          have HFIN := Lib.hid hfin
          clear hfin hbw6 hown6 hgr6 hat6 hlt6 hownA hnews hone HSP HB5 HA3 HOA
          go_wp2_with fail
          exact ⟨HFIN.out, by simp [intOf]; omega⟩
      · have j1 : ¬ (i : Int) ≤ (ll.length : Int) := by omega
        have HFIN : Hid (SpsOut R w (.returned (.tuple #[.slice A5 acc.length c5, .int .i64 0])) wr) := by
          rw [HR.out, hsp.out, HSE.out i (by rw [HML2.out]; omega), List.append_nil]
          exact ⟨A5, c5, rfl, own_low hown HBW.out.size, HBW.out.trans (hbw.mono HBW.out.size)⟩
        clear hown hbw hsp
        go_wp2_with fail
        go_ret2
        exact HFIN.out
  · have hR : R = _ := HS.out.trans (if_pos hb)
    have HR := Lib.hid hR
    have hke := HSK.out
    clear HS hR HSK
    generalize askS a ns s = Z at *
    obtain ⟨zl, ze⟩ := Z
    simp only at hke
    subst hke
    generalize begE a ns s = E at *
    have hne : (E != 0) = true := by rw [bne_iff_ne]; exact hb
    clear hb
    go_enter Tryz.func32, Tryz.ntmps32
    go_wp2_with fail
    rw [← hW2]
    clear hW2
    refine HAS.out.mono ?_
    rintro e w1 ⟨A, c, rfl, hown, hb1⟩
    have HFIN := Lib.hid (SpsOut.no (W := w) HR.out (HAL.out.trans (hb1.mono HAL.out.size)))
    clear hown hb1 HAS
    go_wp2_with fail
    go_ret2
    exact HFIN.out
end Go.Proofs.YtimhlnndobfehaaGreatDoor
