/- slices.SortFunc at rows of letters. slices.Equal at runes; the closure that hands it on. -/
import Derived.Test.YtfjccjjdgbkbiaaDoorWr30
import Derived.Test.YtfjccjjdgbkbiaaDoorWr23
namespace Go.Proofs.YtfjccjjdgbkbiaaDoor
open Go.RowKit Go.Sort
set_option linter.unusedVariables false

set_option maxHeartbeats 2000000 in
theorem sort1_any (A B : Option Addr) (c d : Nat) (l k : List Int) (b bm n : Nat) (F : Lit → Option Int) (w : World) (hm : PtrMap w b bm n F) (hl : RAt w A l) (hk : RAt w B k) (hkl : ∀ x ∈ l, kin .i32 x) (hkk : ∀ x ∈ k, kin .i32 x) (hml : l.length ≤ 4611686018427387904) (hmk : k.length ≤ 4611686018427387904) :
    Calls Tryd.prog 59 #[.slice A l.length c, .slice B k.length d, .pointer (some ⟨b, 0, none⟩)] w fun e w' => e = .returned (.int .i64 (cmpL (rkF F) l k)) ∧ w.alloc (.cells #[.map (some bm)] 65) = w' := by
  have hcon := Lib.hid (compared_any A B c d l k bm n F w hm.2 hl hk hkl hkk hml hmk)
  have hc := hm.1
  generalize cmpL (rkF F) l k = R at *
  clear hm hl hk hkl hkk
  go_enter Tryd.func59, Tryd.ntmps59
  go_wp2_with fail
  refine hcon.out.mono ?_
  rintro e w' ⟨rfl, rfl⟩
  go_wp2_with fail
  go_ret
  exact ⟨rfl, rfl⟩

section
variable {w : World} {enc : Nat → Value} {blk m : Nat} {dk : Array Nat} {os : Array Obj}
theorem sw_block {k : Nat} (hk : k < w.heap.size) (hne : k ≠ blk) : (sortWorld enc w blk 0 m dk os).heap[k]? = w.heap[k]? := by
  unfold sortWorld grow putRow mapBlock
  simp only [heap_ahead]
  rw [Array.getElem?_append_left (by simpa using hk), Array.getElem?_modify, if_neg (fun h => hne h.symm)]
theorem sw_fr : Fr (fun k => k = blk) w (sortWorld enc w blk 0 m dk os) :=
  ⟨rfl, rfl, rfl, by unfold sortWorld; simp, fun k hk hn => sw_block hk hn⟩
theorem sw_own {base c : Nat} {e : TypeId} {xs : List Value} (h : w.ownsRow base e 1 (.slice (some ⟨blk, 0, none⟩) dk.size c) dk.size xs) : (sortWorld enc w blk 0 m dk os).ownsRow base e 1 (.slice (some ⟨blk, 0, none⟩) dk.size c) dk.size (dk.toList.map enc) := by
  have hl := h.1
  refine ⟨by simp, ?_⟩
  rcases h.2 with ⟨hv, _⟩ | ⟨g', cap, cur, hv, hbg, hgg, h1, h2, h3, h4⟩
  · cases hv
  · injection hv with hv1 hv2 hv3
    injection hv1 with hv1
    injection hv1 with hv1
    subst hv1 hv3
    have hlt : blk < w.heap.size := (Array.getElem?_eq_some_iff.1 hgg).1
    refine .inr ⟨blk, c, putCells enc 0 dk cur, rfl, hbg, ?_, h1, h2, by simpa [putCells] using h3, ?_⟩
    · unfold sortWorld grow putRow mapBlock
      simp only [heap_ahead]
      rw [Array.getElem?_append_left (by simpa using hlt), Array.getElem?_modify, if_pos rfl, hgg]
      rfl
    · apply List.ext_getElem?
      intro i
      rw [List.getElem?_take, List.getElem?_map]
      unfold putCells
      simp only [Nat.mul_one, Array.getElem?_toList, Array.getElem?_mapIdx]
      by_cases hi : i < dk.size
      · have hic : i < cur.size := by omega
        rw [if_pos hi, Array.getElem?_eq_getElem hic, Array.getElem?_eq_getElem hi]
        simp only [Option.map_some, Nat.zero_le, Nat.zero_add, hi, and_self, if_true, Nat.sub_zero]
        rw [getElem!_pos dk i hi]
      · rw [if_neg hi, Array.getElem?_eq_none (by omega)]
        rfl
end
theorem grow_drewN0 (w : World) (o : Obj) : w.alloc o = grow (w.drewN 0) #[o] := by
  rw [World.drewN_zero, alloc_eq_grow]

def rowE (vs : List Value) (i : Nat) : Value := vs.getD i (.slice none 0 0)
def rowL (ls : List (List Int)) (i : Nat) : List Int := ls.getD i []
theorem rowE_at {w : World} {base : Nat} {vs : List Value} {ls : List (List Int)} (h : RowsAt w base vs ls) (i : Nat) : ∃ A c, rowE vs i = .slice A (rowL ls i).length c ∧ RAt w A (rowL ls i) := by
  unfold rowE rowL
  by_cases hi : i < ls.length
  · obtain ⟨A, c, e, ho⟩ := h.2 i hi
    refine ⟨A, c, ?_, ?_⟩
    · rw [List.getD_eq_getElem?_getD, e, List.getD_eq_getElem?_getD, List.getElem?_eq_getElem hi]
      rfl
    · rw [List.getD_eq_getElem?_getD, List.getElem?_eq_getElem hi]
      exact own_rat ho
  · refine ⟨none, 0, ?_, ?_⟩
    · rw [List.getD_eq_getElem?_getD, List.getElem?_eq_none (by rw [h.1]; omega), List.getD_eq_getElem?_getD, List.getElem?_eq_none (by omega)]
      rfl
    · rw [List.getD_eq_getElem?_getD, List.getElem?_eq_none (by omega)]
      exact fun h => absurd h (by simp)
theorem range_rowL (ls : List (List Int)) : (List.range ls.length).map (rowL ls) = ls := by
  apply List.ext_getElem
  · simp
  · intro i h1 h2
    simp [rowL, List.getElem?_eq_getElem h2]
theorem sortRows (g b bm m cap base : Nat) (F : Lit → Option Int) (vs : List Value) (ls : List (List Int)) (w : World) (hown : w.ownsRow base 26 1 (.slice (some ⟨g, 0, none⟩) ls.length cap) ls.length vs) (hrows : RowsAt w base vs ls) (hb : b < w.heap.size) (hbg : b ≠ g) (hm : PtrMap w b bm m F) (hbm : bm ≠ g)
    (hkin : ∀ l ∈ ls, ∀ x ∈ l, kin .i32 x) (hlen : ∀ l ∈ ls, l.length ≤ 64) (hn : ls.length ≤ 4096) :
    Calls Tryd.prog 58 #[.slice (some ⟨g, 0, none⟩) ls.length cap, .func (.func 59) #[] #[.pointer (some ⟨b, 0, none⟩)]] w fun e w' =>
      e = .returned (.tuple #[]) ∧ ∃ vs' ls', w'.ownsRow base 26 1 (.slice (some ⟨g, 0, none⟩) ls.length cap) ls.length vs' ∧ RowsAt w' base vs' ls' ∧ ls'.Perm ls ∧ ls'.Pairwise (fun x y => cmpL (rkF F) x y ≤ 0) ∧ Fr (fun k => k = g) w w' := by
  have hd : ((List.range ls.length).toArray).size = ls.length := by simp
  have hvl : vs.length = ls.length := hrows.1
  have hgl : ∀ i, rowL ls i ∈ ls ∨ rowL ls i = [] := fun i => by
    unfold rowL
    rw [List.getD_eq_getElem?_getD]
    by_cases hi : i < ls.length
    · rw [List.getElem?_eq_getElem hi]; exact .inl (List.getElem_mem hi)
    · rw [List.getElem?_eq_none (by omega)]; exact .inr rfl
  have hk : ∀ i, (∀ x ∈ rowL ls i, kin .i32 x) ∧ (rowL ls i).length ≤ 64 := fun i => by
    rcases hgl i with h | h
    · exact ⟨hkin _ h, hlen _ h⟩
    · rw [h]; exact ⟨fun x hx => by simp at hx, by simp⟩
  have hone : Go.Proofs.OneCell (rowE vs) := fun i => by
    obtain ⟨A, c, e, _⟩ := rowE_at hrows i
    rw [e]
    rfl
  have hty : 65 ≠ 26 := by decide
  have key := Any.slices_SortFunc Tryd.sortL (rowE vs) hone (fun i j => cmpL (rkF F) (rowL ls i) (rowL ls j)) (swo_cmpL (rkF F) (rowL ls)) 59 #[.pointer (some ⟨b, 0, none⟩)] g 0 cap (List.range ls.length).toArray w
    (enters_of Tryd.func59 (by kernel_rfl) rfl) ?_ ?_ ?_ (by simp; omega)
  · rw [hd] at key
    change Calls Tryd.prog 58 _ _ _ at key
    refine key.mono ?_
    rintro e w' ⟨rfl, d', q, os, hp, hs, rfl⟩
    have hsz : d'.size = ls.length := by rw [hp.1, hd]
    have hperm : d'.toList.Perm (List.range ls.length) := by
      have h := hp.2.2
      have e1 : d'.extract 0 ls.length = d' := by rw [← hsz]; simp
      have e2 : (List.range ls.length).toArray.extract 0 ls.length = (List.range ls.length).toArray := by
        conv => lhs; rw [← hd]
        simp
      rw [e1, e2] at h
      simpa using h
    have hownd : w.ownsRow base 26 1 (.slice (some ⟨g, 0, none⟩) d'.size cap) d'.size vs := by rw [hsz]; exact hown
    have hown' := sw_own (m := q) (enc := rowE vs) (os := os) hownd
    rw [hsz] at hown'
    refine ⟨rfl, d'.toList.map (rowE vs), d'.toList.map (rowL ls), hown', ?_, ?_, ?_, sw_fr⟩
    · refine ⟨by simp, fun i hi => ?_⟩
      have hid : i < d'.toList.length := by simpa using hi
      have hlt : d'.toList[i] < ls.length := List.mem_range.1 (hperm.mem_iff.1 (List.getElem_mem hid))
      obtain ⟨A, c, e, ho⟩ := hrows.2 _ hlt
      have el : (d'.toList.map (rowL ls))[i] = ls[d'.toList[i]] := by
        rw [List.getElem_map]
        unfold rowL
        rw [List.getD_eq_getElem?_getD, List.getElem?_eq_getElem hlt]
        rfl
      refine ⟨A, c, ?_, ?_⟩
      · rw [List.getElem?_map, List.getElem?_eq_getElem hid, Option.map_some, el]
        unfold rowE
        rw [List.getD_eq_getElem?_getD, e]
        rfl
      · rw [el]
        exact own_fr ho sw_fr fun k hk hkg => own_ne_own ho hown (by decide) k hk (by subst hkg; rfl)
    · have := hperm.map (rowL ls)
      rwa [range_rowL] at this
    · rw [List.pairwise_map, List.pairwise_iff_getElem]
      intro i j hi hj hij
      have h := hs i j (Nat.zero_le _) hij (by rw [← hsz]; simpa using hj)
      unfold ltOf at h
      rw [getElem!_pos d' i (by simpa using hi), getElem!_pos d' j (by simpa using hj)] at h
      simp only [decide_eq_false_iff_not] at h
      have hf := cmpL_flip (rkF F) (rowL ls d'[i]) (rowL ls d'[j])
      simp only [Array.getElem_toList]
      omega
  · intro k os dk hdk x y
    have hfr : Fr (fun k => k = g) w (sortWorld (rowE vs) w g 0 k dk os) := sw_fr
    obtain ⟨A, c, e1, h1⟩ := rowE_at hrows x
    obtain ⟨B, d, e2, h2⟩ := rowE_at hrows y
    have hne : ∀ (i : Nat) A c, rowE vs i = .slice A (rowL ls i).length c → 0 < (rowL ls i).length → ∀ g', A = some ⟨g', 0, none⟩ → g' ≠ g ∧ g' < w.heap.size := fun i A c e hp g' hg' => by
      have hi : i < ls.length := by
        apply Nat.lt_of_not_le
        intro hh
        unfold rowL at hp
        rw [List.getD_eq_getElem?_getD, List.getElem?_eq_none hh] at hp
        simp at hp
      obtain ⟨A', c', e', ho⟩ := hrows.2 i hi
      have : rowE vs i = .slice A' ls[i].length c' := by
        unfold rowE
        rw [List.getD_eq_getElem?_getD, e']
        rfl
      rw [e] at this
      injection this with a1 a2 a3
      subst hg'
      rw [← a1] at ho
      exact ⟨fun hh => own_ne_own ho hown (by decide) g' rfl (by rw [hh]; rfl), (ho.lt g' rfl).2⟩
    have hk1 := hk x
    have hk2 := hk y
    have r1 : RAt (sortWorld (rowE vs) w g 0 k dk os) A (rowL ls x) := fun hp => by
      obtain ⟨g', e, _, _⟩ := h1 hp
      exact (h1.same hfr.size fun g'' hg'' => hfr.block g'' (hne x A c e1 hp g'' hg'').2 (hne x A c e1 hp g'' hg'').1) hp
    have r2 : RAt (sortWorld (rowE vs) w g 0 k dk os) B (rowL ls y) := fun hp => by
      exact (h2.same hfr.size fun g'' hg'' => hfr.block g'' (hne y B d e2 hp g'' hg'').2 (hne y B d e2 hp g'' hg'').1) hp
    have hm' : PtrMap (sortWorld (rowE vs) w g 0 k dk os) b bm m F := ⟨(World.cell?_of_block (a := ⟨b, 0, none⟩) (hfr.block b hb hbg)).trans hm.1, hm.2.same (hfr.block bm hm.2.lt hbm)⟩
    rw [show (#[rowE vs x, rowE vs y] ++ #[Value.pointer (some ⟨b, 0, none⟩)]) = #[.slice A (rowL ls x).length c, .slice B (rowL ls y).length d, .pointer (some ⟨b, 0, none⟩)] by rw [e1, e2]; rfl]
    refine (sort1_any A B c d _ _ b bm m F _ hm' r1 r2 hk1.1 hk2.1 (by omega) (by omega)).mono ?_
    rintro e w' ⟨rfl, rfl⟩
    exact ⟨rfl, 0, _, grow_drewN0 _ _⟩
  · intro j hj
    rw [hd] at hj
    have hjv : j < vs.length := by omega
    obtain ⟨z0, z1⟩ := own_cel hown (j := j) (u := vs[j]) (List.getElem?_eq_getElem hjv)
    rw [getElem!_pos _ j (by simpa using hj)]
    have : rowE vs (List.range ls.length).toArray[j] = vs[j] := by
      simp [rowE, List.getElem?_eq_getElem hjv]
    rw [this, Nat.zero_add]
    exact ⟨z0, z1⟩
  · rcases hown.2 with ⟨hv, _⟩ | ⟨g', cap', cur, hv, _, hgg, _⟩
    · cases hv
    · injection hv with hv1
      injection hv1 with hv1
      injection hv1 with hv1
      subst hv1
      exact (Array.getElem?_eq_some_iff.1 hgg).1
end Go.Proofs.YtfjccjjdgbkbiaaDoor
namespace Go.Proofs.YtfjccjjdgbkbiaaDoor
open Go.RowKit
set_option linter.unusedVariables false

theorem eq_step {l k : List Int} {i : Nat} (h1 : i < l.length) (h2 : i < k.length) : decide (l.drop i = k.drop i) = (decide (l[i] = k[i]) && decide (l.drop (i + 1) = k.drop (i + 1))) := by
  rw [List.drop_eq_getElem_cons h1, List.drop_eq_getElem_cons h2, Bool.eq_iff_iff, Bool.and_eq_true, decide_eq_true_eq, decide_eq_true_eq, decide_eq_true_eq, List.cons.injEq]
set_option maxHeartbeats 4000000 in
set_option maxRecDepth 100000 in
theorem equal_any (A B : Option Addr) (c d : Nat) (l k : List Int) (w : World) (hl : RAt w A l) (hk : RAt w B k) (hml : l.length ≤ 4611686018427387904) (hmk : k.length ≤ 4611686018427387904) :
    Calls Tryd.prog 62 #[.slice A l.length c, .slice B k.length d] w fun e w' => e = .returned (.bool (decide (l = k))) ∧ Below w.heap.size w w' := by
  by_cases hlen : l.length = k.length
  · have hst0 : Hid (decide (l.drop 0 = k.drop 0) = decide (l = k)) := by show _ = _; rw [List.drop_zero, List.drop_zero]
    generalize decide (l = k) = R at *
    have hll : ((l.length : Int) != (k.length : Int)) = false := by rw [hlen]; simp
    have HL := Lib.hid hl
    have HK := Lib.hid hk
    have HLEN := Lib.hid hlen
    clear hl hk hlen
    go_enter Tryd.func62, Tryd.ntmps62
    go_wp2_with fail
    go_loopw [13] (fun i wr => ∃ j : Nat, j ≤ l.length ∧ i = .int .i64 (j : Int) ∧ Hid (decide (l.drop j = k.drop j) = R) ∧ Below w.heap.size w wr) (fun i _ => l.length - (intOf i).toNat)
    case atStart => exact ⟨0, by omega, rfl, hst0, Below.refl _ _⟩
    case round =>
      obtain ⟨j, hj1, rfl, hc, hb⟩ := hrel
      clear hst0
      by_cases h1 : j < l.length
      · have h2 : j < k.length := by rw [← HLEN.out]; exact h1
        obtain ⟨g, rfl, hg, ⟨x0, y0⟩⟩ := (HL.out.below hb).at_ h1
        obtain ⟨g', rfl, hg', ⟨x1, y1⟩⟩ := (HK.out.below hb).at_ h2
        have hst := eq_step h1 h2
        rw [hc.out] at hst
        generalize l[j] = u at *
        generalize k[j] = v at *
        have HB := Lib.hid (fun n => below_drewN hb n)
        have j1 : (j : Int) < (l.length : Int) := by omega
        have j2 : (j : Int) < (k.length : Int) := by omega
        have j3 : 0 ≤ (j : Int) := by omega
        clear hb hll
        by_cases he : u = v
        · subst he
          have HN : Hid (decide (l.drop (j + 1) = k.drop (j + 1)) = R) := by show _ = _; rw [hst]; simp
          have hd : (u != u) = false := by simp
          clear hst hc
          go_wp2_with fail
          go_quiet (fail)
          go_wp2_with fail
          exact ⟨⟨j + 1, by omega, by go_num, HN, HB.out _⟩, by simp [intOf]; omega⟩
        · have HN : Hid (R = false) := by show _ = _; rw [hst, decide_eq_false he, Bool.false_and]
          have hd : (u != v) = true := by rw [bne_iff_ne]; exact he
          clear hst hc he
          go_wp2_with fail
          go_quiet (fail)
          go_wp2_with fail
          go_ret
          exact ⟨by rw [HN.out]; rfl, HB.out _⟩
      · obtain rfl : j = l.length := by omega
        have hce := hc.out
        rw [List.drop_length, HLEN.out, List.drop_length] at hce
        have HN : Hid (R = true) := by show _ = _; rw [← hce]; simp
        have HB := Lib.hid hb
        clear hce hc hb
        go_wp2_with fail
        go_ret
        exact ⟨by rw [HN.out]; rfl, HB.out⟩
  · have hd : decide (l = k) = false := decide_eq_false fun e => hlen (by rw [e])
    rw [hd]
    have hll : ((l.length : Int) != (k.length : Int)) = true := by rw [bne_iff_ne]; omega
    clear hl hk hlen hd
    go_enter Tryd.func62, Tryd.ntmps62
    go_wp2_with fail
    go_ret
    exact ⟨rfl, Below.refl _ _⟩
set_option maxHeartbeats 2000000 in
theorem sort2_any (A B : Option Addr) (c d : Nat) (l k : List Int) (w : World) (hl : RAt w A l) (hk : RAt w B k) (hml : l.length ≤ 4611686018427387904) (hmk : k.length ≤ 4611686018427387904) :
    Calls Tryd.prog 61 #[.slice A l.length c, .slice B k.length d] w fun e w' => e = .returned (.bool (decide (l = k))) ∧ Below w.heap.size w w' := by
  have hcon := Lib.hid (equal_any A B c d l k w hl hk hml hmk)
  generalize decide (l = k) = R at *
  clear hl hk
  go_enter Tryd.func61, Tryd.ntmps61
  go_wp2_with fail
  refine hcon.out.mono ?_
  rintro e w' ⟨rfl, hb⟩
  have HB := Lib.hid hb
  clear hb
  go_wp2_with fail
  go_ret
  exact ⟨rfl, HB.out⟩
end Go.Proofs.YtfjccjjdgbkbiaaDoor
