/- word.Peaks. -/
import Derived.Test.YtfjccjjdgbkbiaaDoorWr18
import Derived.Test.YtfjccjjdgbkbiaaDoorWr11
namespace Go.Proofs.YtfjccjjdgbkbiaaDoor
open Go.RowKit
open Go.Lib (Utf8Tabs)
set_option linter.unusedVariables false

def intVs (l : List Nat) : List Value := l.map fun (n : Nat) => Value.int .i64 (n : Int)
/-- A row of numbers of the call's own, and an error. -/
def IntsOut (r : List Nat × Int) (W : World) (e : Ending) (w' : World) : Prop :=
  ∃ A c, e = .returned (.tuple #[.slice A r.1.length c, .int .i64 r.2]) ∧ w'.ownsRow W.heap.size 3 1 (.slice A r.1.length c) r.1.length (intVs r.1) ∧ Below W.heap.size W w'
theorem IntsOut.no {r : List Nat × Int} {E : Int} {W w' : World} (h : r = ([], E)) (hb : Below W.heap.size W w') : IntsOut r W (.returned (.tuple #[.slice none 0 0, .int .i64 E])) w' := by
  subst h
  exact ⟨none, 0, rfl, World.ownsRow_nil _ _ _ _, hb⟩
theorem int_info : (Tryd.prog.info? 3).map (fun i => (i.zero, i.size, i.bytes)) = some (some (.int .i64 0), 1, 8) := by kernel_rfl
/-- The places where it is so. -/
def placesOf (f : Int → Bool) (l : List Int) : List Nat := (List.range l.length).filter fun i => f (l.getD i 0)
theorem placesOf_snoc {f : Int → Bool} {l : List Int} {k : Nat} (hk : k < l.length) : placesOf f (l.take (k + 1)) = if f l[k] then placesOf f (l.take k) ++ [k] else placesOf f (l.take k) := by
  have hl1 : (l.take (k + 1)).length = k + 1 := by rw [List.length_take]; omega
  have hl0 : (l.take k).length = k := by rw [List.length_take]; omega
  unfold placesOf
  rw [hl1, hl0, List.range_succ, List.filter_append]
  have e1 : (List.range k).filter (fun i => f ((l.take (k + 1)).getD i 0)) = (List.range k).filter (fun i => f ((l.take k).getD i 0)) := by
    apply List.filter_congr
    intro i hi
    have hi' := List.mem_range.1 hi
    rw [List.getD_eq_getElem?_getD, List.getD_eq_getElem?_getD, List.getElem?_take_of_lt (by omega), List.getElem?_take_of_lt (by omega)]
  have e2 : (l.take (k + 1)).getD k 0 = l[k] := by
    rw [List.getD_eq_getElem?_getD, List.getElem?_take_of_lt (by omega), List.getElem?_eq_getElem hk]
    rfl
  rw [e1]
  have e3 : l[k]?.getD 0 = l[k] := by rw [List.getElem?_eq_getElem hk]; rfl
  cases h : f l[k]
  · simp [e3, h]
  · simp [e3, h]
theorem placesOf_len (f : Int → Bool) (l : List Int) : (placesOf f l).length ≤ l.length := by
  unfold placesOf
  refine Nat.le_trans (List.length_filter_le _ _) ?_
  rw [List.length_range]
  exact Nat.le_refl _
/-- A word's peaks, and the error. -/
def peaksS (a : Al) (s : ByteArray) (p m : Nat) : List Nat × Int :=
  if (lettersS a s).2 ≠ 0 then ([], (lettersS a s).2) else if (classS a p m).2 ≠ 0 then ([], (classS a p m).2) else (placesOf (fun x => (classS a p m).1.contains x) (lettersS a s).1, 0)
theorem class_err (a : Al) (p m : Nat) : ((classS a p m).2 = 0 ∧ (classS a p m).1.length ≤ 128) ∨ ((classS a p m).2 ≠ 0 ∧ (classS a p m).1 = []) ∧ ((classS a p m).2 = 7 ∨ (classS a p m).2 = 20) := by
  unfold classS
  by_cases h : alOk a = false
  · rw [if_pos h]; exact .inr ⟨⟨by simp, rfl⟩, .inl rfl⟩
  · rw [if_neg h]
    by_cases h2 : classOk a.feats.length p m = true
    · rw [if_pos h2]
      have h1 := alOk_size (by simpa using h)
      have h3 := clsL_len a.lets p m
      exact .inl ⟨rfl, by simp only; omega⟩
    · rw [if_neg h2]; exact .inr ⟨⟨by simp, rfl⟩, .inr rfl⟩
def PeakSt (f : Int → Bool) (l : List Int) (W : World) (v i : Value) (wr : World) : Prop :=
  ∃ (k : Nat) (acc : List Nat) (A : Option Addr) (c : Nat), v = .slice A acc.length c ∧ i = .int .i64 (k : Int) ∧ k ≤ l.length ∧ acc = placesOf f (l.take k) ∧ wr.ownsRow W.heap.size 3 1 (.slice A acc.length c) acc.length (intVs acc) ∧ Below W.heap.size W wr

set_option maxHeartbeats 4000000 in
set_option maxRecDepth 100000 in
theorem peaks_any (A1 A2 : Option Addr) (c1 c2 lo : Nat) (a : Al) (s : ByteArray) (p m : Nat) (w : World) (hin : AlIn w lo w.heap.size A1 A2 a) (hT : Utf8Tabs 0 1 w) (hs : s.size ≤ maxLen) (hp : p < 4294967296) (hm : m < 4294967296) :
    Calls Tryd.prog 21 #[.agg #[.slice A1 a.feats.length c1, .slice A2 a.lets.length c2], .string s, .int .u32 (p : Int), .int .u32 (m : Int)] w (IntsOut (peaksS a s p m) w) := by
  obtain ⟨i1, hi1, hy0, hy1, hy2⟩ := info_parts int_info
  have hal : Below w.heap.size w (w.alloc (.cells #[.slice A1 a.feats.length c1, .slice A2 a.lets.length c2] 25)) := (Below.refl _ _).alloc (Nat.le_refl _) _
  have hr0 := Row.new w 25 [.slice A1 a.feats.length c1, .slice A2 a.lets.length c2]
  have hcall := Lib.hid (letters_any A1 A2 c1 c2 lo a s _ (hin.on hal) (Utf8Tabs_below hT hal) hs)
  have hclass := Lib.hid (fun w' (h : Below w.heap.size w w') => class_any A1 A2 c1 c2 lo a p m w' (hin.on h) hp hm)
  have HT : Hid (peaksS a s p m = if (lettersS a s).2 ≠ 0 then ([], (lettersS a s).2) else if (classS a p m).2 ≠ 0 then ([], (classS a p m).2) else (placesOf (fun x => (classS a p m).1.contains x) (lettersS a s).1, 0)) := rfl
  have hlen := letters_len a s
  have herr := letters_err a s
  have hcer := class_err a p m
  generalize lettersS a s = R at *
  generalize classS a p m = C at *
  obtain ⟨l, E⟩ := R
  obtain ⟨cl, F⟩ := C
  simp only at *
  rcases herr with h0 | ⟨h1, h2, h3⟩
  · subst h0
    rcases hcer with ⟨h0, hcl⟩ | ⟨⟨h1, h2⟩, h3⟩
    · subst h0
      have HF : Hid (peaksS a s p m = (placesOf (fun x => cl.contains x) l, 0)) := by show _ = _; rw [HT.out]; simp
      clear HT
      go_enter Tryd.func21, Tryd.ntmps21
      go_wp2_with fail
      refine hcall.out.mono ?_
      rintro e w1 ⟨Al, cl1, rfl, hown1, hb1⟩
      have hr1 := hr0.below hb1 hr0.lt
      have hbw1 := hal.trans (hb1.mono (by simp))
      have hl1 := hr1.lt
      have hz1 := hbw1.size
      obtain ⟨q0, f0⟩ := hr1.cel (i := 0) rfl
      obtain ⟨q1, f1⟩ := hr1.cel (i := 1) rfl
      clear hcall hb1
      go_wp2_with fail
      refine (hclass.out _ hbw1).mono ?_
      rintro e w2 ⟨Ac, cc, rfl, hown2, hb2⟩
      have hbw2 := hbw1.trans (hb2.mono hz1)
      have hz2 := hbw2.size
      have hown1' := own_below hown1 hb2
      have hst : PeakSt (fun x => cl.contains x) l w2 (.slice none 0 0) (.int .i64 0) w2 := ⟨0, [], none, 0, rfl, rfl, by omega, rfl, World.ownsRow_nil _ _ _ _, Below.refl _ _⟩
      have HST := Lib.hid hst
      clear hst hclass hr1 q0 q1 f0 f1 hown1 hr0 hb2 hal
      go_wp2_with fail
      go_loopw [13, 37] (fun v i wr => PeakSt (fun x => cl.contains x) l w2 v i wr) (fun _ i _ => l.length - (intOf i).toNat)
      case atStart => exact HST.out
      case round =>
        clear HST
        obtain ⟨k, acc, Av, cv, rfl, rfl, hk, hacc, hown, hb⟩ := hrel
        have hbs := hb.size
        by_cases hlt : k < l.length
        · obtain ⟨g, rfl, _, hg, ⟨x0, y0⟩⟩ := own_rune (own_below hown1' hb) hlt
          have hsn := placesOf_snoc (f := fun x => cl.contains x) hlt
          have hacl : acc.length ≤ 64 := by
            have h1 := placesOf_len (fun x => cl.contains x) (l.take k)
            rw [← hacc, List.length_take] at h1
            omega
          rw [← hacc] at hsn
          have hcn := Lib.hid (contains_rune l[k] _ Ac cc cl wr (own_below hown2 hb) (by omega))
          generalize l[k] = x at *
          have hSN := Lib.hid hsn
          clear hsn hacc
          cases hL : cl.contains x with
          | false =>
            simp only [hL] at hSN
            rw [hL] at hcn
            have hfin : PeakSt (fun x => cl.contains x) l w2 (.slice Av acc.length cv) (.int .i64 ((k + 1 : Nat) : Int)) wr := ⟨k + 1, acc, Av, cv, rfl, rfl, by omega, by rw [hSN.out]; rfl, hown, hb⟩
            have HF3 := Lib.hid hfin
            clear hfin hown hSN
            go_wp2_with (go_at_call 48; refine hcn.out.mono ?_; rintro e w' ⟨rfl, rfl⟩)
            exact ⟨HF3.out, by simp [intOf]; omega⟩
          | true =>
            simp only [hL] at hSN
            rw [hL] at hcn
            have hal2 : Below wr.heap.size wr (wr.alloc (.cells #[.int .i64 (k : Int)] 3)) := (Below.refl _ _).alloc (Nat.le_refl _) _
            have hownB := own_below hown hal2
            have hrN := Row.new wr 3 [.int .i64 (k : Int)]
            have hnews := hrN.news
            have hone : ∀ u ∈ [Value.int .i64 (k : Int)], u.oneCell' = true := by intro u hu; rw [List.mem_singleton.1 hu]; rfl
            have h63 : acc.length + 1 ≤ maxLen := by unfold maxLen; omega
            have hby : (acc.length + 1) * 8 ≤ 140737488355328 := by omega
            have hlo : w2.heap.size ≤ (wr.alloc (.cells #[.int .i64 (k : Int)] 3)).heap.size := by have := hal2.size; omega
            have hbB : Below w2.heap.size w2 (wr.alloc (.cells #[.int .i64 (k : Int)] 3)) := hb.trans (hal2.mono hbs)
            have hge := fun j hj => (hown.lt j hj).1
            clear hrN hal2 hown
            go_wp2_with (first
              | (go_at_call 48; refine hcn.out.mono ?_; rintro e w' ⟨rfl, rfl⟩)
              | (at_builtin; refine wpList_append_lies _ rfl _ _ 39 rfl w2.heap.size 3 i1 (.int .i64 0) 1 8 Tryd.underlying39 hi1 hy0 hy1 hy2 rfl (by decide) (.slice Av acc.length cv) acc.length (intVs acc) rfl hownB ⟨wr.heap.size, 0, none⟩ 1 1 [.int .i64 (k : Int)] rfl rfl hnews hone (by decide) h63 hby hlo _ rfl ?_))
            intro g5 cap w5 hown5 hgr5 hat5 hlt5
            have hb5 : Below w2.heap.size w2 w5 := hbB.grown hgr5 hlo hge
            have e1 : acc.length + 1 = (acc ++ [k]).length := by simp
            have e2 : intVs acc ++ [.int .i64 (k : Int)] = intVs (acc ++ [k]) := by unfold intVs; simp
            rw [e1, e2] at hown5
            rw [e1]
            have hfin : PeakSt (fun x => cl.contains x) l w2 (.slice (some ⟨g5, 0, none⟩) (acc ++ [k]).length cap) (.int .i64 ((k + 1 : Nat) : Int)) w5 := ⟨k + 1, acc ++ [k], _, _, rfl, rfl, by omega, by rw [hSN.out]; rfl, hown5, hb5⟩
            have HF3 := Lib.hid hfin
            clear hfin hown5 hgr5 hat5 hownB hnews hone e1 e2 hSN
            go_wp2_with fail
            exact ⟨HF3.out, by simp [intOf]; omega⟩
        · obtain rfl : k = l.length := by omega
          have hfin : IntsOut (peaksS a s p m) w (.returned (.tuple #[.slice Av acc.length cv, .int .i64 0])) wr := by
            rw [show peaksS a s p m = (acc, 0) by rw [HF.out, hacc, List.take_length]]
            exact ⟨Av, cv, rfl, own_low hown hz2, hbw2.trans (hb.mono hz2)⟩
          have HF3 := Lib.hid hfin
          clear hfin hown hacc
          go_wp2_with fail
          go_ret2
          exact HF3.out
    · subst h2
      have hne : (F != 0) = true := by rw [bne_iff_ne]; exact h1
      have HF : Hid (peaksS a s p m = ([], F)) := by show _ = _; rw [HT.out, if_neg (by simp), if_pos h1]
      clear HT h1
      go_enter Tryd.func21, Tryd.ntmps21
      go_wp2_with fail
      refine hcall.out.mono ?_
      rintro e w1 ⟨Al, cl1, rfl, hown1, hb1⟩
      have hr1 := hr0.below hb1 hr0.lt
      have hbw1 := hal.trans (hb1.mono (by simp))
      have hl1 := hr1.lt
      obtain ⟨q0, f0⟩ := hr1.cel (i := 0) rfl
      obtain ⟨q1, f1⟩ := hr1.cel (i := 1) rfl
      clear hcall hb1
      go_wp2_with fail
      refine (hclass.out _ hbw1).mono ?_
      rintro e w2 ⟨Ac, cc, rfl, hown2, hb2⟩
      have HF2 := Lib.hid (IntsOut.no (W := w) HF.out (hbw1.trans (hb2.mono hbw1.size)))
      clear hb2 hr1 q0 f0 q1 f1 hbw1 hr0 hown2 hown1
      go_wp2_with fail
      go_ret2
      exact HF2.out
  · subst h3
    have hne : (E != 0) = true := by rw [bne_iff_ne]; omega
    have HF : Hid (peaksS a s p m = ([], E)) := by show _ = _; rw [HT.out, if_pos (by omega)]
    clear HT
    go_enter Tryd.func21, Tryd.ntmps21
    go_wp2_with fail
    refine hcall.out.mono ?_
    rintro e w1 ⟨Al, cl1, rfl, hown1, hb1⟩
    have HF2 := Lib.hid (IntsOut.no (W := w) HF.out (hal.trans (hb1.mono (by simp))))
    clear hb1 hr0 hown1 hcall
    go_wp2_with fail
    go_ret2
    exact HF2.out
end Go.Proofs.YtfjccjjdgbkbiaaDoor
