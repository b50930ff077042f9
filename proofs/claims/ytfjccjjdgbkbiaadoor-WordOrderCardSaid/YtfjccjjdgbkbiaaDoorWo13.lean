/- word.Letters, word.Check. string(l), []rune(s): conversions between runes and strings. -/
import Derived.Test.YtfjccjjdgbkbiaaDoorWo12
import Derived.Test.YtfjccjjdgbkbiaaDoorWo09
namespace Go.Proofs.YtfjccjjdgbkbiaaDoor
open Go.RowKit
open Go.Lib (Utf8Tabs)
set_option linter.unusedVariables false

theorem rank_let {a : Al} (h : alOk a = true) (r : Int) : (rankF a.lets a.lets.length (.int .i32 r)).isSome = isLet a r := by
  rw [rank_num a h r]
  unfold isLet
  cases num a r <;> rfl
set_option maxHeartbeats 4000000 in
theorem letters_any (A1 A2 : Option Addr) (c1 c2 lo : Nat) (a : Al) (s : ByteArray) (w : World) (hin : AlIn w lo w.heap.size A1 A2 a) (hT : Utf8Tabs 0 1 w) (hm : s.size ≤ maxLen) :
    Calls Tryd.prog 10 #[.agg #[.slice A1 a.feats.length c1, .slice A2 a.lets.length c2], .string s] w (ReadOut (lettersS a s) w) := by
  have hal : Below w.heap.size w (w.alloc (.cells #[.slice A1 a.feats.length c1, .slice A2 a.lets.length c2] 25)) := (Below.refl _ _).alloc (Nat.le_refl _) _
  have hcall := Lib.hid (ranks_any A1 A2 c1 c2 lo a _ (hin.on hal))
  have HL : Hid (lettersS a s = if alOk a = true then readS a s else ([], 7)) := rfl
  go_enter Tryd.func10, Tryd.ntmps10
  go_wp2_with fail
  refine hcall.out.mono ?_
  rintro e w1 (⟨hok, rfl, hb1⟩ | ⟨hok, bm, n, rfl, hmap, hbm, hb1⟩)
  · have hfin := ReadOut.no (r := lettersS a s) (E := 7) (by rw [HL.out, hok]; rfl) (hal.trans (hb1.mono (by simp)))
    have HF := Lib.hid hfin
    clear hfin hcall hok
    go_wp2_with fail
    go_ret2
    exact HF.out
  · have hbw := hal.trans (hb1.mono (by simp))
    have hr := Lib.hid (read_any s bm n _ a w1 hmap (rank_let hok) (Utf8Tabs_below hT hbw) hm)
    have HE : Hid (lettersS a s = readS a s) := by show _ = _; rw [HL.out, if_pos hok]
    clear hcall hok hmap HL
    go_wp2_with fail
    refine hr.out.mono ?_
    rintro e w2 ⟨A, c, rfl, hown, hb2⟩
    have hfin : ReadOut (lettersS a s) w (.returned (.tuple #[.slice A (readS a s).1.length c, .int .i64 (readS a s).2])) w2 := by
      rw [HE.out]
      exact ⟨A, c, rfl, own_low hown hbw.size, hbw.trans (hb2.mono hbw.size)⟩
    have HF := Lib.hid hfin
    clear hfin hown hr HE
    generalize readS a s = R at *
    go_wp2_with fail
    go_ret2
    exact HF.out
set_option maxHeartbeats 2000000 in
theorem wcheck_any (A1 A2 : Option Addr) (c1 c2 lo : Nat) (a : Al) (s : ByteArray) (w : World) (hin : AlIn w lo w.heap.size A1 A2 a) (hT : Utf8Tabs 0 1 w) (hm : s.size ≤ maxLen) :
    Calls Tryd.prog 18 #[.agg #[.slice A1 a.feats.length c1, .slice A2 a.lets.length c2], .string s] w fun e w' => e = .returned (.int .i64 (lettersS a s).2) ∧ Below w.heap.size w w' := by
  have hal : Below w.heap.size w (w.alloc (.cells #[.slice A1 a.feats.length c1, .slice A2 a.lets.length c2] 25)) := (Below.refl _ _).alloc (Nat.le_refl _) _
  have hcall := Lib.hid (letters_any A1 A2 c1 c2 lo a s _ (hin.on hal) (Utf8Tabs_below hT hal) hm)
  go_enter Tryd.func18, Tryd.ntmps18
  go_wp2_with fail
  refine hcall.out.mono ?_
  rintro e w1 ⟨A, c, rfl, hown, hb1⟩
  clear hown hcall
  go_wp2_with fail
  go_ret
  exact ⟨rfl, hal.trans (hb1.mono (by simp))⟩
end Go.Proofs.YtfjccjjdgbkbiaaDoor
namespace Go.Proofs.YtfjccjjdgbkbiaaDoor
open Go.RowKit Go.Lib
set_option linter.unusedVariables false

theorem run_forIn_runes {P : Program} {w : World} (f : Value → ByteArray → Sem (ForInStep ByteArray))
    (hf : ∀ (n : Int) (r : ByteArray), (f (.int .i32 n) r).run P w = .ok (.yield (r ++ Utf8.encode n)) w) :
    ∀ (ns : List Int) (s : ByteArray), (forIn (ns.map (Value.int .i32)) s f).run P w = .ok (ns.foldl (fun r n => r ++ Utf8.encode n) s) w := by
  intro ns
  induction ns with
  | nil => intro s; simp [Sem.run_pure]
  | cons n ns ih =>
    intro s
    simp only [List.map_cons, List.forIn_cons, Sem.run_bind, hf, Result.andThen, List.foldl_cons]
    exact ih _
theorem run_runesToString {P : Program} (w : World) (a : Addr) (len cap : Nat) (ns : List Int)
    (h : (loadCells a len).run P w = .ok (ns.map (Value.int .i32)).toArray w) :
    (Conv.runesToString (.slice (some a) len cap)).run P w = .ok (.string (ns.foldl (fun r n => r ++ Utf8.encode n) ByteArray.empty)) w := by
  unfold Conv.runesToString
  simp only [Sem.run_bind, h, Result.andThen, List.forIn_toArray]
  rw [run_forIn_runes _ (by intro n r; simp [Sem.run_pure])]
  simp [Sem.run_pure]
theorem run_convert_runes_string {P : Program} (w : World) (src dst e : TypeId) (a : Option Addr) (l c : Nat)
    (hs : P.underlying src = some (.slice e)) (he : P.underlying e = some (.int .i32)) (hd : P.underlying dst = some .string) :
    (convert src dst (.slice a l c)).run P w = (Conv.runesToString (.slice a l c)).run P w := by
  simp [convert, run_underlying hs, run_underlying hd, run_underlying he]

theorem runesFrom_eq (s : ByteArray) : ∀ (f i : Nat) (acc : Array Value), s.size - i ≤ f → Conv.runesFrom s f i acc = acc ++ ((pcsFrom s i).map fun p => Value.int .i32 p.rune).toArray
  | 0, i, acc, h => by
    rw [pcsFrom_end s i (by omega)]
    simp [Conv.runesFrom]
  | f + 1, i, acc, h => by
    unfold Conv.runesFrom
    by_cases hi : i < s.size
    · have hw := decode_width s i hi
      rw [if_pos hi, pcsFrom_step s i hi]
      simp only
      rw [runesFrom_eq s f _ _ (by omega)]
      simp [pcAt]
    · rw [if_neg hi, pcsFrom_end s i (by omega)]
      simp
theorem runes_all (s : ByteArray) : Conv.runesFrom s s.size 0 #[] = ((pcs s).map fun p => Value.int .i32 p.rune).toArray := by
  rw [runesFrom_eq s s.size 0 #[] (by omega)]
  simp [pcs]
theorem enc_fold (l : List Pc) : (l.map (·.rune)).foldl (fun r n => r ++ Utf8.encode n) ByteArray.empty = enc l := by
  rw [List.foldl_map]
  rfl

end Go.Proofs.YtfjccjjdgbkbiaaDoor
