/- The program's Back. -/
import Derived.Test.YtokdpfapakemmaaDoorPiecesP
namespace Go.Proofs.YtokdpfapakemmaaDoor
open Go.RowKit Go.Lib
set_option linter.unusedVariables false

theorem run_forIn_runes {P : Program} {w : World} (f : Value → ByteArray → Sem (ForInStep ByteArray))
    (hf : ∀ (n : Int) (r : ByteArray), (f (.int .i32 n) r).run P w = .ok (.yield (r ++ Utf8.encode n)) w) :
    ∀ (ns : List Int) (s : ByteArray), (forIn (ns.map (Value.int .i32)) s f).run P w = .ok (ns.foldl (fun r n => r ++ Utf8.encode n) s) w := by
  intro ns
  induction ns with
  | nil => intro s; simp [Sem.run_pure]
  | cons n ns ih =>
    intro s
    simp only [List.map_cons, List.forIn_cons, Sem.run_bind, hf, Result.andThen, List.foldl_cons]
    exact ih _
theorem run_runesToString {P : Program} (w : World) (a : Addr) (len cap : Nat) (ns : List Int)
    (h : (loadCells a len).run P w = .ok (ns.map (Value.int .i32)).toArray w) :
    (Conv.runesToString (.slice (some a) len cap)).run P w = .ok (.string (ns.foldl (fun r n => r ++ Utf8.encode n) ByteArray.empty)) w := by
  unfold Conv.runesToString
  simp only [Sem.run_bind, h, Result.andThen, List.forIn_toArray]
  rw [run_forIn_runes _ (by intro n r; simp [Sem.run_pure])]
  simp [Sem.run_pure]
theorem run_convert_runes_string {P : Program} (w : World) (src dst e : TypeId) (a : Option Addr) (l c : Nat)
    (hs : P.underlying src = some (.slice e)) (he : P.underlying e = some (.int .i32)) (hd : P.underlying dst = some .string) :
    (convert src dst (.slice a l c)).run P w = (Conv.runesToString (.slice a l c)).run P w := by
  simp [convert, run_underlying hs, run_underlying hd, run_underlying he]

theorem runesFrom_eq (s : ByteArray) : ∀ (f i : Nat) (acc : Array Value), s.size - i ≤ f → Conv.runesFrom s f i acc = acc ++ ((pcsFrom s i).map fun p => Value.int .i32 p.rune).toArray
  | 0, i, acc, h => by
    rw [pcsFrom_end s i (by omega)]
    simp [Conv.runesFrom]
  | f + 1, i, acc, h => by
    unfold Conv.runesFrom
    by_cases hi : i < s.size
    · have hw := decode_width s i hi
      rw [if_pos hi, pcsFrom_step s i hi]
      simp only
      rw [runesFrom_eq s f _ _ (by omega)]
      simp [pcAt]
    · rw [if_neg hi, pcsFrom_end s i (by omega)]
      simp
theorem runes_all (s : ByteArray) : Conv.runesFrom s s.size 0 #[] = ((pcs s).map fun p => Value.int .i32 p.rune).toArray := by
  rw [runesFrom_eq s s.size 0 #[] (by omega)]
  simp [pcs]
theorem enc_fold (l : List Pc) : (l.map (·.rune)).foldl (fun r n => r ++ Utf8.encode n) ByteArray.empty = enc l := by
  rw [List.foldl_map]
  rfl

set_option maxHeartbeats 2000000 in
set_option maxRecDepth 100000 in
theorem back_any (s : ByteArray) (w : World) (hs : s.size ≤ 65536) :
    Calls Tryd.prog 26 #[.string s] w fun e w' => e = .returned (.tuple #[.string (enc (pcs s)), .int .i64 0]) ∧ Below w.heap.size w w' := by
  have hpl := pcs_le s
  obtain ⟨C, hC⟩ : ∃ C, C = grownCap w (pcs s).length 0 21 := ⟨_, rfl⟩
  have h1 : (convert 9 83 (.string s)).run Tryd.prog w = .ok (.slice (some ⟨w.heap.size, 0, none⟩) (pcs s).length C) (w.drew.alloc (.cells (((pcs s).map fun p => Value.int .i32 p.rune).toArray ++ Array.replicate (C - (pcs s).length) (.int .i32 0)) 21)) := by
    have := run_runes_of_string (P := Tryd.prog) w 9 83 21 s Tryd.underlying9 Tryd.underlying83 Tryd.underlying21 (by rw [runes_all]; simp; omega)
    rw [runes_all] at this
    simp only [List.size_toArray, List.length_map] at this
    rw [hC]
    exact this
  have h2 : ∀ W : World, (∀ j v, ((pcs s).map fun p => Value.int .i32 p.rune)[j]? = some v → W.cell? ⟨w.heap.size, j, none⟩ = some v) → (convert 83 9 (.slice (some ⟨w.heap.size, 0, none⟩) (pcs s).length C)).run Tryd.prog W = .ok (.string (enc (pcs s))) W := by
    intro W hc
    rw [run_convert_runes_string W 83 9 21 _ _ _ Tryd.underlying83 Tryd.underlying21 Tryd.underlying9, ← enc_fold]
    refine run_runesToString W _ _ _ _ ?_
    have := run_loadCells_list (P := Tryd.prog) W ⟨w.heap.size, 0, none⟩ ((pcs s).map fun p => Value.int .i32 p.rune) (fun j v hj => by rw [Addr.add_lit, Nat.zero_add]; exact hc j v hj)
    rw [List.length_map] at this
    rw [List.map_map]
    exact this
  have h3 := h2 (w.drew.alloc (.cells (((pcs s).map fun p => Value.int .i32 p.rune).toArray ++ Array.replicate (C - (pcs s).length) (.int .i32 0)) 21)) (fun j v hj => by
    have hh := heap_alloc_new w.drew (.cells (((pcs s).map fun p => Value.int .i32 p.rune).toArray ++ Array.replicate (C - (pcs s).length) (.int .i32 0)) 21)
    have hjl := (List.getElem?_eq_some_iff.1 hj).1
    unfold World.cell?
    rw [show (w.drew.alloc (.cells (((pcs s).map fun p => Value.int .i32 p.rune).toArray ++ Array.replicate (C - (pcs s).length) (.int .i32 0)) 21)).heap[w.heap.size]? = _ from hh]
    simp only [Option.isSome_none, Bool.false_eq_true, if_false]
    rw [Array.getElem?_append_left (by simpa using hjl), List.getElem?_toArray]
    exact hj)
  generalize hE : enc (pcs s) = E at *
  have HE := Lib.hid hE
  generalize ((pcs s).map fun p => Value.int .i32 p.rune).toArray ++ Array.replicate (C - (pcs s).length) (.int .i32 0) = CC at *
  generalize (pcs s).length = n at *
  clear h2 hE hC
  have h4 : (convert 83 9 (.slice (some ⟨w.heap.size, 0, none⟩) n C)).run Tryd.prog (w.alloc (.cells CC 21)).drew = .ok (.string E) (w.alloc (.cells CC 21)).drew := h3
  clear h3
  go_enter Tryd.func26, Tryd.ntmps26
  go_wp2_with (go_at_call 29; refine (long_rok s _ hs).mono ?_; rintro e w' ⟨rfl, rfl⟩)
  go_ret2
  exact ⟨rfl, (Below.refl _ _).drew.alloc (Nat.le_refl _) _⟩
end Go.Proofs.YtokdpfapakemmaaDoor
