/- string(l), []rune(s): conversions between runes and strings. -/
import Derived.Test.YtfjccjjdgbkbiaaDoorPcMem
namespace Go.Proofs.YtfjccjjdgbkbiaaDoor
open Go.RowKit Go.Lib
set_option linter.unusedVariables false

theorem run_forIn_runes {P : Program} {w : World} (f : Value → ByteArray → Sem (ForInStep ByteArray))
    (hf : ∀ (n : Int) (r : ByteArray), (f (.int .i32 n) r).run P w = .ok (.yield (r ++ Utf8.encode n)) w) :
    ∀ (ns : List Int) (s : ByteArray), (forIn (ns.map (Value.int .i32)) s f).run P w = .ok (ns.foldl (fun r n => r ++ Utf8.encode n) s) w := by
  intro ns
  induction ns with
  | nil => intro s; simp [Sem.run_pure]
  | cons n ns ih =>
    intro s
    simp only [List.map_cons, List.forIn_cons, Sem.run_bind, hf, Result.andThen, List.foldl_cons]
    exact ih _
theorem run_runesToString {P : Program} (w : World) (a : Addr) (len cap : Nat) (ns : List Int)
    (h : (loadCells a len).run P w = .ok (ns.map (Value.int .i32)).toArray w) :
    (Conv.runesToString (.slice (some a) len cap)).run P w = .ok (.string (ns.foldl (fun r n => r ++ Utf8.encode n) ByteArray.empty)) w := by
  unfold Conv.runesToString
  simp only [Sem.run_bind, h, Result.andThen, List.forIn_toArray]
  rw [run_forIn_runes _ (by intro n r; simp [Sem.run_pure])]
  simp [Sem.run_pure]
theorem run_convert_runes_string {P : Program} (w : World) (src dst e : TypeId) (a : Option Addr) (l c : Nat)
    (hs : P.underlying src = some (.slice e)) (he : P.underlying e = some (.int .i32)) (hd : P.underlying dst = some .string) :
    (convert src dst (.slice a l c)).run P w = (Conv.runesToString (.slice a l c)).run P w := by
  simp [convert, run_underlying hs, run_underlying hd, run_underlying he]

theorem runesFrom_eq (s : ByteArray) : ∀ (f i : Nat) (acc : Array Value), s.size - i ≤ f → Conv.runesFrom s f i acc = acc ++ ((pcsFrom s i).map fun p => Value.int .i32 p.rune).toArray
  | 0, i, acc, h => by
    rw [pcsFrom_end s i (by omega)]
    simp [Conv.runesFrom]
  | f + 1, i, acc, h => by
    unfold Conv.runesFrom
    by_cases hi : i < s.size
    · have hw := decode_width s i hi
      rw [if_pos hi, pcsFrom_step s i hi]
      simp only
      rw [runesFrom_eq s f _ _ (by omega)]
      simp [pcAt]
    · rw [if_neg hi, pcsFrom_end s i (by omega)]
      simp
theorem runes_all (s : ByteArray) : Conv.runesFrom s s.size 0 #[] = ((pcs s).map fun p => Value.int .i32 p.rune).toArray := by
  rw [runesFrom_eq s s.size 0 #[] (by omega)]
  simp [pcs]
theorem enc_fold (l : List Pc) : (l.map (·.rune)).foldl (fun r n => r ++ Utf8.encode n) ByteArray.empty = enc l := by
  rw [List.foldl_map]
  rfl

end Go.Proofs.YtfjccjjdgbkbiaaDoor
