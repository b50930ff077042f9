/- word.Letters, word.Check. string(l), []rune(s): conversions between runes and strings. slices.Reverse over letters, walked. word.Text, Part, Turned. -/
import Derived.Test.YtimhlnndobfehaaDoorMc21
import Derived.Test.YtimhlnndobfehaaDoorMc18
import Derived.Test.YtimhlnndobfehaaDoorMc06
import Derived.Test.YtimhlnndobfehaaDoorChecked
import Derived.BigRegion
namespace Go.Proofs.YtimhlnndobfehaaDoor
open Go.RowKit
open Go.Lib (Utf8Tabs)
set_option linter.unusedVariables false

theorem rank_let {a : Al} (h : alOk a = true) (r : Int) : (rankF a.lets a.lets.length (.int .i32 r)).isSome = isLet a r := by
  rw [rank_num a h r]
  unfold isLet
  cases num a r <;> rfl
set_option maxHeartbeats 4000000 in
theorem letters_any (A1 A2 : Option Addr) (c1 c2 lo : Nat) (a : Al) (s : ByteArray) (w : World) (hin : AlIn w lo w.heap.size A1 A2 a) (hT : Utf8Tabs 0 1 w) (hm : s.size ≤ maxLen) :
    Calls Tryd.prog 61 #[.agg #[.slice A1 a.feats.length c1, .slice A2 a.lets.length c2], .string s] w (ReadOut (lettersS a s) w) := by
  have hal : Below w.heap.size w (w.alloc (.cells #[.slice A1 a.feats.length c1, .slice A2 a.lets.length c2] 25)) := (Below.refl _ _).alloc (Nat.le_refl _) _
  have hcall := Lib.hid (ranks_any A1 A2 c1 c2 lo a _ (hin.on hal))
  have HL : Hid (lettersS a s = if alOk a = true then readS a s else ([], 7)) := rfl
  go_enter Tryd.func61, Tryd.ntmps61
  go_wp2_with fail
  refine hcall.out.mono ?_
  rintro e w1 (⟨hok, rfl, hb1⟩ | ⟨hok, bm, n, rfl, hmap, hbm, hb1⟩)
  · have hfin := ReadOut.no (r := lettersS a s) (E := 7) (by rw [HL.out, hok]; rfl) (hal.trans (hb1.mono (by simp)))
    have HF := Lib.hid hfin
    clear hfin hcall hok
    go_wp2_with fail
    go_ret2
    exact HF.out
  · have hbw := hal.trans (hb1.mono (by simp))
    have hr := Lib.hid (read_any s bm n _ a w1 hmap (rank_let hok) (Utf8Tabs_below hT hbw) hm)
    have HE : Hid (lettersS a s = readS a s) := by show _ = _; rw [HL.out, if_pos hok]
    clear hcall hok hmap HL
    go_wp2_with fail
    refine hr.out.mono ?_
    rintro e w2 ⟨A, c, rfl, hown, hb2⟩
    have hfin : ReadOut (lettersS a s) w (.returned (.tuple #[.slice A (readS a s).1.length c, .int .i64 (readS a s).2])) w2 := by
      rw [HE.out]
      exact ⟨A, c, rfl, own_low hown hbw.size, hbw.trans (hb2.mono hbw.size)⟩
    have HF := Lib.hid hfin
    clear hfin hown hr HE
    generalize readS a s = R at *
    go_wp2_with fail
    go_ret2
    exact HF.out
end Go.Proofs.YtimhlnndobfehaaDoor
namespace Go.Proofs.YtimhlnndobfehaaDoor
open Go.RowKit Go.Lib
set_option linter.unusedVariables false

theorem run_forIn_runes {P : Program} {w : World} (f : Value → ByteArray → Sem (ForInStep ByteArray))
    (hf : ∀ (n : Int) (r : ByteArray), (f (.int .i32 n) r).run P w = .ok (.yield (r ++ Utf8.encode n)) w) :
    ∀ (ns : List Int) (s : ByteArray), (forIn (ns.map (Value.int .i32)) s f).run P w = .ok (ns.foldl (fun r n => r ++ Utf8.encode n) s) w := by
  intro ns
  induction ns with
  | nil => intro s; simp [Sem.run_pure]
  | cons n ns ih =>
    intro s
    simp only [List.map_cons, List.forIn_cons, Sem.run_bind, hf, Result.andThen, List.foldl_cons]
    exact ih _
theorem run_runesToString {P : Program} (w : World) (a : Addr) (len cap : Nat) (ns : List Int)
    (h : (loadCells a len).run P w = .ok (ns.map (Value.int .i32)).toArray w) :
    (Conv.runesToString (.slice (some a) len cap)).run P w = .ok (.string (ns.foldl (fun r n => r ++ Utf8.encode n) ByteArray.empty)) w := by
  unfold Conv.runesToString
  simp only [Sem.run_bind, h, Result.andThen, List.forIn_toArray]
  rw [run_forIn_runes _ (by intro n r; simp [Sem.run_pure])]
  simp [Sem.run_pure]
theorem run_convert_runes_string {P : Program} (w : World) (src dst e : TypeId) (a : Option Addr) (l c : Nat)
    (hs : P.underlying src = some (.slice e)) (he : P.underlying e = some (.int .i32)) (hd : P.underlying dst = some .string) :
    (convert src dst (.slice a l c)).run P w = (Conv.runesToString (.slice a l c)).run P w := by
  simp [convert, run_underlying hs, run_underlying hd, run_underlying he]

theorem runesFrom_eq (s : ByteArray) : ∀ (f i : Nat) (acc : Array Value), s.size - i ≤ f → Conv.runesFrom s f i acc = acc ++ ((pcsFrom s i).map fun p => Value.int .i32 p.rune).toArray
  | 0, i, acc, h => by
    rw [pcsFrom_end s i (by omega)]
    simp [Conv.runesFrom]
  | f + 1, i, acc, h => by
    unfold Conv.runesFrom
    by_cases hi : i < s.size
    · have hw := decode_width s i hi
      rw [if_pos hi, pcsFrom_step s i hi]
      simp only
      rw [runesFrom_eq s f _ _ (by omega)]
      simp [pcAt]
    · rw [if_neg hi, pcsFrom_end s i (by omega)]
      simp
theorem runes_all (s : ByteArray) : Conv.runesFrom s s.size 0 #[] = ((pcs s).map fun p => Value.int .i32 p.rune).toArray := by
  rw [runesFrom_eq s s.size 0 #[] (by omega)]
  simp [pcs]
theorem enc_fold (l : List Pc) : (l.map (·.rune)).foldl (fun r n => r ++ Utf8.encode n) ByteArray.empty = enc l := by
  rw [List.foldl_map]
  rfl

end Go.Proofs.YtimhlnndobfehaaDoor
namespace Go.Proofs.YtimhlnndobfehaaDoor
open Go.RowKit
set_option linter.unusedVariables false

def RevAt (l : List Int) (k : Nat) (xs : List Int) : Prop := xs.length = l.length ∧ ∀ t (ht : t < l.length) (hx : t < xs.length), xs[t] = if t < k ∨ l.length - 1 - t < k then l[l.length - 1 - t]'(by omega) else l[t]
theorem RevAt.step {l xs : List Int} {k : Nat} (h : RevAt l k xs) (hk : 2 * k + 1 < l.length) (h1 : k < xs.length) (h2 : l.length - 1 - k < xs.length) : RevAt l (k + 1) ((xs.set k xs[l.length - 1 - k]).set (l.length - 1 - k) xs[k]) := by
  refine ⟨by simp [h.1], fun t ht hx => ?_⟩
  have e1 := h.2 (l.length - 1 - k) (by omega) h2
  have e2 := h.2 k (by omega) h1
  rw [if_neg (by omega)] at e1 e2
  rw [List.getElem_set]
  by_cases ht1 : l.length - 1 - k = t
  · rw [if_pos ht1, if_pos (by omega), e2]
    congr 1
    omega
  · rw [if_neg ht1, List.getElem_set]
    by_cases ht2 : k = t
    · rw [if_pos ht2, if_pos (by omega), e1]
      congr 1
      omega
    · rw [if_neg ht2, h.2 t ht (by simpa using hx)]
      by_cases hc : t < k ∨ l.length - 1 - t < k
      · rw [if_pos hc, if_pos (by omega)]
      · rw [if_neg hc, if_neg (by omega)]
theorem RevAt.step' {l xs : List Int} {k m : Nat} (h : RevAt l k xs) (hk : 2 * k + 1 < l.length) (hm : l.length - 1 - k = m) (h1 : k < xs.length) (h2 : m < xs.length) : RevAt l (k + 1) ((xs.set k xs[m]).set m xs[k]) := by
  subst hm
  exact h.step hk h1 h2
theorem RevAt.done {l xs : List Int} {k : Nat} (h : RevAt l k xs) (hk : l.length ≤ 2 * k + 1) : xs = l.reverse := by
  refine List.ext_getElem (by rw [h.1, List.length_reverse]) fun t h1 h2 => ?_
  have ht : t < l.length := by rw [← h.1]; exact h1
  rw [h.2 t ht h1, List.getElem_reverse]
  by_cases hc : t < k ∨ l.length - 1 - t < k
  · rw [if_pos hc]
  · rw [if_neg hc]
    congr 1
    omega
def runeVs' (l : List Int) : List Value := l.map (Value.int .i32)
def RevSt (l : List Int) (base g c : Nat) (w : World) (i j : Value) (wr : World) : Prop :=
  ∃ (k : Nat) (xs : List Int), 2 * k ≤ l.length ∧ i = .int .i64 (k : Int) ∧ j = .int .i64 ((l.length : Int) - 1 - k) ∧ RevAt l k xs ∧ wr.ownsRow base 21 1 (.slice (some ⟨g, 0, none⟩) l.length c) l.length (runeVs' xs) ∧ Fr (fun k => k = g) w wr

end Go.Proofs.YtimhlnndobfehaaDoor
namespace Go.Proofs.YtimhlnndobfehaaDoor
open Go.RowKit
open Go.Lib (Utf8Tabs)
set_option linter.unusedVariables false

def encR (l : List Int) : ByteArray := l.foldl (fun r n => r ++ Utf8.encode n) ByteArray.empty
/-- A slice's cells are letters. -/
def RunesAt (w : World) (A : Option Addr) (l : List Int) : Prop := (A = none → l = []) ∧ ∀ ad, A = some ad → ∀ j v, (runeVs l)[j]? = some v → w.cell? (ad.add j) = some v
theorem RunesAt.same {w w' : World} {A : Option Addr} {l : List Int} (h : RunesAt w A l) (hc : ∀ a v, w.cell? a = some v → w'.cell? a = some v) : RunesAt w' A l := ⟨h.1, fun ad ha j v hj => hc _ _ (h.2 ad ha j v hj)⟩
theorem runes_own {w : World} {base n : Nat} {A : Option Addr} {c : Nat} {l : List Int} (h : w.ownsRow base 21 1 (.slice A n c) n (runeVs l)) : RunesAt w A l := by
  have hl := h.1
  refine ⟨fun hA => ?_, fun ad ha j v hj => ?_⟩
  · rcases h.2 with ⟨_, h0⟩ | ⟨g, cap, cur, hv, _⟩
    · subst h0
      unfold runeVs at hl
      rw [List.length_map, Nat.zero_mul] at hl
      exact List.eq_nil_of_length_eq_zero hl
    · subst hA
      cases hv
  · rcases h.2 with ⟨hv, h0⟩ | ⟨g, cap, cur, hv, _⟩
    · injection hv with hv
      rw [ha] at hv
      cases hv
    · injection hv with hv
      rw [ha] at hv
      injection hv with hv
      subst hv
      exact h.cells (g := g) (by rw [ha]; rfl) j v hj
theorem runes_sl {w : World} {lo hi : Nat} {A : Option Addr} {l : List Int} (h : Sl 1 (vInt .i32) w lo hi A l) : RunesAt w A l := by
  refine ⟨fun hA => ?_, fun ad ha j v hj => ?_⟩
  · subst hA
    rcases Nat.eq_zero_or_pos l.length with h0 | h0
    · exact List.eq_nil_of_length_eq_zero h0
    · obtain ⟨b, off, e, _⟩ := h h0
      cases e
  · unfold runeVs at hj
    rw [List.getElem?_map] at hj
    have hjl : j < l.length := by
      apply Nat.lt_of_not_le
      intro hh
      rw [List.getElem?_eq_none hh] at hj
      cases hj
    rw [List.getElem?_eq_getElem hjl, Option.map_some] at hj
    injection hj with hj
    obtain ⟨b, off, e, _, _, ⟨h1, _⟩, _⟩ := ints_at h hjl
    rw [ha] at e
    injection e with e
    subst e
    rw [Addr.add_lit, ← hj]
    exact h1
theorem conv_runes {P : Program} {w : World} {src dst e : TypeId} (hs : P.underlying src = some (.slice e)) (he : P.underlying e = some (.int .i32)) (hd : P.underlying dst = some .string) {A : Option Addr} {n c : Nat} {l : List Int} (h : RunesAt w A l) (hn : n = l.length) :
    (convert src dst (.slice A n c)).run P w = .ok (.string (encR l)) w := by
  subst hn
  rw [run_convert_runes_string w src dst e _ _ _ hs he hd]
  cases A with
  | none =>
    have := h.1 rfl
    subst this
    simp [Conv.runesToString, Sem.run_pure]
    rfl
  | some ad =>
    refine run_runesToString w ad _ _ l ?_
    have := run_loadCells_list (P := P) w ad (runeVs l) (fun j v hj => h.2 ad rfl j v hj)
    unfold runeVs at this
    rw [List.length_map] at this
    exact this
theorem add_add (a : Addr) (f j : Nat) : (a.add f).add j = a.add (f + j) := by
  unfold Addr.add
  by_cases hf : f = 0 <;> by_cases hj : j = 0 <;> simp [hf, hj, Nat.add_assoc]
theorem RunesAt.sliced {w : World} {A : Option Addr} {l : List Int} (h : RunesAt w A l) (f t m : Nat) (hft : f ≤ t) (ht : t ≤ l.length) (hm : t ≤ m) : ∃ A', Go.sliced A f t m 1 = .slice A' ((l.drop f).take (t - f)).length (m - f) ∧ RunesAt w A' ((l.drop f).take (t - f)) := by
  unfold Go.sliced
  refine ⟨_, by rw [List.length_take, List.length_drop, Nat.min_eq_left (by omega)], ?_⟩
  by_cases hmf : m = f
  · have : (l.drop f).take (t - f) = [] := by
      rw [show t - f = 0 by omega]
      rfl
    rw [this]
    exact ⟨fun _ => rfl, fun ad _ j v hj => by simp [runeVs] at hj⟩
  · rw [if_neg hmf]
    refine ⟨fun hA => ?_, fun ad ha j v hj => ?_⟩
    · cases A with
      | none =>
        have := h.1 rfl
        subst this
        simp
      | some ad => cases hA
    · cases A with
      | none => cases ha
      | some ad0 =>
        simp only [Option.map_some, Option.some.injEq] at ha
        subst ha
        unfold runeVs at hj
        rw [List.getElem?_map, List.getElem?_take] at hj
        split at hj
        · rw [List.getElem?_drop, ← List.getElem?_map] at hj
          have := h.2 ad0 rfl (f + j) v hj
          rw [Nat.mul_one, add_add]
          exact this
        · cases hj

def textS (a : Al) (l : List Int) : ByteArray × Int := if alOk a = false then (⟨#[]⟩, 7) else if 256 < l.length then (⟨#[]⟩, 4) else if l.all (isLet a) then (encR l, 0) else (⟨#[]⟩, 5)
def partW (a : Al) (s : ByteArray) (f t : Int) : ByteArray × Int :=
  if (lettersS a s).2 ≠ 0 then (⟨#[]⟩, (lettersS a s).2) else if f < 0 ∨ t < f ∨ ((lettersS a s).1.length : Int) < t then (⟨#[]⟩, 2) else (encR (((lettersS a s).1.drop f.toNat).take (t.toNat - f.toNat)), 0)
def turnedS (a : Al) (s : ByteArray) : ByteArray × Int := if (lettersS a s).2 ≠ 0 then (⟨#[]⟩, (lettersS a s).2) else (encR (lettersS a s).1.reverse, 0)
def StrOut (r : ByteArray × Int) (W : World) (e : Ending) (w' : World) : Prop := e = .returned (.tuple #[.string r.1, .int .i64 r.2]) ∧ Below W.heap.size W w'
theorem StrOut.mk' {r : ByteArray × Int} {W w' : World} {x : ByteArray} {E : Int} (h : r = (x, E)) (hb : Below W.heap.size W w') : StrOut r W (.returned (.tuple #[.string x, .int .i64 E])) w' := by
  subst h
  exact ⟨rfl, hb⟩
theorem letters_len (a : Al) (s : ByteArray) : (lettersS a s).1.length ≤ 64 := by
  have key : ∀ (l : List Pc) (acc : List Int), acc.length ≤ 64 → (readP (isLet a) 64 l acc).1.length ≤ 64 := by
    intro l
    induction l with
    | nil => exact fun acc h => h
    | cons p l ih =>
      intro acc h
      unfold readP
      split
      · simp
      · split
        · simp
        · split
          · simp
          · exact ih _ (by rw [List.length_append]; simp; omega)
  unfold lettersS
  split
  · exact key _ _ (by simp)
  · simp
/-- An error's number is an int's; it is nought, or there are no letters. -/
theorem letters_err (a : Al) (s : ByteArray) : (lettersS a s).2 = 0 ∨ (1 ≤ (lettersS a s).2 ∧ (lettersS a s).2 ≤ 7 ∧ (lettersS a s).1 = []) := by
  have key : ∀ (l : List Pc) (acc : List Int), (readP (isLet a) 64 l acc).2 = 0 ∨ (1 ≤ (readP (isLet a) 64 l acc).2 ∧ (readP (isLet a) 64 l acc).2 ≤ 7 ∧ (readP (isLet a) 64 l acc).1 = []) := by
    intro l
    induction l with
    | nil => exact fun acc => .inl rfl
    | cons p l ih =>
      intro acc
      unfold readP
      split
      · exact .inr ⟨by decide, by decide, rfl⟩
      · split
        · exact .inr ⟨by decide, by decide, rfl⟩
        · split
          · exact .inr ⟨by decide, by decide, rfl⟩
          · exact ih _
  unfold lettersS
  split
  · exact key _ _
  · exact .inr ⟨by decide, by decide, rfl⟩

end Go.Proofs.YtimhlnndobfehaaDoor
