/- word.Text, Part, Turned. -/
import Derived.Test.YtfjccjjdgbkbiaaDoorLetters
import Derived.Test.YtfjccjjdgbkbiaaDoorRuneConv
import Derived.Test.YtfjccjjdgbkbiaaDoorRev
namespace Go.Proofs.YtfjccjjdgbkbiaaDoor
open Go.RowKit
open Go.Lib (Utf8Tabs)
set_option linter.unusedVariables false

def encR (l : List Int) : ByteArray := l.foldl (fun r n => r ++ Utf8.encode n) ByteArray.empty
/-- A slice's cells are letters. -/
def RunesAt (w : World) (A : Option Addr) (l : List Int) : Prop := (A = none → l = []) ∧ ∀ ad, A = some ad → ∀ j v, (runeVs l)[j]? = some v → w.cell? (ad.add j) = some v
theorem RunesAt.same {w w' : World} {A : Option Addr} {l : List Int} (h : RunesAt w A l) (hc : ∀ a v, w.cell? a = some v → w'.cell? a = some v) : RunesAt w' A l := ⟨h.1, fun ad ha j v hj => hc _ _ (h.2 ad ha j v hj)⟩
theorem runes_own {w : World} {base n : Nat} {A : Option Addr} {c : Nat} {l : List Int} (h : w.ownsRow base 21 1 (.slice A n c) n (runeVs l)) : RunesAt w A l := by
  have hl := h.1
  refine ⟨fun hA => ?_, fun ad ha j v hj => ?_⟩
  · rcases h.2 with ⟨_, h0⟩ | ⟨g, cap, cur, hv, _⟩
    · subst h0
      unfold runeVs at hl
      rw [List.length_map, Nat.zero_mul] at hl
      exact List.eq_nil_of_length_eq_zero hl
    · subst hA
      cases hv
  · rcases h.2 with ⟨hv, h0⟩ | ⟨g, cap, cur, hv, _⟩
    · injection hv with hv
      rw [ha] at hv
      cases hv
    · injection hv with hv
      rw [ha] at hv
      injection hv with hv
      subst hv
      exact h.cells (g := g) (by rw [ha]; rfl) j v hj
theorem runes_sl {w : World} {lo hi : Nat} {A : Option Addr} {l : List Int} (h : Sl 1 (vInt .i32) w lo hi A l) : RunesAt w A l := by
  refine ⟨fun hA => ?_, fun ad ha j v hj => ?_⟩
  · subst hA
    rcases Nat.eq_zero_or_pos l.length with h0 | h0
    · exact List.eq_nil_of_length_eq_zero h0
    · obtain ⟨b, off, e, _⟩ := h h0
      cases e
  · unfold runeVs at hj
    rw [List.getElem?_map] at hj
    have hjl : j < l.length := by
      apply Nat.lt_of_not_le
      intro hh
      rw [List.getElem?_eq_none hh] at hj
      cases hj
    rw [List.getElem?_eq_getElem hjl, Option.map_some] at hj
    injection hj with hj
    obtain ⟨b, off, e, _, _, ⟨h1, _⟩, _⟩ := ints_at h hjl
    rw [ha] at e
    injection e with e
    subst e
    rw [Addr.add_lit, ← hj]
    exact h1
theorem conv_runes {P : Program} {w : World} {src dst e : TypeId} (hs : P.underlying src = some (.slice e)) (he : P.underlying e = some (.int .i32)) (hd : P.underlying dst = some .string) {A : Option Addr} {n c : Nat} {l : List Int} (h : RunesAt w A l) (hn : n = l.length) :
    (convert src dst (.slice A n c)).run P w = .ok (.string (encR l)) w := by
  subst hn
  rw [run_convert_runes_string w src dst e _ _ _ hs he hd]
  cases A with
  | none =>
    have := h.1 rfl
    subst this
    simp [Conv.runesToString, Sem.run_pure]
    rfl
  | some ad =>
    refine run_runesToString w ad _ _ l ?_
    have := run_loadCells_list (P := P) w ad (runeVs l) (fun j v hj => h.2 ad rfl j v hj)
    unfold runeVs at this
    rw [List.length_map] at this
    exact this
theorem add_add (a : Addr) (f j : Nat) : (a.add f).add j = a.add (f + j) := by
  unfold Addr.add
  by_cases hf : f = 0 <;> by_cases hj : j = 0 <;> simp [hf, hj, Nat.add_assoc]
theorem RunesAt.sliced {w : World} {A : Option Addr} {l : List Int} (h : RunesAt w A l) (f t m : Nat) (hft : f ≤ t) (ht : t ≤ l.length) (hm : t ≤ m) : ∃ A', Go.sliced A f t m 1 = .slice A' ((l.drop f).take (t - f)).length (m - f) ∧ RunesAt w A' ((l.drop f).take (t - f)) := by
  unfold Go.sliced
  refine ⟨_, by rw [List.length_take, List.length_drop, Nat.min_eq_left (by omega)], ?_⟩
  by_cases hmf : m = f
  · have : (l.drop f).take (t - f) = [] := by
      rw [show t - f = 0 by omega]
      rfl
    rw [this]
    exact ⟨fun _ => rfl, fun ad _ j v hj => by simp [runeVs] at hj⟩
  · rw [if_neg hmf]
    refine ⟨fun hA => ?_, fun ad ha j v hj => ?_⟩
    · cases A with
      | none =>
        have := h.1 rfl
        subst this
        simp
      | some ad => cases hA
    · cases A with
      | none => cases ha
      | some ad0 =>
        simp only [Option.map_some, Option.some.injEq] at ha
        subst ha
        unfold runeVs at hj
        rw [List.getElem?_map, List.getElem?_take] at hj
        split at hj
        · rw [List.getElem?_drop, ← List.getElem?_map] at hj
          have := h.2 ad0 rfl (f + j) v hj
          rw [Nat.mul_one, add_add]
          exact this
        · cases hj

def textS (a : Al) (l : List Int) : ByteArray × Int := if alOk a = false then (⟨#[]⟩, 7) else if 256 < l.length then (⟨#[]⟩, 4) else if l.all (isLet a) then (encR l, 0) else (⟨#[]⟩, 5)
def partW (a : Al) (s : ByteArray) (f t : Int) : ByteArray × Int :=
  if (lettersS a s).2 ≠ 0 then (⟨#[]⟩, (lettersS a s).2) else if f < 0 ∨ t < f ∨ ((lettersS a s).1.length : Int) < t then (⟨#[]⟩, 2) else (encR (((lettersS a s).1.drop f.toNat).take (t.toNat - f.toNat)), 0)
def turnedS (a : Al) (s : ByteArray) : ByteArray × Int := if (lettersS a s).2 ≠ 0 then (⟨#[]⟩, (lettersS a s).2) else (encR (lettersS a s).1.reverse, 0)
def StrOut (r : ByteArray × Int) (W : World) (e : Ending) (w' : World) : Prop := e = .returned (.tuple #[.string r.1, .int .i64 r.2]) ∧ Below W.heap.size W w'
theorem StrOut.mk' {r : ByteArray × Int} {W w' : World} {x : ByteArray} {E : Int} (h : r = (x, E)) (hb : Below W.heap.size W w') : StrOut r W (.returned (.tuple #[.string x, .int .i64 E])) w' := by
  subst h
  exact ⟨rfl, hb⟩
theorem letters_len (a : Al) (s : ByteArray) : (lettersS a s).1.length ≤ 64 := by
  have key : ∀ (l : List Pc) (acc : List Int), acc.length ≤ 64 → (readP (isLet a) 64 l acc).1.length ≤ 64 := by
    intro l
    induction l with
    | nil => exact fun acc h => h
    | cons p l ih =>
      intro acc h
      unfold readP
      split
      · simp
      · split
        · simp
        · split
          · simp
          · exact ih _ (by rw [List.length_append]; simp; omega)
  unfold lettersS
  split
  · exact key _ _ (by simp)
  · simp
/-- An error's number is an int's; it is nought, or there are no letters. -/
theorem letters_err (a : Al) (s : ByteArray) : (lettersS a s).2 = 0 ∨ (1 ≤ (lettersS a s).2 ∧ (lettersS a s).2 ≤ 7 ∧ (lettersS a s).1 = []) := by
  have key : ∀ (l : List Pc) (acc : List Int), (readP (isLet a) 64 l acc).2 = 0 ∨ (1 ≤ (readP (isLet a) 64 l acc).2 ∧ (readP (isLet a) 64 l acc).2 ≤ 7 ∧ (readP (isLet a) 64 l acc).1 = []) := by
    intro l
    induction l with
    | nil => exact fun acc => .inl rfl
    | cons p l ih =>
      intro acc
      unfold readP
      split
      · exact .inr ⟨by decide, by decide, rfl⟩
      · split
        · exact .inr ⟨by decide, by decide, rfl⟩
        · split
          · exact .inr ⟨by decide, by decide, rfl⟩
          · exact ih _
  unfold lettersS
  split
  · exact key _ _
  · exact .inr ⟨by decide, by decide, rfl⟩

set_option maxHeartbeats 4000000 in
theorem turned_any (A1 A2 : Option Addr) (c1 c2 lo : Nat) (a : Al) (s : ByteArray) (w : World) (hin : AlIn w lo w.heap.size A1 A2 a) (hT : Utf8Tabs 0 1 w) (hm : s.size ≤ maxLen) :
    Calls Tryd.prog 16 #[.agg #[.slice A1 a.feats.length c1, .slice A2 a.lets.length c2], .string s] w (StrOut (turnedS a s) w) := by
  have hal : Below w.heap.size w (w.alloc (.cells #[.slice A1 a.feats.length c1, .slice A2 a.lets.length c2] 25)) := (Below.refl _ _).alloc (Nat.le_refl _) _
  have hcall := Lib.hid (letters_any A1 A2 c1 c2 lo a s _ (hin.on hal) (Utf8Tabs_below hT hal) hm)
  have hlen := letters_len a s
  have herr := letters_err a s
  have HT : Hid (turnedS a s = if (lettersS a s).2 ≠ 0 then (⟨#[]⟩, (lettersS a s).2) else (encR (lettersS a s).1.reverse, 0)) := rfl
  generalize lettersS a s = R at *
  obtain ⟨l, E⟩ := R
  simp only at *
  rcases herr with h0 | ⟨h1, h2, h3⟩
  · subst h0
    have HTT : Hid (turnedS a s = (encR l.reverse, 0)) := by show _ = _; rw [HT.out, if_neg (by simp)]
    clear HT
    go_enter Tryd.func16, Tryd.ntmps16
    go_wp2_with fail
    refine hcall.out.mono ?_
    rintro e w1 ⟨A, c, rfl, hown, hb1⟩
    have hbw := hal.trans (hb1.mono (by simp))
    have hrev := Lib.hid (reverse_any _ A c l w1 hown (by omega))
    have hge := fun k hk => (hown.lt k hk).1
    clear hcall hown
    go_wp2_with fail
    refine hrev.out.mono ?_
    rintro e w2 ⟨rfl, hown2, hf2⟩
    have hb2 : Below w.heap.size w w2 := hbw.trans (hf2.below (fun k hk => by have := hge k hk; simp at this; omega) hbw.size)
    have hrl : l.reverse.length = l.length := List.length_reverse
    have hconv := conv_runes (P := Tryd.prog) (src := 26) (dst := 9) (n := l.length) (c := c) Tryd.underlying26 Tryd.underlying21 Tryd.underlying9 (runes_own hown2) hrl.symm
    have HF := Lib.hid (StrOut.mk' HTT.out hb2)
    generalize encR l.reverse = X at *
    clear hown2 hf2 hrl hrev HTT
    go_wp2_with fail
    go_ret2
    exact HF.out
  · subst h3
    have HTT : Hid (turnedS a s = (⟨#[]⟩, E)) := by show _ = _; rw [HT.out, if_pos (by omega)]
    have hne : (E != 0) = true := by rw [bne_iff_ne]; omega
    clear HT
    go_enter Tryd.func16, Tryd.ntmps16
    go_wp2_with fail
    refine hcall.out.mono ?_
    rintro e w1 ⟨A, c, rfl, hown, hb1⟩
    have HF := Lib.hid (StrOut.mk' HTT.out (hal.trans (hb1.mono (by simp))))
    clear hcall hown HTT
    go_wp2_with fail
    go_ret2
    exact HF.out
end Go.Proofs.YtfjccjjdgbkbiaaDoor
