/- slices.Reverse over letters, walked. -/
import Derived.Test.YtfjccjjdgbkbiaaDoorOwn
import Derived.Test.YtfjccjjdgbkbiaaDoorChecked
import Derived.BigRegion
namespace Go.Proofs.YtfjccjjdgbkbiaaDoor
open Go.RowKit
set_option linter.unusedVariables false

def RevAt (l : List Int) (k : Nat) (xs : List Int) : Prop := xs.length = l.length ∧ ∀ t (ht : t < l.length) (hx : t < xs.length), xs[t] = if t < k ∨ l.length - 1 - t < k then l[l.length - 1 - t]'(by omega) else l[t]
theorem RevAt.step {l xs : List Int} {k : Nat} (h : RevAt l k xs) (hk : 2 * k + 1 < l.length) (h1 : k < xs.length) (h2 : l.length - 1 - k < xs.length) : RevAt l (k + 1) ((xs.set k xs[l.length - 1 - k]).set (l.length - 1 - k) xs[k]) := by
  refine ⟨by simp [h.1], fun t ht hx => ?_⟩
  have e1 := h.2 (l.length - 1 - k) (by omega) h2
  have e2 := h.2 k (by omega) h1
  rw [if_neg (by omega)] at e1 e2
  rw [List.getElem_set]
  by_cases ht1 : l.length - 1 - k = t
  · rw [if_pos ht1, if_pos (by omega), e2]
    congr 1
    omega
  · rw [if_neg ht1, List.getElem_set]
    by_cases ht2 : k = t
    · rw [if_pos ht2, if_pos (by omega), e1]
      congr 1
      omega
    · rw [if_neg ht2, h.2 t ht (by simpa using hx)]
      by_cases hc : t < k ∨ l.length - 1 - t < k
      · rw [if_pos hc, if_pos (by omega)]
      · rw [if_neg hc, if_neg (by omega)]
theorem RevAt.step' {l xs : List Int} {k m : Nat} (h : RevAt l k xs) (hk : 2 * k + 1 < l.length) (hm : l.length - 1 - k = m) (h1 : k < xs.length) (h2 : m < xs.length) : RevAt l (k + 1) ((xs.set k xs[m]).set m xs[k]) := by
  subst hm
  exact h.step hk h1 h2
theorem RevAt.done {l xs : List Int} {k : Nat} (h : RevAt l k xs) (hk : l.length ≤ 2 * k + 1) : xs = l.reverse := by
  refine List.ext_getElem (by rw [h.1, List.length_reverse]) fun t h1 h2 => ?_
  have ht : t < l.length := by rw [← h.1]; exact h1
  rw [h.2 t ht h1, List.getElem_reverse]
  by_cases hc : t < k ∨ l.length - 1 - t < k
  · rw [if_pos hc]
  · rw [if_neg hc]
    congr 1
    omega
def runeVs' (l : List Int) : List Value := l.map (Value.int .i32)
def RevSt (l : List Int) (base g c : Nat) (w : World) (i j : Value) (wr : World) : Prop :=
  ∃ (k : Nat) (xs : List Int), 2 * k ≤ l.length ∧ i = .int .i64 (k : Int) ∧ j = .int .i64 ((l.length : Int) - 1 - k) ∧ RevAt l k xs ∧ wr.ownsRow base 21 1 (.slice (some ⟨g, 0, none⟩) l.length c) l.length (runeVs' xs) ∧ Fr (fun k => k = g) w wr

set_option maxHeartbeats 4000000 in
theorem reverse_pos (base g c : Nat) (l : List Int) (w : World) (h : w.ownsRow base 21 1 (.slice (some ⟨g, 0, none⟩) l.length c) l.length (runeVs' l)) (hn : l.length ≤ 4611686018427387904) (hp : 0 < l.length) :
    Calls Tryd.prog 46 #[.slice (some ⟨g, 0, none⟩) l.length c] w fun e w' => e = .returned (.tuple #[]) ∧ w'.ownsRow base 21 1 (.slice (some ⟨g, 0, none⟩) l.length c) l.length (runeVs' l.reverse) ∧ Fr (fun k => k = g) w w' := by
  have HST := Lib.hid (show RevSt l base g c w (.int .i64 0) (.int .i64 ((l.length : Int) - 1)) w from ⟨0, l, by omega, rfl, by simp, ⟨rfl, fun t ht hx => by rw [if_neg (by omega)]⟩, h, Fr.refl _ _⟩)
  clear h
  go_enter Tryd.func46, Tryd.ntmps46
  go_wp2_with fail
  go_loopw [2, 3] (fun i j wr => RevSt l base g c w i j wr) (fun i _ _ => l.length - (intOf i).toNat)
  case atStart => exact HST.out
  case round =>
    clear HST
    obtain ⟨k, xs, hk, rfl, rfl, hrev, hown, hf⟩ := hrel
    by_cases hlt : 2 * k + 1 < l.length
    · have hk1 : k < xs.length := by rw [hrev.1]; omega
      obtain ⟨m, hm⟩ : ∃ m : Nat, l.length - 1 - k = m := ⟨_, rfl⟩
      have hk2 : m < xs.length := by rw [hrev.1]; omega
      have hnext := hrev.step' hlt hm hk1 hk2
      obtain ⟨c1, f1⟩ := own_cel hown (j := k) (u := .int .i32 xs[k]) (by unfold runeVs'; rw [List.getElem?_map, List.getElem?_eq_getElem hk1]; rfl)
      obtain ⟨c2, f2⟩ := own_cel hown (j := m) (u := .int .i32 xs[m]) (by unfold runeVs'; rw [List.getElem?_map, List.getElem?_eq_getElem hk2]; rfl)
      have hsw : ∀ wq : World, wq.heap = wr.heap → wq.os = wr.os → wq.tape = wr.tape → wq.output = wr.output → RevSt l base g c w (.int .i64 ((k + 1 : Nat) : Int)) (.int .i64 ((l.length : Int) - 1 - ((k + 1 : Nat) : Int))) ((wq.setCell ⟨g, k, none⟩ (.int .i32 xs[m])).setCell ⟨g, m, none⟩ (.int .i32 xs[k])) := fun wq e1 e2 e3 e4 => by
        have ho : wq.ownsRow base 21 1 (.slice (some ⟨g, 0, none⟩) l.length c) l.length (runeVs' xs) := own_same hown fun g' _ => by rw [e1]
        have h1 := own_set ho (g := g) rfl (j := k) (by simp only [runeVs', List.length_map]; omega) (.int .i32 xs[m])
        have h2 := own_set h1 (g := g) rfl (j := m) (by simp only [runeVs', List.length_set, List.length_map]; omega) (.int .i32 xs[k])
        refine ⟨k + 1, _, by omega, rfl, rfl, hnext, ?_, ?_⟩
        · have e : ((runeVs' xs).set k (.int .i32 xs[m])).set (m) (.int .i32 xs[k]) = runeVs' ((xs.set k xs[m]).set (m) xs[k]) := by unfold runeVs'; rw [List.map_set, List.map_set]
          rw [← e]
          exact h2
        · have hq : Fr (fun k => k = g) w wq := ⟨e2.trans hf.os, e3.trans hf.tape, e4.trans hf.output, by rw [e1]; exact hf.size, fun k hk hn => by rw [e1]; exact hf.block k hk hn⟩
          exact (hq.setc _ _ (fun _ => rfl)).setc _ _ (fun _ => rfl)
      have HSW := Lib.hid hsw
      clear hsw hnext hown hf hrev
      have hmi : (l.length : Int) - 1 - (k : Int) = (m : Int) := by omega
      rw [hmi]
      have HMI := Lib.hid hmi
      have hm1 : m < l.length := by omega
      have hm2 : k < m := by omega
      clear hmi hm
      generalize xs[k] = x at *
      generalize xs[m] = y at *
      have b1 : (m : Int) < (l.length : Int) := by omega
      have b2 : (k : Int) < (l.length : Int) := by omega
      have b3 : 0 ≤ (m : Int) := by omega
      have b4 : 0 ≤ (k : Int) := by omega
      go_wp2_with fail
      go_region
      all_goals go_wp2_with fail
      have hfin := HSW.out wr.drew rfl rfl rfl rfl
      rw [show ((k + 1 : Nat) : Int) = (k : Int) + 1 by omega, show (l.length : Int) - 1 - ((k : Int) + 1) = (m : Int) - 1 by have := HMI.out; omega] at hfin
      exact ⟨hfin, by simp [intOf]; omega⟩
    · have hx := hrev.done (by omega)
      subst hx
      have HO := Lib.hid hown
      clear hown hrev
      go_wp2_with fail
      go_end0
      exact ⟨rfl, HO.out, hf⟩
theorem reverse_any (base : Nat) (A : Option Addr) (c : Nat) (l : List Int) (w : World) (h : w.ownsRow base 21 1 (.slice A l.length c) l.length (runeVs' l)) (hn : l.length ≤ 4611686018427387904) :
    Calls Tryd.prog 46 #[.slice A l.length c] w fun e w' => e = .returned (.tuple #[]) ∧ w'.ownsRow base 21 1 (.slice A l.length c) l.length (runeVs' l.reverse) ∧ Fr (fun k => (Value.slice A l.length c).ownBlock = some k) w w' := by
  rcases Nat.eq_zero_or_pos l.length with h0 | h0
  · have hx : l = [] := List.eq_nil_of_length_eq_zero h0
    subst hx
    have HO := Lib.hid h
    clear h
    go_enter Tryd.func46, Tryd.ntmps46
    go_wp2_with fail
    refine wp_loop_rounds 1 ?_
    rw [rounds_succ]
    go_wp2_with fail
    go_end0
    exact ⟨rfl, HO.out, Fr.refl _ _⟩
  · obtain ⟨g, c', e, _⟩ := own_pos h h0
    injection e with e1 _ e2
    subst e1 e2
    refine (reverse_pos base g c l w h hn h0).mono ?_
    rintro e w' ⟨rfl, h1, h2⟩
    exact ⟨rfl, h1, h2.weak (fun k _ e => by subst e; rfl)⟩
end Go.Proofs.YtfjccjjdgbkbiaaDoor
