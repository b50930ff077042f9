/- feature.Has. What WordSyllables asks, of peaks and spans. Plain Lean. -/
import Derived.Test.YtfjccjjdgbkbiaaDoorWs28
import Derived.Test.YtfjccjjdgbkbiaaDoorWs25
import Derived.Test.YtfjccjjdgbkbiaaDoorWs24
namespace Go.Proofs.YtfjccjjdgbkbiaaDoor
open Go.RowKit
set_option linter.unusedVariables false

/-- Has a rune's letter a class, and the error. -/
def hasS (a : Al) (r : Int) (p m : Nat) : Bool × Int := if (ofS a r).2 ≠ 0 then (false, (ofS a r).2) else if classOk a.feats.length p m = false then (false, 20) else (likeL (ofS a r).1 p m, 0)
def BoolOut (r : Bool × Int) (W : World) (e : Ending) (w' : World) : Prop := e = .returned (.tuple #[.bool r.1, .int .i64 r.2]) ∧ Below W.heap.size W w'
theorem BoolOut.mk' {r : Bool × Int} {W w' : World} {x : Bool} {E : Int} (h : r = (x, E)) (hb : Below W.heap.size W w') : BoolOut r W (.returned (.tuple #[.bool x, .int .i64 E])) w' := by
  subst h
  exact ⟨rfl, hb⟩
theorem ofS_zero {a : Al} {r : Int} (h : (ofS a r).2 = 0) : alOk a = true ∧ ∃ k, ∃ hk : k < a.lets.length, num a r = some k ∧ (ofS a r).1 = a.lets[k] := by
  unfold ofS at h ⊢
  cases hok : alOk a with
  | false => rw [hok] at h; simp at h
  | true =>
    rw [hok] at h
    simp only [Bool.true_eq_false, if_false] at h ⊢
    cases hn : num a r with
    | none => rw [hn] at h; simp at h
    | some k =>
      have hk := num_lt hn
      exact ⟨trivial, k, hk, rfl, by simp [List.getD, List.getElem?_eq_getElem hk]⟩
theorem ofS_err (a : Al) (r : Int) : (ofS a r).2 = 0 ∨ (ofS a r).2 = 5 ∨ (ofS a r).2 = 7 := by
  unfold ofS
  split
  · exact .inr (.inr rfl)
  · split
    · exact .inr (.inl rfl)
    · exact .inl rfl
theorem ofS_kin (a : Al) (r : Int) {w : World} {lo hi : Nat} {A : Option Addr} (h : Sl 3 vLt w lo hi A a.lets) : LtOk (ofS a r).1 := by
  have hz : LtOk ltZ := ⟨⟨by decide, by decide⟩, by decide, by decide⟩
  unfold ofS
  split
  · exact hz
  · split
    · exact hz
    · rename_i k hk
      have hk := num_lt hk
      simp only [List.getD, List.getElem?_eq_getElem hk, Option.getD_some]
      obtain ⟨_, _, _, _, _, _, _, _, h1⟩ := lt_at h hk
      exact h1
set_option maxHeartbeats 4000000 in
set_option maxRecDepth 100000 in
theorem has_any (A1 A2 : Option Addr) (c1 c2 lo : Nat) (a : Al) (r : Int) (p m : Nat) (w : World) (hin : AlIn w lo w.heap.size A1 A2 a) (hr : -2147483648 ≤ r ∧ r ≤ 2147483647) (hp : p < 4294967296) (hm : m < 4294967296) :
    Calls Tryd.prog 29 #[.agg #[.slice A1 a.feats.length c1, .slice A2 a.lets.length c2], .int .i32 r, .int .u32 (p : Int), .int .u32 (m : Int)] w (BoolOut (hasS a r p m) w) := by
  have hal : Below w.heap.size w (w.alloc (.cells #[.slice A1 a.feats.length c1, .slice A2 a.lets.length c2] 25)) := (Below.refl _ _).alloc (Nat.le_refl _) _
  have hr0 := Row.new w 25 [.slice A1 a.feats.length c1, .slice A2 a.lets.length c2]
  have hcall := Lib.hid (of_any A1 A2 c1 c2 lo a r _ (hin.on hal) hr)
  have HS : Hid (hasS a r p m = if (ofS a r).2 ≠ 0 then (false, (ofS a r).2) else if classOk a.feats.length p m = false then (false, 20) else (likeL (ofS a r).1 p m, 0)) := rfl
  have hz := @ofS_zero a r
  have hlk := ofS_kin a r hin.l
  have hee := ofS_err a r
  generalize ofS a r = O at *
  obtain ⟨⟨xr, xp, xm⟩, E⟩ := O
  simp only at hee hz
  have HZ := Lib.hid hz
  clear hz
  go_enter Tryd.func29, Tryd.ntmps29
  go_wp2_with fail
  refine hcall.out.mono ?_
  rintro e w1 ⟨rfl, hb1⟩
  have hbw := hal.trans (hb1.mono hal.size)
  have hs1 := hr0.below hb1 hr0.lt
  have hl1 := hs1.lt
  clear hcall hb1 hr0 hal
  by_cases hE : E = 0
  · subst hE
    obtain ⟨hok, k, hk, hnum, hx⟩ := HZ.out rfl
    have hsz := alOk_size hok
    clear HZ hee hnum
    have hbA : Below w.heap.size w (w1.alloc (.cells #[.int .i32 xr, .int .u32 (xp : Int), .int .u32 (xm : Int)] 84)) := hbw.alloc hbw.size _
    have hsA := hs1.alloc (.cells #[.int .i32 xr, .int .u32 (xp : Int), .int .u32 (xm : Int)] 84)
    have hrA := Row.new w1 84 [.int .i32 xr, .int .u32 (xp : Int), .int .u32 (xm : Int)]
    obtain ⟨q0, _⟩ := hs1.cel (i := 0) rfl
    obtain ⟨q1, _⟩ := hs1.cel (i := 1) rfl
    have hwi := Lib.hid (fun w => within_any A1 A2 a.feats.length c1 a.lets.length c2 p m w hsz.1 hp hm)
    have hli := Lib.hid (fun w => like_any ⟨xr, xp, xm⟩ p m w hlk hp hm)
    have HS2 : Hid (hasS a r p m = if classOk a.feats.length p m = false then (false, 20) else (likeL ⟨xr, xp, xm⟩ p m, 0)) := by show _ = _; rw [HS.out, if_neg (by simp)]
    clear hok hx HS hs1
    cases hcl : classOk a.feats.length p m with
    | false =>
      rw [hcl] at hwi
      have HF : Hid (hasS a r p m = (false, 20)) := by show _ = _; rw [HS2.out, if_pos hcl]
      clear hcl HS2
      go_wp2_with fail
      refine (hwi.out _).mono ?_
      rintro e w2 ⟨rfl, hb2⟩
      have HF2 := Lib.hid (BoolOut.mk' HF.out (hbA.trans (hb2.mono hbA.size)))
      clear hb2 hsA hrA hbA hbw
      go_wp2_with fail
      go_ret2
      exact HF2.out
    | true =>
      rw [hcl] at hwi
      have HF : Hid (hasS a r p m = (likeL ⟨xr, xp, xm⟩ p m, 0)) := by show _ = _; rw [HS2.out, if_neg (by rw [hcl]; simp)]
      clear hcl HS2
      go_wp2_with fail
      refine (hwi.out _).mono ?_
      rintro e w2 ⟨rfl, hb2⟩
      have hb2' := hbA.trans (hb2.mono hbA.size)
      have hrB := hrA.below hb2 hrA.lt
      obtain ⟨z0, _⟩ := hrB.cel (i := 0) rfl
      obtain ⟨z1, _⟩ := hrB.cel (i := 1) rfl
      obtain ⟨z2, _⟩ := hrB.cel (i := 2) rfl
      clear hb2 hsA hrA hbA hbw hrB hwi
      go_wp2_with fail
      refine (hli.out _).mono ?_
      rintro e w3 ⟨rfl, hb3⟩
      have HF2 := Lib.hid (BoolOut.mk' HF.out (hb2'.trans (hb3.mono hb2'.size)))
      clear hb3 hb2' hli
      go_wp2_with fail
      go_ret2
      exact HF2.out
  · have hne : (E != 0) = true := by rw [bne_iff_ne]; exact hE
    have HF2 := Lib.hid (BoolOut.mk' (show hasS a r p m = (false, E) by rw [HS.out, if_pos hE]) (hbw.alloc hbw.size (.cells #[.int .i32 xr, .int .u32 (xp : Int), .int .u32 (xm : Int)] 84)))
    clear HZ hee HS hE hlk
    go_wp2_with fail
    go_ret2
    exact HF2.out
end Go.Proofs.YtfjccjjdgbkbiaaDoor
namespace Go.Proofs.YtfjccjjdgbkbiaaDoor
open Go.RowKit
set_option linter.unusedVariables false

theorem placesOf_mem (f : Int → Bool) (l : List Int) {i : Nat} (hi : i < l.length) : decide (i ∈ placesOf f l) = f l[i] := by
  unfold placesOf
  rw [Bool.eq_iff_iff, decide_eq_true_eq, List.mem_filter]
  simp only [List.mem_range, hi, true_and, List.getD_eq_getElem?_getD, List.getElem?_eq_getElem hi, Option.getD_some]
theorem num_some {a : Al} {x : Int} (h : isLet a x = true) : ∃ k, ∃ hk : k < a.lets.length, num a x = some k ∧ a.lets[k].rune = x := by
  unfold isLet at h
  obtain ⟨n, hn⟩ := Option.isSome_iff_exists.1 h
  obtain ⟨k, hk, h1, h2⟩ := numF_at _ _ _ _ hn
  exact ⟨k, hk, by rw [hn, h1]; simp, h2⟩
theorem peaks_zero {a : Al} {s : ByteArray} {p m : Nat} (h : (peaksS a s p m).2 = 0) : (lettersS a s).2 = 0 ∧ alOk a = true ∧ classOk a.feats.length p m = true ∧ (peaksS a s p m).1 = placesOf (fun x => (clsL a.lets p m).contains x) (lettersS a s).1 := by
  unfold peaksS at h ⊢
  by_cases h1 : (lettersS a s).2 = 0
  · rw [if_neg (by simp [h1])] at h ⊢
    by_cases h2 : (classS a p m).2 = 0
    · rw [if_neg (by simp [h2])] at h ⊢
      unfold classS at h2 ⊢
      cases hok : alOk a with
      | false => rw [hok] at h2; simp at h2
      | true =>
        cases hcl : classOk a.feats.length p m with
        | false => rw [hok, hcl] at h2; simp at h2
        | true => exact ⟨h1, rfl, rfl, by simp⟩
    · rw [if_pos h2] at h
      exact absurd h h2
  · rw [if_pos h1] at h
    exact absurd h h1
/-- At each letter: has it the class? just if its place is a peak. -/
theorem has_peak {a : Al} {s : ByteArray} {p m : Nat} (h : (peaksS a s p m).2 = 0) {i : Nat} (hi : i < (lettersS a s).1.length) : hasS a (lettersS a s).1[i] p m = (decide (i ∈ (peaksS a s p m).1), 0) := by
  obtain ⟨h1, hok, hcl, h2⟩ := peaks_zero h
  obtain ⟨_, hil⟩ := letters_isLet _ (List.getElem_mem hi)
  obtain ⟨k, hk, hn, hr⟩ := num_some hil
  have ho : ofS a (lettersS a s).1[i] = (a.lets[k], 0) := by
    unfold ofS
    rw [if_neg (by rw [hok]; simp), hn]
    simp [List.getElem?_eq_getElem hk]
  unfold hasS
  rw [ho, if_neg (by simp), if_neg (by rw [hcl]; simp), h2, placesOf_mem _ _ hi, ← hr, cls_like hok hk]
theorem letters_in (a : Al) (s : ByteArray) {i : Nat} (hi : i < (lettersS a s).1.length) : -2147483648 ≤ (lettersS a s).1[i] ∧ (lettersS a s).1[i] ≤ 2147483647 := by
  obtain ⟨hok, hil⟩ := letters_isLet _ (List.getElem_mem hi)
  obtain ⟨k, hk, hn, hr⟩ := num_some hil
  have h1 : letterOk (lettersS a s).1[i] = true := by
    rw [← hr]
    unfold alOk at hok
    simp only [Bool.and_eq_true] at hok
    have key : ∀ (n : Nat) (seen : List Int) (l : List Lt), letsOk n seen l = true → ∀ x ∈ l, letterOk x.rune = true := by
      intro n seen l
      induction l generalizing seen with
      | nil => intro _ x hx; simp at hx
      | cons y l ih =>
        intro h x hx
        unfold letsOk at h
        simp only [Bool.and_eq_true] at h
        rcases List.mem_cons.1 hx with rfl | hx
        · exact h.1.1.1
        · exact ih _ h.2 x hx
    exact key _ _ _ hok.2 _ (List.getElem_mem hk)
  unfold letterOk at h1
  have := of_decide_eq_true h1
  omega
theorem mem_take_step {l : List Nat} {k i : Nat} (hk : k < l.length) : decide (i ∈ l.take (k + 1)) = (decide (i ∈ l.take k) || decide (l[k] = i)) := by
  have e : l.take (k + 1) = l.take k ++ [l[k]] := List.take_succ_eq_append_getElem hk
  rw [Bool.eq_iff_iff, Bool.or_eq_true, decide_eq_true_eq, decide_eq_true_eq, decide_eq_true_eq, e, List.mem_append, List.mem_singleton, eq_comm (a := i)]
/-- Where the span with that number begins; past the last one: the word's end. -/
def bndN (p : List Nat) (n i : Nat) : Nat := if i < p.length then bnd p i else if p.length = 0 then 0 else n
theorem spansL_len (p : List Nat) (n : Nat) : (spansL p n).length = p.length := by
  unfold spansL
  split
  · simp_all
  · simp only [List.length_append, cutL_len, List.length_cons, List.length_nil]; omega
theorem spansL_at {p : List Nat} {n i : Nat} (hi : i < p.length) (h : i < (spansL p n).length) : (spansL p n)[i] = (bndN p n i, bndN p n (i + 1)) := by
  have hne : p.length ≠ 0 := by omega
  have e1 : bndN p n i = bnd p i := by unfold bndN; rw [if_pos hi]
  have e : spansL p n = cutL p (p.length - 1) ++ [(bnd p (p.length - 1), n)] := by unfold spansL; rw [if_neg hne]
  have h' : i < (cutL p (p.length - 1) ++ [(bnd p (p.length - 1), n)]).length := by rw [← e]; exact h
  have : (spansL p n)[i] = (cutL p (p.length - 1) ++ [(bnd p (p.length - 1), n)])[i] := by simp only [e]
  rw [this, e1]
  by_cases hl : i < p.length - 1
  · rw [List.getElem_append_left (by rw [cutL_len]; exact hl)]
    unfold cutL bndN
    rw [if_pos (by omega)]
    simp
  · have : i = p.length - 1 := by omega
    subst this
    rw [List.getElem_append_right (by rw [cutL_len]; exact Nat.le_refl _)]
    unfold bndN
    rw [if_neg (by omega), if_neg hne]
    simp [cutL_len]
theorem span_facts {p : List Nat} {n : Nat} (hup : p.Pairwise (· < ·)) (hb : ∀ x ∈ p, x < n) {i : Nat} (hi : i < p.length) : bndN p n i ≤ p[i] ∧ p[i] < bndN p n (i + 1) ∧ (0 < i → p[i] ≤ bndN p n i + 1) := by
  have hlt := List.pairwise_iff_getElem.1 hup
  have e1 : bndN p n i = bnd p i := by unfold bndN; rw [if_pos hi]
  have hA : bnd p i ≤ p[i] ∧ (0 < i → p[i] ≤ bnd p i + 1) := by
    rcases i with _ | k
    · rw [bnd_zero]; exact ⟨Nat.zero_le _, fun h => absurd h (by omega)⟩
    · rw [bnd_succ p k hi]
      have := hlt k (k + 1) (by omega) hi (by omega)
      exact ⟨by omega, fun _ => by omega⟩
  refine ⟨by rw [e1]; exact hA.1, ?_, by rw [e1]; exact hA.2⟩
  unfold bndN
  by_cases hl : i + 1 < p.length
  · rw [if_pos hl, bnd_succ p i hl]
    omega
  · rw [if_neg hl, if_neg (by omega)]
    exact hb _ (List.getElem_mem hi)
theorem peaks_in (a : Al) (s : ByteArray) (p m : Nat) (h : (peaksS a s p m).2 = 0) : ∀ x ∈ (peaksS a s p m).1, x < (lettersS a s).1.length := by
  rw [(peaks_zero h).2.2.2]
  exact (placesOf_up _ _).2
end Go.Proofs.YtfjccjjdgbkbiaaDoor
