/- corpus.Join, walked. -/
import Derived.Test.YtokdpfapakemmaaBase
import Derived.Test.YtokdpfapakemmaaBuilder
import Derived.Test.YtokdpfapakemmaaShelf
namespace Go.Proofs.Ytokdpfapakemmaa
open Go.RowKit
set_option linter.unusedVariables false

structure Tk where
  at_ : Int
  len : Int
  word : ByteArray
  broken : Bool

def vTok : Rep Tk := fun _ _ _ cs t => cs = [.int .i64 t.at_, .int .i64 t.len, .string t.word, .bool t.broken] ∧ kin .i64 t.at_ ∧ kin .i64 t.len ∧ t.word.size ≤ maxLen

def okText (n : Nat) : Int := if 65536 < n then 3 else 0

theorem text_any (s : ByteArray) (w : World) (hs : s.size ≤ maxLen) :
    Calls Try.prog 10 #[.string s] w fun e w' => e = .returned (.int .i64 (okText s.size)) ∧ w = w' := by
  unfold maxLen at hs
  go_enter Try.func10, Try.ntmps10
  by_cases h : 65536 < s.size
  · go_wp2
    go_ret
    exact ⟨by simp [okText, h], rfl⟩
  · go_wp2
    go_ret
    exact ⟨by simp [okText, h], rfl⟩

theorem text_ok (s : ByteArray) (w : World) (h : s.size ≤ 65536) :
    Calls Try.prog 10 #[.string s] w fun e w' => e = .returned (.int .i64 0) ∧ w = w' :=
  (text_any s w (by unfold maxLen; omega)).mono fun _ _ ⟨he, hw⟩ => ⟨by rw [he, okText, if_neg (by omega)], hw⟩
theorem text_no (s : ByteArray) (w : World) (hs : s.size ≤ maxLen) (h : 65536 < s.size) :
    Calls Try.prog 10 #[.string s] w fun e w' => e = .returned (.int .i64 3) ∧ w = w' :=
  (text_any s w hs).mono fun _ _ ⟨he, hw⟩ => ⟨by rw [he, okText, if_pos h], hw⟩

def jBad (n at_ : Int) (t : Tk) : Prop := t.at_ < at_ ∨ n < t.at_ ∨ t.len < 0 ∨ n - t.at_ < t.len
instance (n at_ : Int) (t : Tk) : Decidable (jBad n at_ t) := by unfold jBad; infer_instance
def jCheck (n : Int) : Int → Int → List Tk → Option Int
  | _, m, [] => some m
  | at_, m, t :: r => if jBad n at_ t then none else jCheck n (t.at_ + t.len) (if t.broken then m else m + (t.word.size - t.len)) r

theorem tok_at {w : World} {lo hi k : Nat} {A : Option Addr} {l : List Tk} (h : Sl 4 vTok w lo hi A l) (hk : k < l.length) :
    ∃ b off, A = some ⟨b, off, none⟩ ∧ lo ≤ b ∧ b < hi ∧ Cel w b (off + k * 4) (.int .i64 l[k].at_) ∧ Cel w b (off + k * 4 + 1) (.int .i64 l[k].len) ∧ Cel w b (off + k * 4 + 2) (.string l[k].word) ∧ Cel w b (off + k * 4 + 3) (.bool l[k].broken) ∧ kin .i64 l[k].at_ ∧ kin .i64 l[k].len := by
  obtain ⟨b, off, cs, e, h1, h2, _, h4, h5, h6, h7, _⟩ := h.at_ hk
  subst h5
  exact ⟨b, off, e, h1, h2, h4 0 _ rfl, h4 1 _ rfl, h4 2 _ rfl, h4 3 _ rfl, h6, h7⟩

/-- The rest of the text, tokens put in. -/
def jOut (s : List UInt8) : Nat → List Tk → List UInt8
  | a, [] => s.drop a
  | a, t :: r => (s.take t.at_.toNat).drop a ++ ((if t.broken then (s.take (t.at_ + t.len).toNat).drop t.at_.toNat else t.word.data.toList) ++ jOut s (t.at_ + t.len).toNat r)
def jOk (n : Int) : Int → List Tk → Prop
  | _, [] => True
  | a, t :: r => ¬ jBad n a t ∧ jOk n (t.at_ + t.len) r
def joinS (s : ByteArray) (l : List Tk) : ByteArray × Int :=
  if 65536 < s.size then (⟨#[]⟩, 3) else if 4096 < l.length then (⟨#[]⟩, 4) else
    match jCheck s.size 0 s.size l with
    | none => (⟨#[]⟩, 2)
    | some m => if 1048576 < m then (⟨#[]⟩, 4) else (⟨(jOut s.data.toList 0 l).toArray⟩, 0)

theorem joinS_none {s : ByteArray} {l : List Tk} (hs : s.size ≤ 65536) (hl : l.length ≤ 4096) (h : jCheck s.size 0 s.size l = none) : joinS s l = (⟨#[]⟩, 2) := by
  rw [joinS, if_neg (by omega), if_neg (by omega), h]
theorem joinS_some {s : ByteArray} {l : List Tk} {m : Int} (hs : s.size ≤ 65536) (hl : l.length ≤ 4096) (h : jCheck s.size 0 s.size l = some m) : joinS s l = if 1048576 < m then (⟨#[]⟩, 4) else (⟨(jOut s.data.toList 0 l).toArray⟩, 0) := by
  rw [joinS, if_neg (by omega), if_neg (by omega), h]

theorem jCheck_ok {n a m q : Int} {l : List Tk} (h : jCheck n a m l = some q) : jOk n a l := by
  induction l generalizing a m with
  | nil => trivial
  | cons t r ih =>
    unfold jCheck at h
    by_cases hb : jBad n a t
    · rw [if_pos hb] at h; cases h
    · rw [if_neg hb] at h; exact ⟨hb, ih h⟩

theorem jOut_length {s : List UInt8} {l : List Tk} {a m q : Int} (ha : 0 ≤ a) (ha' : a ≤ s.length) (h : jCheck s.length a m l = some q) :
    ((jOut s a.toNat l).length : Int) = q - m + (s.length - a) := by
  induction l generalizing a m with
  | nil =>
    simp only [jCheck, Option.some.injEq] at h
    subst h
    simp only [jOut, List.length_drop]
    omega
  | cons t r ih =>
    unfold jCheck at h
    by_cases hb : jBad s.length a t
    · rw [if_pos hb] at h; cases h
    · rw [if_neg hb] at h
      have hn : a ≤ t.at_ ∧ t.at_ ≤ s.length ∧ 0 ≤ t.len ∧ t.len ≤ s.length - t.at_ := by unfold jBad at hb; omega
      have := ih (a := t.at_ + t.len) (by omega) (by omega) h
      simp only [jOut, List.length_append, List.length_drop, List.length_take]
      by_cases hk : t.broken = true
      · simp only [hk, if_true, List.length_drop, List.length_take] at this ⊢
        omega
      · simp only [hk, if_false, Bool.false_eq_true] at this ⊢
        rw [show t.word.data.toList.length = t.word.size from rfl]
        omega

theorem Bld.alloc {B b : Nat} {l : List UInt8} {w : World} (h : Bld B b l w) (o : Obj) : Bld B b l (w.alloc o) := by
  have key : ∀ p, Lib.BuilderAt 38 5 B b p (Lib.byteCells l) w → Lib.BuilderAt 38 5 B b p (Lib.byteCells l) (w.alloc o) := by
    rintro p ⟨hB, v, hb, hown, hne⟩
    exact ⟨hB, v, (Below.heap_alloc w o b (Array.getElem?_eq_some_iff.1 hb).1).trans hb, hown.alloc o, hne⟩
  exact h.imp (key _) (key _)
theorem Bld.new (w : World) : Bld w.heap.size w.heap.size [] (w.alloc (.cells #[.pointer none, .slice none 0 0] 38)) :=
  .inl ⟨Nat.le_refl _, .slice none 0 0, heap_alloc_new w _, World.ownsRow_nil _ _ _ _, by simp [Value.ownBlock]⟩
theorem Bld.lt {B b : Nat} {l : List UInt8} {w : World} (h : Bld B b l w) : B ≤ b ∧ b < w.heap.size := by
  rcases h with h | h <;> exact ⟨h.1, h.lt⟩

theorem bytes_app (x y : ByteArray) : (x ++ y).data.toList = x.data.toList ++ y.data.toList := by simp [ByteArray.data_append]
theorem bytes_ext (s : ByteArray) (i j : Nat) : (s.extract i j).data.toList = (s.data.toList.take j).drop i := by
  simp [ByteArray.data_extract, List.extract_eq_take_drop, List.drop_take]

set_option maxHeartbeats 4000000 in
set_option maxRecDepth 100000 in
/-- The second loop, behind a list that may be. -/
theorem join_one (s : ByteArray) (A : Option Addr) (c : Nat) (l : List Tk) (w : World) (hs : s.size ≤ 65536) (hl : l.length ≤ 4096) (hsl : Sl 4 vTok w 0 w.heap.size A l) (hw : ∀ t ∈ l, t.word.size ≤ 140737488355328) :
    Calls Try.prog 6 #[.string s, .slice A l.length c] w fun e w' => e = .returned (.tuple #[.string (joinS s l).1, .int .i64 (joinS s l).2]) ∧ Below w.heap.size w w' := by
  have hj0 : joinS s l = match jCheck s.size 0 s.size l with
    | none => (⟨#[]⟩, 2)
    | some m => if 1048576 < m then (⟨#[]⟩, 4) else (⟨(jOut s.data.toList 0 l).toArray⟩, 0) := by rw [joinS, if_neg (by omega), if_neg (by omega)]
  have hJ := Lib.hid hj0
  clear hj0
  go_enter Try.func6, Try.ntmps6
  go_wp2_with (go_at_call 10; refine (text_ok s _ (by omega)).mono ?_; rintro e w' ⟨rfl, rfl⟩)
  go_loopw [7, 8, 26] (fun at_ m i wr => ∃ (k : Nat) (a M : Int), k ≤ l.length ∧ i = .int .i64 k ∧ at_ = .int .i64 a ∧ m = .int .i64 M ∧ 0 ≤ a ∧ a ≤ s.size ∧ -(k * 140737488355328 : Int) ≤ M ∧ M ≤ 65536 + (k * 140737488355328 : Int) ∧ Hid (jCheck s.size 0 s.size l = jCheck s.size a M (l.drop k)) ∧ Below w.heap.size w wr) (fun _ _ i _ => l.length - (intOf i).toNat)
  case atStart => exact ⟨0, 0, s.size, by omega, rfl, rfl, rfl, by omega, by omega, by omega, by omega, rfl, Below.refl _ _⟩
  case round =>
    obtain ⟨k, a, M, hk, rfl, rfl, rfl, ha, ha', hM, hM', hj, hbw⟩ := hrel
    have hbz := hbw.size
    by_cases hlt : k < l.length
    · obtain ⟨b, off, rfl, _, hb, c0, c1, c2, c3, k0, k1⟩ := tok_at (hsl.below ⟨fun _ h => h, fun _ _ h => h⟩ hbw (Nat.le_refl _)) hlt
      obtain ⟨c0, f0⟩ := c0
      obtain ⟨c1, f1⟩ := c1
      obtain ⟨c2, f2⟩ := c2
      obtain ⟨c3, f3⟩ := c3
      have hws := hw _ (List.getElem_mem hlt)
      have hstep : jCheck s.size a M (l.drop k) = if jBad s.size a l[k] then none else jCheck s.size (l[k].at_ + l[k].len) (if l[k].broken then M else M + (l[k].word.size - l[k].len)) (l.drop (k + 1)) := by
        rw [List.drop_eq_getElem_cons hlt]; rfl
      have hS := Lib.hid hstep
      clear hstep
      go_wp2_with fail
      all_goals first
        | (have hbad : jBad s.size a l[k] := by unfold jBad; omega
           have hfin : joinS s l = (⟨#[]⟩, 2) := by rw [hJ.out, hj.out, hS.out, if_pos hbad]
           go_ret2
           exact ⟨by rw [hfin]; rfl, by go_grown⟩)
        | (have hbad : ¬ jBad s.size a l[k] := by unfold jBad; omega
           refine ⟨⟨k + 1, _, _, by omega, by go_num, rfl, rfl, by omega, by omega, by omega, by omega, ?_, by go_grown⟩, by simp [intOf]; omega⟩
           first
             | (have hbr : l[k].broken = false := by simpa using ‹(!l[k].broken) = true›
                show _ = _
                rw [hj.out, hS.out, if_neg hbad, hbr]; rfl)
             | (have hbr : l[k].broken = true := by simpa using ‹(!l[k].broken) = false›
                show _ = _
                rw [hj.out, hS.out, if_neg hbad, hbr]; rfl))
    · obtain rfl : k = l.length := by omega
      have hJ2 : Hid (jCheck s.size 0 s.size l = some M) := by
        show _ = _
        rw [hj.out, List.drop_length]; rfl
      clear hj hlt
      by_cases hm : 1048576 < M
      · have hfin : joinS s l = (⟨#[]⟩, 4) := by rw [hJ.out, hJ2.out]; simp [hm]
        have hF := Lib.hid hfin
        clear hfin
        go_wp2_with fail
        go_ret2
        exact ⟨by rw [hF.out]; rfl, by go_grown⟩
      · have hfin : joinS s l = (⟨(jOut s.data.toList 0 l).toArray⟩, 0) := by rw [hJ.out, hJ2.out]; simp [hm]
        have hF := Lib.hid hfin
        clear hfin
        have hlen : ((jOut s.data.toList 0 l).length : Int) = M := by
          have := jOut_length (s := s.data.toList) (l := l) (a := 0) (m := s.size) (q := M) (by omega) (by simp) (by exact hJ2.out)
          simp only [Array.length_toList, ByteArray.size_data] at this
          simpa using this
        have hL : (jOut s.data.toList 0 l).length ≤ 1048576 := by omega
        clear hlen
        have hB0 := Bld.new wr
        have hok : Hid (jOk s.size 0 l) := jCheck_ok hJ2.out
        obtain ⟨wo, hwo⟩ : ∃ wo : World, wo = wr := ⟨_, rfl⟩
        subst hwo
        go_wp2_with fail
        go_loopw [7, 77] (fun at_ i w2 => ∃ (k a : Nat) (out : List UInt8), k ≤ l.length ∧ i = .int .i64 k ∧ at_ = .int .i64 a ∧ a ≤ s.size ∧ Bld wo.heap.size wo.heap.size out w2 ∧ Hid (jOk s.size a (l.drop k)) ∧ Hid (out ++ jOut s.data.toList a (l.drop k) = jOut s.data.toList 0 l) ∧ Below wo.heap.size wo w2) (fun _ i _ => l.length - (intOf i).toNat)
        case atStart => exact ⟨0, 0, [], by omega, rfl, rfl, by omega, hB0, hok, rfl, by go_grown⟩
        case round =>
          obtain ⟨k, a, out, hk, rfl, rfl, ha, hbl, hok, hout, hbw2⟩ := hrel
          have hbz2 := hbw2.size
          by_cases hlt : k < l.length
          · have hbw3 : Below w.heap.size w wr := hbw.trans (hbw2.mono hbz)
            obtain ⟨b, off, rfl, _, hb, c0, c1, c2, c3, k0, k1⟩ := tok_at (hsl.below ⟨fun _ h => h, fun _ _ h => h⟩ hbw3 (Nat.le_refl _)) hlt
            have hd : l.drop k = l[k] :: l.drop (k + 1) := List.drop_eq_getElem_cons hlt
            rw [hd] at hok hout
            have hok1 : ¬ jBad s.size a l[k] := hok.out.1
            have hok2 : Hid (jOk s.size (l[k].at_ + l[k].len) (l.drop (k + 1))) := hok.out.2
            generalize hg : l[k] = t at *
            have hn : (a : Int) ≤ t.at_ ∧ t.at_ ≤ s.size ∧ 0 ≤ t.len ∧ t.len ≤ s.size - t.at_ := by unfold jBad at hok1; omega
            obtain ⟨n1, n2, n3, n4⟩ := hn
            obtain ⟨at_, len, word, broken⟩ := t
            simp only at *
            obtain ⟨p, hp⟩ := Int.eq_ofNat_of_zero_le (show 0 ≤ at_ by omega)
            obtain ⟨q, hq⟩ := Int.eq_ofNat_of_zero_le n3
            subst hp hq
            obtain ⟨c0, f0⟩ := c0
            obtain ⟨c1, f1⟩ := c1
            obtain ⟨c2, f2⟩ := c2
            obtain ⟨c3, f3⟩ := c3
            have HG := Lib.hid hg
            clear hg hd
            go_wp2_with fail
            have hblt := hbl.lt
            have ho1 : (out ++ (s.extract a p).data.toList) ++ ((if broken then (s.extract p (p + q)).data.toList else word.data.toList) ++ jOut s.data.toList (p + q) (l.drop (k + 1))) = jOut s.data.toList 0 l := by
              rw [← hout.out, bytes_ext, bytes_ext, List.append_assoc]; rfl
            have HO := Lib.hid ho1
            clear ho1 hout hok
            have hz : out.length + (s.extract a p).size ≤ 1048576 := by
              have := congrArg List.length HO.out
              simp only [List.length_append, Array.length_toList, ByteArray.size_data] at this
              omega
            refine (WriteString_any wo.heap.size wo.heap.size out (s.extract a p) _ (hbl.alloc _) (by omega) (by simp; omega)).mono ?_
            rintro e w1 ⟨rfl, hbl1, hbw4, hoth⟩
            have hT := hoth wr.heap.size _ (heap_alloc_new wr _) (by simp; omega) (fun c fz h => by injection h with _ h2; exact absurd h2 (by decide))
            have t0 : w1.cell? ⟨wr.heap.size, 0, none⟩ = some (.int .i64 (p : Int)) := by rw [Lib.cell_of_heap hT]; rfl
            have t1 : w1.cell? ⟨wr.heap.size, 1, none⟩ = some (.int .i64 (q : Int)) := by rw [Lib.cell_of_heap hT]; rfl
            have t2 : w1.cell? ⟨wr.heap.size, 2, none⟩ = some (.string word) := by rw [Lib.cell_of_heap hT]; rfl
            have t3 : w1.cell? ⟨wr.heap.size, 3, none⟩ = some (.bool broken) := by rw [Lib.cell_of_heap hT]; rfl
            have hsz1 := hbw4.size
            simp only [World.size_alloc] at hsz1
            have hbw6 : Below wo.heap.size wo w1 := (hbw2.alloc hbz2 _).trans hbw4
            clear hT hoth hbl hbw4 hbw3 hbw2 c0 c1 c2 c3 f0 f1 f2 f3
            cases broken with
            | true =>
              simp only [if_true] at HO
              go_wp2_with fail
              have hz2 : (out ++ (s.extract a p).data.toList).length + (s.extract p (p + q)).size ≤ 1048576 := by
                have := congrArg List.length HO.out
                simp only [List.length_append, Array.length_toList, ByteArray.size_data] at this ⊢
                omega
              refine (WriteString_any wo.heap.size wo.heap.size _ (s.extract p (p + q)) _ hbl1 (by omega) (by omega)).mono ?_
              rintro e w2 ⟨rfl, hbl2, hbw5, _⟩
              go_wp2_with fail
              exact ⟨⟨k + 1, p + q, _, by omega, by go_num, by go_num, by omega, hbl2, hok2, by show _ = _; rw [← HO.out, List.append_assoc _ _ (jOut _ _ _)], hbw6.trans hbw5⟩, by simp [intOf]; omega⟩
            | false =>
              simp only [if_false, Bool.false_eq_true] at HO
              go_wp2_with fail
              have hz2 : (out ++ (s.extract a p).data.toList).length + word.size ≤ 1048576 := by
                have := congrArg List.length HO.out
                simp only [List.length_append, Array.length_toList, ByteArray.size_data] at this ⊢
                omega
              refine (WriteString_any wo.heap.size wo.heap.size _ word _ hbl1 (by omega) (by omega)).mono ?_
              rintro e w2 ⟨rfl, hbl2, hbw5, _⟩
              go_wp2_with fail
              exact ⟨⟨k + 1, p + q, _, by omega, by go_num, by go_num, by omega, hbl2, hok2, by show _ = _; rw [← HO.out, List.append_assoc _ _ (jOut _ _ _)], hbw6.trans hbw5⟩, by simp [intOf]; omega⟩
          · obtain rfl : k = l.length := by omega
            have ho1 : out ++ (s.extract a s.size).data.toList = jOut s.data.toList 0 l := by
              rw [← hout.out, bytes_ext, List.drop_length, List.take_of_length_le (by simp)]; rfl
            have HO := Lib.hid ho1
            clear ho1 hout hok
            have hz : out.length + (s.extract a s.size).size ≤ 1048576 := by
              have := congrArg List.length HO.out
              simp only [List.length_append, Array.length_toList, ByteArray.size_data] at this
              omega
            go_wp2_with fail
            refine (WriteString_any wo.heap.size wo.heap.size out (s.extract a s.size) _ hbl (by omega) hbz2).mono ?_
            rintro e w1 ⟨rfl, hbl1, hbw4, _⟩
            go_wp2_with fail
            refine (Try.Builder_String_any wo.heap.size wo.heap.size _ _ hbl1 (by have := hbw4.size; omega)).mono ?_
            rintro e w2 ⟨rfl, hbw5⟩
            rw [HO.out]
            go_wp2_with fail
            go_ret2
            exact ⟨by rw [hF.out]; rfl, hbw.trans (((hbw2.trans hbw4).trans hbw5).mono hbz)⟩
end Go.Proofs.Ytokdpfapakemmaa
