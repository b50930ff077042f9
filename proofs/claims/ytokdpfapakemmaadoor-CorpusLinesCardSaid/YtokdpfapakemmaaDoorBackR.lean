/- The document's Pieces and Back. -/
import Derived.Test.YtokdpfapakemmaaDoorPiecesSl
import Derived.Test.YtokdpfapakemmaaDoorOne
namespace Go.Proofs.YtokdpfapakemmaaDoor
open Go.RowKit Go.Lib
set_option linter.unusedVariables false

def PcsOut2 (l : List Pc) (w : World) (e : Ending) (w' : World) : Prop :=
  ∃ A c, e = .returned (.tuple #[.slice A l.length c, .int .i64 0]) ∧ l.length ≤ c ∧ c ≤ maxLen ∧ Sl 4 vPiece w' w.heap.size w'.heap.size A l ∧ Below w.heap.size w w'
set_option maxHeartbeats 2000000 in
theorem rpieces_any (s : ByteArray) (w : World) (hs : s.size ≤ 65536) : Calls Tryd.prog 72 #[.string s] w (PcsOut2 (pcs s) w) := by
  go_enter Tryd.func72, Tryd.ntmps72
  go_wp2_with fail
  refine (all_sl s _ hs).mono ?_
  rintro e w1 ⟨A, c, rfl, h1, h2, h3, h4⟩
  go_wp2_with fail
  go_ret2
  exact ⟨A, c, rfl, h1, h2, h3, h4⟩

def runesOf (l : List Pc) : List Int := l.map (·.rune)
def bytesTo (l : List Pc) (k : Nat) : List UInt8 := encB (runesOf (l.take k))
theorem bytesTo_succ (l : List Pc) (k : Nat) (h : k < l.length) : bytesTo l (k + 1) = bytesTo l k ++ encodeRune l[k].rune := by
  unfold bytesTo runesOf encB
  rw [List.take_succ_eq_append_getElem h, List.map_append, List.flatMap_append]
  simp
theorem bytesTo_le (l : List Pc) : ∀ k, (bytesTo l k).length ≤ 4 * k
  | 0 => by simp [bytesTo, runesOf, encB]
  | k + 1 => by
    by_cases h : k < l.length
    · rw [bytesTo_succ l k h, List.length_append]
      have h1 := bytesTo_le l k
      have h2 := (encodeRuneZ_length l[k].rune).2
      have h3 : (encodeRune l[k].rune).length = (encodeRuneZ l[k].rune).length := by unfold encodeRune; rw [List.length_map]
      omega
    · have h1 := bytesTo_le l k
      have e : bytesTo l (k + 1) = bytesTo l k := by unfold bytesTo; rw [List.take_of_length_le (by omega), List.take_of_length_le (by omega)]
      rw [e]
      omega
theorem bytesTo_all (l : List Pc) : (⟨(bytesTo l l.length).toArray⟩ : ByteArray) = enc l := by
  unfold bytesTo
  rw [List.take_length, show runesOf l = l.map (·.rune) from rfl, ← enc_list]

def BackSt (l : List Pc) (W : World) (v i : Value) (wr : World) : Prop :=
  ∃ (k : Nat) (A : Option Addr) (c : Nat), v = .slice A (bytesTo l k).length c ∧ i = .int .i64 k ∧ k ≤ l.length ∧ wr.ownsRow W.heap.size 5 1 (.slice A (bytesTo l k).length c) (bytesTo l k).length (byteCells (bytesTo l k)) ∧ Below W.heap.size W wr

set_option maxHeartbeats 4000000 in
set_option maxRecDepth 100000 in
theorem rback_any (s : ByteArray) (w : World) (hs : s.size ≤ 65536) :
    Calls Tryd.prog 49 #[.string s] w fun e w' => e = .returned (.tuple #[.string (enc (pcs s)), .int .i64 0]) ∧ Below w.heap.size w w' := by
  obtain ⟨i1, hi1, hy0, hy1, hy2⟩ := info_parts utf8_info
  have hpl := pcs_le s
  go_enter Tryd.func49, Tryd.ntmps49
  go_wp2_with fail
  refine (rpieces_any s _ hs).mono ?_
  rintro e w1 ⟨Ap, cp, rfl, h1, h2, h3, h4⟩
  generalize hl : pcs s = l at *
  have HL := Lib.hid hl
  clear hl
  have hs1 := h4.size
  go_wp2_with fail
  go_loopw [6, 7] (fun v i wr => BackSt l w1 v i wr) (fun _ i _ => l.length - (intOf i).toNat)
  case atStart => exact ⟨0, none, 0, rfl, rfl, by omega, World.ownsRow_nil _ _ _ _, Below.refl _ _⟩
  case round =>
    obtain ⟨k, Av, cv, rfl, rfl, hk, hown, hb⟩ := hrel
    have hbs := hb.size
    have hble := bytesTo_le l k
    by_cases hlt : k < l.length
    · obtain ⟨bp, op, rfl, hbp1, hbp2, ⟨c0, f0⟩, _, _, _, hok⟩ := pc_at (h3.below vPiece_good hb (Nat.le_refl _)) hlt
      have hrun : 0 ≤ l[k].rune ∧ l[k].rune ≤ 1114111 := ⟨hok.1, hok.2.1⟩
      have hsucc := bytesTo_succ l k hlt
      generalize l[k] = x at *
      have hcall := one_any x.rune wr (by omega) (by omega)
      have HS := Lib.hid hsucc
      clear hsucc
      go_wp2_with fail
      refine hcall.mono ?_
      rintro e w2 ⟨g2, rfl, hg2, hr2, hb2⟩
      clear hcall
      have hbs2 := hb2.size
      have hown2 := own_below hown hb2
      have hel := encodeRuneZ_length x.rune
      have hel2 : (runeCells x.rune).length = (encodeRuneZ x.rune).length * 1 := by unfold runeCells; rw [List.length_map, Nat.mul_one]
      have hone : ∀ u ∈ runeCells x.rune, u.oneCell' = true := by
        intro u hu
        unfold runeCells at hu
        obtain ⟨z, _, rfl⟩ := List.mem_map.1 hu
        rfl
      have hnews := hr2.news
      generalize hN : (encodeRuneZ x.rune).length = N at *
      have HN := Lib.hid hN
      clear hN
      have h63 : (bytesTo l k).length + N ≤ maxLen := by unfold maxLen; omega
      have hby : ((bytesTo l k).length + N) * 1 ≤ 140737488355328 := by omega
      have hlo : w1.heap.size ≤ w2.heap.size := by omega
      have hNp : 0 < N := by omega
      have HEL := Lib.hid hel2
      clear hel2
      go_wp2_with (at_builtin; refine wpList_append_lies _ rfl _ _ 75 rfl w1.heap.size 5 i1 (.int .u8 0) 1 1 Tryd.underlying75 hi1 hy0 hy1 hy2 rfl (by decide) (.slice Av (bytesTo l k).length cv) (bytesTo l k).length (byteCells (bytesTo l k)) rfl hown2 ⟨g2, 0, none⟩ N N (runeCells x.rune) rfl HEL.out hnews hone hNp h63 hby hlo _ rfl ?_)
      intro g cap w3 hown3 hgr3 hat3 hlt3
      have hb3 : Below w1.heap.size w1 w3 := (hb.trans (hb2.mono hbs)).grown hgr3 hlo (fun j hj => (hown2.lt j hj).1)
      have hlen3 : (bytesTo l k).length + N = (bytesTo l (k + 1)).length := by
        rw [HS.out, List.length_append, ← HN.out]
        unfold encodeRune
        rw [List.length_map]
      have hcel3 : byteCells (bytesTo l k) ++ runeCells x.rune = byteCells (bytesTo l (k + 1)) := by
        rw [HS.out, byteCells_append, byteCells_encodeRune]
      rw [hlen3, hcel3] at hown3
      rw [hlen3]
      clear hgr3 hat3 hnews hr2 hone hown2 hown HEL hlen3 hcel3
      go_wp2_with fail
      exact ⟨⟨k + 1, _, _, rfl, by go_num, by omega, hown3, hb3⟩, by simp [intOf]; omega⟩
    · obtain rfl : k = l.length := by omega
      have hconv := own_string (P := Tryd.prog) (src := 75) (dst := 9) Tryd.underlying75 Tryd.underlying5 Tryd.underlying9 hown
      rw [bytesTo_all] at hconv
      have hfin : enc (pcs s) = enc l := by rw [HL.out]
      have HF := Lib.hid hfin
      clear hfin
      have hbw : Below w.heap.size w wr := h4.trans (hb.mono hs1)
      clear hown
      generalize (bytesTo l l.length).length = N at *
      go_wp2_with fail
      go_ret2
      exact ⟨by rw [HF.out]; rfl, hbw⟩
end Go.Proofs.YtokdpfapakemmaaDoor
