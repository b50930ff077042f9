/- word.read, walked. -/
import Derived.Test.YtimhlnndobfehaaDoorMc17
import Derived.Test.YtimhlnndobfehaaDoorMc20
import Derived.Deep.AppendLies
namespace Go.Proofs.YtimhlnndobfehaaDoor
open Go.RowKit
open Go.Lib (Utf8Tabs)
set_option linter.unusedVariables false

def runeVs (l : List Int) : List Value := l.map (Value.int .i32)
/-- A row of letters of the call's own, and an error. -/
def ReadOut (r : List Int × Int) (W : World) (e : Ending) (w' : World) : Prop :=
  ∃ A c, e = .returned (.tuple #[.slice A r.1.length c, .int .i64 r.2]) ∧ w'.ownsRow W.heap.size 21 1 (.slice A r.1.length c) r.1.length (runeVs r.1) ∧ Below W.heap.size W w'
theorem ReadOut.no {r : List Int × Int} {E : Int} {W w' : World} (h : r = ([], E)) (hb : Below W.heap.size W w') : ReadOut r W (.returned (.tuple #[.slice none 0 0, .int .i64 E])) w' := by
  subst h
  exact ⟨none, 0, rfl, World.ownsRow_nil _ _ _ _, hb⟩
theorem rune_info : (Tryd.prog.info? 21).map (fun i => (i.zero, i.size, i.bytes)) = some (some (.int .i32 0), 1, 4) := by kernel_rfl

theorem readP_step (isL : Int → Bool) (most : Nat) (l : List Pc) (acc : List Int) (k : Nat) (h : k < l.length) : readP isL most (l.drop k) acc = if l[k].broken then ([], 6) else if !isL l[k].rune then ([], 5) else if acc.length = most then ([], 4) else readP isL most (l.drop (k + 1)) (acc ++ [l[k].rune]) := by
  rw [List.drop_eq_getElem_cons h]
  rfl
def ReadSt (R : List Int × Int) (isL : Int → Bool) (l : List Pc) (W : World) (v i : Value) (wr : World) : Prop :=
  ∃ (k : Nat) (acc : List Int) (A : Option Addr) (c : Nat), v = .slice A acc.length c ∧ i = .int .i64 (k : Int) ∧ k ≤ l.length ∧ acc.length ≤ 64 ∧ R = readP isL 64 (l.drop k) acc ∧ wr.ownsRow W.heap.size 21 1 (.slice A acc.length c) acc.length (runeVs acc) ∧ Below W.heap.size W wr

set_option maxHeartbeats 4000000 in
set_option maxRecDepth 100000 in
theorem read_any (s : ByteArray) (bm n : Nat) (F : Lit → Option Int) (a : Al) (W : World) (hmap : MapI Tryd.prog 21 3 .i64 W bm n F) (hF0 : ∀ r, (F (.int .i32 r)).isSome = isLet a r) (hT : Utf8Tabs 0 1 W) (hm : s.size ≤ maxLen) :
    Calls Tryd.prog 80 #[.map (some bm), .string s] W (ReadOut (readS a s) W) := by
  obtain ⟨i1, hi1, hy0, hy1, hy2⟩ := info_parts rune_info
  have hm0 := hm
  unfold maxLen at hm0
  obtain ⟨x, hx1, hx2, hx3⟩ : ∃ x : ByteArray, x.size ≤ 65536 ∧ readS a s = readS a x ∧ ((65536 < s.size ∧ s.extract 0 65536 = x) ∨ (s.size ≤ 65536 ∧ s = x)) := by
    by_cases h : 65536 < s.size
    · exact ⟨s.extract 0 65536, by rw [ByteArray.size_extract]; omega, readS_cut a s h, .inl ⟨h, rfl⟩⟩
    · exact ⟨s, by omega, rfl, .inr ⟨by omega, rfl⟩⟩
  have hF := Lib.hid hF0
  clear hF0
  have HP := Lib.hid (pieces_any x W hx1 hT)
  have hpl := pcs_le x
  have HR : Hid (readS a s = readP (isLet a) 64 (pcs x) []) := hx2
  generalize hl : pcs x = l at *
  clear hl hx2
  rcases hx3 with ⟨h65, hxe⟩ | ⟨h65, hxe⟩
  all_goals
    have HXE := Lib.hid hxe
    subst hxe
    clear HXE
    go_enter Tryd.func80, Tryd.ntmps80
    go_wp2_with fail
    refine HP.out.mono ?_
    rintro e w1 ⟨Ap, cp, rfl, g1, g2, g3, g4⟩
    have hz1 := g4.size
    have hmap1 := hmap.below g4 hmap.lt
    have HST := Lib.hid (show ReadSt (readS a s) (isLet a) l w1 (.slice none 0 0) (.int .i64 0) w1 from ⟨0, [], none, 0, rfl, rfl, by omega, by simp, by rw [HR.out, List.drop_zero], World.ownsRow_nil _ _ _ _, Below.refl _ _⟩)
    clear HR
    generalize readS a s = R at *
    go_wp2_with fail
    go_loopw [8, 28] (fun v i wr => ReadSt R (isLet a) l w1 v i wr) (fun _ i _ => l.length - (intOf i).toNat)
    case atStart => exact HST.out
    case round =>
      clear HST
      obtain ⟨k, acc, Av, cv, rfl, rfl, hk, hacc, hR, hown, hb⟩ := hrel
      have HR := Lib.hid hR
      clear hR
      have hbs := hb.size
      by_cases hlt : k < l.length
      · obtain ⟨bp, op, rfl, _, hbp, ⟨c0, f0⟩, ⟨c1, f1⟩, ⟨c2, f2⟩, ⟨c3, f3⟩, hok⟩ := pc_at (g3.below vPiece_good hb (Nat.le_refl _)) hlt
        have hstep := readP_step (isLet a) 64 l acc k hlt
        generalize l[k] = p at *
        have HS := Lib.hid hstep
        clear hstep
        have hok1 : -2147483648 ≤ p.rune ∧ p.rune ≤ 2147483647 := by unfold PcOk at hok; omega
        have HK := Lib.hid (key_rune hok1)
        have hal : Below wr.heap.size wr (wr.alloc (.cells #[.int .i32 p.rune, .int .i64 p.at_, .int .i64 p.len, .bool p.broken] 151)) := (Below.refl _ _).alloc (Nat.le_refl _) _
        have hmap2 := (hmap1.below hb hmap1.lt).below hal (Nat.lt_of_lt_of_le hmap1.lt hbs)
        have hbA := hb.trans (hal.mono hbs)
        have hownA := own_below hown hal
        have hbW : Below W.heap.size W (wr.alloc (.cells #[.int .i32 p.rune, .int .i64 p.at_, .int .i64 p.len, .bool p.broken] 151)) := g4.trans (hbA.mono hz1)
        obtain ⟨prune, pat, plen, pbroken⟩ := p
        simp only at *
        cases pbroken with
        | true =>
          have hfin := ReadOut.no (r := R) (E := 6) (by rw [HR.out, HS.out]; rfl) hbW
          have HF := Lib.hid hfin
          clear hfin HR HS hownA hown hmap2 hmap1 hmap
          go_wp2_with fail
          go_ret2
          exact HF.out
        | false =>
          have hfs := hF.out prune
          cases hisl : isLet a prune with
          | false =>
            rw [hisl] at hfs
            have hfin := ReadOut.no (r := R) (E := 5) (by rw [HR.out, HS.out, hisl]; rfl) hbW
            have HF := Lib.hid hfin
            clear hfin HR HS hownA hown hmap1 hmap hisl
            go_wp2_with (at_lookup; refine wpList_lookup_ok_mapI (by rfl) _ _ 132 rfl 21 3 .i64 (Maps.int_keyed Tryd.underlying21) Tryd.underlying132 Tryd.underlying3 (zero_int _) bm n F rfl hmap2 _ _ rfl HK.out ?_)
            go_ret2
            exact HF.out
          | true =>
            rw [hisl] at hfs
            by_cases h64 : acc.length = 64
            · have hfin := ReadOut.no (r := R) (E := 4) (by rw [HR.out, HS.out, hisl, if_pos h64]; rfl) hbW
              have HF := Lib.hid hfin
              have h64' : ((acc.length : Int) == 64) = true := by rw [beq_iff_eq]; omega
              clear hfin HR HS hownA hown hmap1 hmap hisl h64
              go_wp2_with (at_lookup; refine wpList_lookup_ok_mapI (by rfl) _ _ 132 rfl 21 3 .i64 (Maps.int_keyed Tryd.underlying21) Tryd.underlying132 Tryd.underlying3 (zero_int _) bm n F rfl hmap2 _ _ rfl HK.out ?_)
              go_ret2
              exact HF.out
            · have hnx : R = readP (isLet a) 64 (l.drop (k + 1)) (acc ++ [prune]) := by rw [HR.out, HS.out, hisl, if_neg h64]; rfl
              have HN := Lib.hid hnx
              have h64' : ((acc.length : Int) == 64) = false := by rw [beq_eq_false_iff_ne]; omega
              have hrA := Row.new wr 151 [.int .i32 prune, .int .i64 pat, .int .i64 plen, .bool false]
              obtain ⟨W2, hW2⟩ : ∃ W2, W2 = wr.alloc (.cells #[.int .i32 prune, .int .i64 pat, .int .i64 plen, .bool false] 151) := ⟨_, rfl⟩
              have hal2 : Below W2.heap.size W2 (W2.alloc (.cells #[.int .i32 prune] 21)) := (Below.refl _ _).alloc (Nat.le_refl _) _
              rw [← hW2] at hownA
              have hownB := own_below hownA hal2
              have hrN := Row.new W2 21 [.int .i32 prune]
              have hnews := hrN.news
              have hone : ∀ u ∈ [Value.int .i32 prune], u.oneCell' = true := by intro u hu; rw [List.mem_singleton.1 hu]; rfl
              have h63 : acc.length + 1 ≤ maxLen := by unfold maxLen; omega
              have hby : (acc.length + 1) * 4 ≤ 140737488355328 := by omega
              have hWs : W2.heap.size = wr.heap.size + 1 := by rw [hW2]; simp
              have hlo : w1.heap.size ≤ (W2.alloc (.cells #[.int .i32 prune] 21)).heap.size := by have := hal2.size; omega
              have hbB : Below w1.heap.size w1 (W2.alloc (.cells #[.int .i32 prune] 21)) := by rw [hW2]; exact hbA.alloc (by have := hbA.size; exact this) _
              subst hW2
              have hge := fun j hj => (hown.lt j hj).1
              have hacc2 : acc.length < 64 := by omega
              simp only [World.size_alloc] at hnews
              clear hnx HR HS hmap1 hmap hisl h64 hWs hrN hal2 hrA hownA hal hbW hbA
              go_wp2_with (first
                | (at_lookup; refine wpList_lookup_ok_mapI (by rfl) _ _ 132 rfl 21 3 .i64 (Maps.int_keyed Tryd.underlying21) Tryd.underlying132 Tryd.underlying3 (zero_int _) bm n F rfl hmap2 _ _ rfl HK.out ?_)
                | (at_builtin; refine wpList_append_lies _ rfl _ _ 107 rfl w1.heap.size 21 i1 (.int .i32 0) 1 4 Tryd.underlying107 hi1 hy0 hy1 hy2 rfl (by decide) (.slice Av acc.length cv) acc.length (runeVs acc) rfl hownB ⟨wr.heap.size + 1, 0, none⟩ 1 1 [.int .i32 prune] rfl rfl hnews hone (by decide) h63 hby hlo _ rfl ?_))
              intro g cap w5 hown5 hgr5 hat5 hlt5
              have hb5 : Below w1.heap.size w1 w5 := hbB.grown hgr5 hlo hge
              have e1 : acc.length + 1 = (acc ++ [prune]).length := by simp
              have e2 : runeVs acc ++ [.int .i32 prune] = runeVs (acc ++ [prune]) := by unfold runeVs; simp
              rw [e1, e2] at hown5
              rw [e1]
              have hfin : ReadSt R (isLet a) l w1 (.slice (some ⟨g, 0, none⟩) (acc ++ [prune]).length cap) (.int .i64 ((k + 1 : Nat) : Int)) w5 := ⟨k + 1, acc ++ [prune], _, _, rfl, rfl, by omega, by simp; omega, HN.out, hown5, hb5⟩
              have HF := Lib.hid hfin
              clear hfin hown5 hgr5 hat5 hownB hown hnews hone e1 e2 hmap2 HN
              go_wp2_with fail
              exact ⟨HF.out, by simp [intOf]; omega⟩
      · obtain rfl : k = l.length := by omega
        have hRR : R = (acc, 0) := by rw [HR.out, List.drop_length]; rfl
        have hfin : ReadOut R W (.returned (.tuple #[.slice Av acc.length cv, .int .i64 0])) wr := by
          rw [hRR]
          exact ⟨Av, cv, rfl, own_low hown hz1, g4.trans (hb.mono hz1)⟩
        have HF := Lib.hid hfin
        clear hfin hown hmap1 hmap hRR
        go_wp2_with fail
        go_ret2
        exact HF.out
end Go.Proofs.YtimhlnndobfehaaDoor
