/- The document's mended: the pieces' bytes, mended. -/
import Derived.Test.YtokdpfapakemmaaDoorBackR
import Derived.BigQuiet
namespace Go.Proofs.YtokdpfapakemmaaDoor
open Go.RowKit Go.Lib
set_option linter.unusedVariables false

/-- A region that draws its order, where all operations yield the same in all worlds of a class, and leave a world of the class: one walk of it. -/
theorem wp_region_class {P : Program} {id : Nat} {Q : Exit → Act → World → Prop} {a : Act} {w : World} {l : List Oper} (C : World → Prop) (hm : P.follows .mixedOrders = true) (hB : Region.lexB .any l.toArray = true) (hC : C w.drew)
    (h : wpQuiet P l.toArray C (fun a' => ∀ w', C w' → Q .normal a' w') l a) : (Code.region id l.toArray true).wp P Q a w :=
  wp_region_quiet (C := C) hm hB hC (by simpa using h)

/-- A piece that lies in the text s, and whose bytes are by themselves that piece. -/
def PcIn (s : ByteArray) (p : Pc) : Prop := p.at_ + p.len ≤ s.size ∧ enc (pcs (s.extract p.at_ (p.at_ + p.len))) = enc [p]
theorem pcs_in (s : ByteArray) {p : Pc} (hp : p ∈ pcs s) : PcIn s p := by
  obtain ⟨k, hk, rfl⟩ := List.getElem_of_mem hp
  obtain ⟨e, hlt⟩ := pcs_at s 0 k hk
  have e' : (pcs s)[k] = pcAt s (placeOf s 0 k) := e
  have hw := decode_width s _ hlt
  have h1 := enc_part s k 1
  have h2 : placeOf s 0 (k + 1) = placeOf s 0 k + (Utf8.decode s (placeOf s 0 k)).2 := by
    rw [← placeOf_add, placeOf_succ s _ 0 hlt, placeOf_zero]
  have h3 : ((pcs s).drop k).take 1 = [(pcs s)[k]] := by
    rw [List.drop_eq_getElem_cons hk]
    rfl
  rw [h2, h3] at h1
  refine ⟨by rw [e']; show placeOf s 0 k + (Utf8.decode s (placeOf s 0 k)).2 ≤ _; omega, ?_⟩
  rw [e'] at h1 ⊢
  exact h1

def MendSt (s : ByteArray) (l : List Pc) (W : World) (o i : Value) (wr : World) : Prop :=
  ∃ k : Nat, k ≤ l.length ∧ i = .int .i64 k ∧ o = .string (enc (l.take k)) ∧ Below W.heap.size W wr

set_option maxHeartbeats 4000000 in
set_option maxRecDepth 100000 in
theorem mended_any (s : ByteArray) (A : Option Addr) (c lo : Nat) (l : List Pc) (w : World) (hs : s.size ≤ 65536) (hl : l.length ≤ 65536) (hsl : Sl 4 vPiece w lo w.heap.size A l) (hin : ∀ p ∈ l, PcIn s p) :
    Calls Tryd.prog 28 #[.string s, .slice A l.length c] w fun e w' => e = .returned (.string (enc l)) ∧ Below w.heap.size w w' := by
  go_enter Tryd.func28, Tryd.ntmps28
  go_wp2_with fail
  go_loopw [5, 6] (fun o i wr => MendSt s l w o i wr) (fun _ i _ => l.length - (intOf i).toNat)
  case atStart => exact ⟨0, by omega, rfl, rfl, Below.refl _ _⟩
  case round =>
    obtain ⟨k, hk, rfl, rfl, hb⟩ := hrel
    have hbs := hb.size
    have hes := enc_size (l.take k)
    rw [List.length_take] at hes
    by_cases hlt : k < l.length
    · obtain ⟨bp, op, rfl, hbp1, hbp2, _, ⟨c1, f1⟩, ⟨c2, f2⟩, _, hok⟩ := pc_at (hsl.below vPiece_good hb (Nat.le_refl _)) hlt
      obtain ⟨hi1, hi2⟩ := hin _ (List.getElem_mem hlt)
      have hnext : enc (l.take (k + 1)) = enc (l.take k) ++ enc [l[k]] := by
        rw [List.take_succ_eq_append_getElem hlt, enc_append]
      generalize l[k] = x at *
      have hcall := fun wx => rback_any (s.extract x.at_ (x.at_ + x.len)) wx (by rw [ByteArray.size_extract]; omega)
      rw [hi2] at hcall
      have hes1 := enc_size [x]
      rw [List.length_singleton] at hes1
      have HN := Lib.hid hnext
      have HC := Lib.hid hcall
      have HI := Lib.hid hi2
      clear hnext hcall hi2 hin
      generalize enc (l.take k) = out at *
      generalize enc [x] = y at *
      obtain ⟨hok0, hok1, hok2, hok3, hok4⟩ := hok
      have b1 : 0 ≤ (k : Int) := by omega
      have b2 : (k : Int) < (l.length : Int) := by omega
      have b3 : 0 ≤ (x.at_ : Int) := by omega
      have b4 : (x.at_ : Int) + (x.len : Int) ≤ (s.size : Int) := by omega
      have b5 : (x.at_ : Int) ≤ (x.at_ : Int) + (x.len : Int) := by omega
      have b6 : ((x.at_ : Int) + (x.len : Int)).toNat = x.at_ + x.len := by omega
      have b7 : 0 ≤ (x.at_ : Int) + (x.len : Int) := by omega
      have b8 : IntKind.i64.wrap ((x.at_ : Int) + (x.len : Int)) = (x.at_ : Int) + (x.len : Int) := IntWalk.i64_in _ (by omega)
      have HCel : ∀ wx, Below wr.heap.size wr wx → wx.cell? ⟨bp, op + k * 4 + 1, none⟩ = some (.int .i64 (x.at_ : Int)) ∧ wx.cell? ⟨bp, op + k * 4 + 2, none⟩ = some (.int .i64 (x.len : Int)) := fun wx hx =>
        ⟨((Cel.keep (Kp.of_below hx) (Nat.zero_le _) (by omega) ⟨c1, f1⟩)).1, ((Cel.keep (Kp.of_below hx) (Nat.zero_le _) (by omega) ⟨c2, f2⟩)).1⟩
      have HCel := Lib.hid HCel
      have hd : Below wr.heap.size wr wr.drew := below_drewN (Below.refl _ _) 1
      go_upto_region 5 with (fail)
      refine wp_region_class (fun wx => Below wr.heap.size wr wx) (by kernel_rfl) (by kernel_rfl) hd ?_
      repeat (first
        | go_big_quiet_skip
        | (go_big_quiet_want; go_big_quiet_op; first
            | go_big_quiet_on
            | (apply Exists.intro
               refine ⟨fun wx hx => ?_, ?_⟩
               · (first
                  | exact rfl
                  | (have e1 := (HCel.out wx hx).1; simp only [e1, Result.andThen]; exact ⟨trivial, rfl⟩)
                  | (have e1 := (HCel.out wx hx).2; simp only [e1, Result.andThen]; exact ⟨trivial, rfl⟩)
                  | (go_at_call 49; refine (HC.out _).mono ?_; rintro e w5 ⟨rfl, hb5⟩; exact ⟨rfl, hx.trans (hb5.mono hx.size)⟩))
               go_big_quiet_on)))
      refine wpQuiet_nil ?_
      intro w5 hq
      have hb6 : Below w.heap.size w w5 := hb.trans (hq.mono hbs)
      clear HC HCel
      go_wp2_with fail
      exact ⟨⟨k + 1, by omega, by go_num, by rw [HN.out], hb6⟩, by simp [intOf]; omega⟩
    · obtain rfl : k = l.length := by omega
      have HT := Lib.hid (show l.take l.length = l from List.take_length)
      go_wp2_with fail
      go_ret
      exact ⟨by rw [HT.out]; rfl, hb⟩
end Go.Proofs.YtokdpfapakemmaaDoor
