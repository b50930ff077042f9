/- MatchNames: the answers, as contracts over the state. MatchNames: the statement's walk. -/
import Derived.Test.YtimhlnndobfehaaDoorMn02
import Derived.Test.YtimhlnndobfehaaDoorMc37
namespace Go.Proofs.YtimhlnndobfehaaDoor
open Go.RowKit
open Go.Lib (Utf8Tabs)
set_option linter.unusedVariables false

/-- The state: an alphabet and a pattern, boxed. -/
structure NSt (W : World) (p q b : Nat) (A : Option Addr) (c : Nat) (w : World) : Prop where
  r1 : Row w p 25 [.slice (some ⟨b, 0, none⟩) 1 1, .slice (some ⟨b + 1, 0, none⟩) 4 4]
  r2 : Row w q 28 [.slice A (deepN 1).length c]
  al : AlIn w 0 w.heap.size (some ⟨b, 0, none⟩) (some ⟨b + 1, 0, none⟩) sampleA
  fo : Sl 5 vNd w 0 w.heap.size A (deepN 1)
  tabs : Utf8Tabs 0 1 w
  below : Below W.heap.size W w
theorem NSt.on {W w w' : World} {p q b c : Nat} {A : Option Addr} (h : NSt W p q b A c w) (hb : Below w.heap.size w w') : NSt W p q b A c w' :=
  ⟨h.r1.below hb h.r1.lt, h.r2.below hb h.r2.lt, h.al.on hb, (h.fo.below vNd_good hb (Nat.le_refl _)).wide vNd_good (Nat.le_refl _) hb.size, Utf8Tabs_below h.tabs hb, h.below.trans (hb.mono h.below.size)⟩
/-- The outcome of a call whose answer is a list, closed but for where it lies. -/
def LiK (n : Nat) (E : Int) (W : World) (e : Ending) (w' : World) : Prop := (∃ A c, e = .returned (.tuple #[.slice A n c, .int .i64 E])) ∧ Below W.heap.size W w'
def BoK (x : Bool) (E : Int) (W : World) (e : Ending) (w' : World) : Prop := e = .returned (.tuple #[.bool x, .int .i64 E]) ∧ Below W.heap.size W w'
theorem LiOut.k {r : List Int × Int} {W w' : World} {e : Ending} {n : Nat} {E : Int} (h1 : r.1.length = n) (h2 : r.2 = E) (h : LiOut r W e w') : LiK n E W e w' := by
  obtain ⟨A, c, rfl, _, hb⟩ := h
  exact ⟨⟨A, c, by rw [h1, h2]⟩, hb⟩
theorem BoOut.k {r : Bool × Int} {W w' : World} {e : Ending} {x : Bool} {E : Int} (h1 : r.1 = x) (h2 : r.2 = E) (h : BoOut r W e w') : BoK x E W e w' := by
  obtain ⟨rfl, hb⟩ := h
  exact ⟨by rw [h1, h2], hb⟩
theorem rowA_fit (n : Nat) (h : n ≤ 1000) : (rowA n).size ≤ maxLen := by
  have e : (rowA n).size = n := by unfold rowA; simp [ByteArray.size]
  unfold maxLen
  omega
section
variable {W : World} {p q b : Nat} {A : Option Addr} {c : Nat} {wx : World}
theorem nst_nodes (h : NSt W p q b A c wx) : (deepN 1).length ≤ 9223372036854775807 := by rw [deep_len]; omega
theorem nk_6 (h : NSt W p q b A c wx) : Calls Tryd.prog 27 #[.agg #[.slice (some ⟨b, 0, none⟩) 1 1, .slice (some ⟨b + 1, 0, none⟩) 4 4], .agg #[.slice A (deepN 1).length c], .string (rowA 64), .int .i64 0] wx (LiK 65 0 wx) :=
  (ends_op (some ⟨b, 0, none⟩) (some ⟨b + 1, 0, none⟩) A 1 4 c 0 sampleA (deepN 1) (rowA 64) 0 wx h.al h.tabs h.fo (nst_nodes h) (rowA_fit 64 (by omega))).mono fun e w' k => k.k nm_e1.2 nm_e1.1
theorem nk_7 (h : NSt W p q b A c wx) : Calls Tryd.prog 27 #[.agg #[.slice (some ⟨b, 0, none⟩) 1 1, .slice (some ⟨b + 1, 0, none⟩) 4 4], .agg #[.slice A (deepN 1).length c], .string (rowA 65), .int .i64 0] wx (LiK (endsS sampleA (deepN 1) (rowA 65) 0).1.length 4 wx) :=
  (ends_op (some ⟨b, 0, none⟩) (some ⟨b + 1, 0, none⟩) A 1 4 c 0 sampleA (deepN 1) (rowA 65) 0 wx h.al h.tabs h.fo (nst_nodes h) (rowA_fit 65 (by omega))).mono fun e w' k => k.k rfl nm_e2
theorem nk_8 (h : NSt W p q b A c wx) {A5 : Option Addr} {c5 : Nat} (hf : Sl 5 vNd wx 0 wx.heap.size A5 (deepN 255)) : Calls Tryd.prog 29 #[.agg #[.slice (some ⟨b, 0, none⟩) 1 1, .slice (some ⟨b + 1, 0, none⟩) 4 4], .agg #[.slice A5 (deepN 255).length c5], .string (rowA 64)] wx (BoK true 0 wx) :=
  (whole_any (some ⟨b, 0, none⟩) (some ⟨b + 1, 0, none⟩) A5 1 4 c5 0 sampleA (deepN 255) (rowA 64) wx h.al h.tabs hf (by rw [deep_len]; omega) (rowA_fit 64 (by omega))).mono fun e w' k => k.k (by rw [nm_e3]) (by rw [nm_e3])
theorem nk_9 (h : NSt W p q b A c wx) {A5 : Option Addr} {c5 : Nat} (hf : Sl 5 vNd wx 0 wx.heap.size A5 (deepN 256)) : Calls Tryd.prog 29 #[.agg #[.slice (some ⟨b, 0, none⟩) 1 1, .slice (some ⟨b + 1, 0, none⟩) 4 4], .agg #[.slice A5 (deepN 256).length c5], .string (rowA 64)] wx (BoK false 40 wx) :=
  (whole_any (some ⟨b, 0, none⟩) (some ⟨b + 1, 0, none⟩) A5 1 4 c5 0 sampleA (deepN 256) (rowA 64) wx h.al h.tabs hf (by rw [deep_len]; omega) (rowA_fit 64 (by omega))).mono fun e w' k => k.k (by rw [nm_e4]) (by rw [nm_e4])
theorem nk_10 (h : NSt W p q b A c wx) : Calls Tryd.prog 30 #[.agg #[.slice (some ⟨b, 0, none⟩) 1 1, .slice (some ⟨b + 1, 0, none⟩) 4 4], .agg #[.slice A (deepN 1).length c], .string (rowA 64), .int .i64 64] wx (LiK 65 0 wx) :=
  (begins_op (some ⟨b, 0, none⟩) (some ⟨b + 1, 0, none⟩) A 1 4 c 0 sampleA (deepN 1) (rowA 64) 64 wx h.al h.tabs h.fo (nst_nodes h) (rowA_fit 64 (by omega))).mono fun e w' k => k.k nm_e5.2 nm_e5.1
theorem nk_11 (h : NSt W p q b A c wx) : Calls Tryd.prog 30 #[.agg #[.slice (some ⟨b, 0, none⟩) 1 1, .slice (some ⟨b + 1, 0, none⟩) 4 4], .agg #[.slice A (deepN 1).length c], .string (rowA 64), .int .i64 65] wx (LiK (beginsS sampleA (deepN 1) (rowA 64) 65).1.length 2 wx) :=
  (begins_op (some ⟨b, 0, none⟩) (some ⟨b + 1, 0, none⟩) A 1 4 c 0 sampleA (deepN 1) (rowA 64) 65 wx h.al h.tabs h.fo (nst_nodes h) (rowA_fit 64 (by omega))).mono fun e w' k => k.k rfl nm_e6
theorem nk_12 (h : NSt W p q b A c wx) : Calls Tryd.prog 27 #[.agg #[.slice (some ⟨b, 0, none⟩) 1 1, .slice (some ⟨b + 1, 0, none⟩) 4 4], .agg #[.slice A (deepN 1).length c], .string ⟨#[]⟩, .int .i64 (-1)] wx (LiK (endsS sampleA (deepN 1) ⟨#[]⟩ (-1)).1.length 2 wx) :=
  (ends_op (some ⟨b, 0, none⟩) (some ⟨b + 1, 0, none⟩) A 1 4 c 0 sampleA (deepN 1) ⟨#[]⟩ (-1) wx h.al h.tabs h.fo (nst_nodes h) (by unfold maxLen; decide)).mono fun e w' k => k.k rfl nm_e7
theorem nk_13 (h : NSt W p q b A c wx) : Calls Tryd.prog 29 #[.agg #[.slice (some ⟨b, 0, none⟩) 1 1, .slice (some ⟨b + 1, 0, none⟩) 4 4], .agg #[.slice A (deepN 1).length c], .string ⟨#[97, 255]⟩] wx (BoK (wholeS sampleA (deepN 1) ⟨#[97, 255]⟩).1 6 wx) :=
  (whole_any (some ⟨b, 0, none⟩) (some ⟨b + 1, 0, none⟩) A 1 4 c 0 sampleA (deepN 1) ⟨#[97, 255]⟩ wx h.al h.tabs h.fo (nst_nodes h) (by unfold maxLen; decide)).mono fun e w' k => k.k rfl nm_e8
theorem nk_14 (h : NSt W p q b A c wx) : Calls Tryd.prog 29 #[.agg #[.slice (some ⟨b, 0, none⟩) 1 1, .slice (some ⟨b + 1, 0, none⟩) 4 4], .agg #[.slice A (deepN 1).length c], .string ⟨#[97, 120, 255]⟩] wx (BoK (wholeS sampleA (deepN 1) ⟨#[97, 120, 255]⟩).1 5 wx) :=
  (whole_any (some ⟨b, 0, none⟩) (some ⟨b + 1, 0, none⟩) A 1 4 c 0 sampleA (deepN 1) ⟨#[97, 120, 255]⟩ wx h.al h.tabs h.fo (nst_nodes h) (by unfold maxLen; decide)).mono fun e w' k => k.k rfl nm_e9
theorem nk_15 (h : NSt W p q b A c wx) : Calls Tryd.prog 29 #[.agg #[.slice none 0 0, .slice none 0 0], .agg #[.slice none 0 0], .string ⟨#[255]⟩] wx (BoK (wholeS ⟨[], []⟩ [] ⟨#[255]⟩).1 7 wx) :=
  (whole_any none none none 0 0 0 0 ⟨[], []⟩ [] ⟨#[255]⟩ wx ⟨Sl.nil _, Sl.nil _, by simp, by simp⟩ h.tabs (Sl.nil _) (by simp) (by unfold maxLen; decide)).mono fun e w' k => k.k rfl nm_e10
theorem nk_16 (h : NSt W p q b A c wx) : Calls Tryd.prog 31 #[.agg #[.slice (some ⟨b, 0, none⟩) 1 1, .slice (some ⟨b + 1, 0, none⟩) 4 4], .agg #[.slice A (deepN 1).length c], .agg #[.slice none 0 0], .string ⟨#[255]⟩, .int .i64 (-1), .int .i64 (-1)] wx (BoK (betweenS sampleA (deepN 1) [] ⟨#[255]⟩ (-1) (-1)).1 40 wx) :=
  (between_any (some ⟨b, 0, none⟩) (some ⟨b + 1, 0, none⟩) A none 1 4 c 0 0 sampleA (deepN 1) [] ⟨#[255]⟩ (-1) (-1) wx h.al h.tabs h.fo (Sl.nil _) (nst_nodes h) (by simp) (by unfold maxLen; decide)).mono fun e w' k => k.k rfl nm_e11
theorem nk_17 (h : NSt W p q b A c wx) : Calls Tryd.prog 31 #[.agg #[.slice (some ⟨b, 0, none⟩) 1 1, .slice (some ⟨b + 1, 0, none⟩) 4 4], .agg #[.slice A (deepN 1).length c], .agg #[.slice A (deepN 1).length c], .string ⟨#[]⟩, .int .i64 0, .int .i64 1] wx (BoK (betweenS sampleA (deepN 1) (deepN 1) ⟨#[]⟩ 0 1).1 2 wx) :=
  (between_any (some ⟨b, 0, none⟩) (some ⟨b + 1, 0, none⟩) A A 1 4 c c 0 sampleA (deepN 1) (deepN 1) ⟨#[]⟩ 0 1 wx h.al h.tabs h.fo h.fo (nst_nodes h) (nst_nodes h) (by unfold maxLen; decide)).mono fun e w' k => k.k rfl nm_e12
/-- All's answer: two spans, the second one at the end. -/
def AlK (W : World) (e : Ending) (w' : World) : Prop := (∃ g c, e = .returned (.tuple #[.slice (some ⟨g, 0, none⟩) 2 c, .int .i64 0]) ∧ g < w'.heap.size ∧ w'.cell? ⟨g, 2, none⟩ = some (.int .i64 64) ∧ w'.cell? ⟨g, 3, none⟩ = some (.int .i64 64) ∧ w'.frozen? ⟨g, 2, none⟩ = false ∧ w'.frozen? ⟨g, 3, none⟩ = false) ∧ Below W.heap.size W w'
theorem nk_18 (h : NSt W p q b A c wx) : Calls Tryd.prog 32 #[.agg #[.slice (some ⟨b, 0, none⟩) 1 1, .slice (some ⟨b + 1, 0, none⟩) 4 4], .agg #[.slice A (deepN 1).length c], .string (rowA 64)] wx (AlK wx) :=
  (all_op (some ⟨b, 0, none⟩) (some ⟨b + 1, 0, none⟩) A 1 4 c 0 sampleA (deepN 1) (rowA 64) wx h.al h.tabs h.fo (nst_nodes h) (rowA_fit 64 (by omega))).mono fun e w' k => by
    rw [nm_e13] at k
    obtain ⟨A5, c5, rfl, ho, hb⟩ := k
    obtain ⟨g, c6, e6, _, _, _, hg⟩ := own_pos ho (by decide)
    injection e6 with h1 _ h3
    subst h1 h3
    have h2 := own_cel ho (j := 2) (u := .int .i64 64) rfl
    have h3 := own_cel ho (j := 3) (u := .int .i64 64) rfl
    exact ⟨⟨g, c5, rfl, hg, h2.1, h3.1, h2.2, h3.2⟩, hb⟩
end
end Go.Proofs.YtimhlnndobfehaaDoor
namespace Go.Proofs.YtimhlnndobfehaaDoor
open Go.RowKit
open Go.Lib (Utf8Tabs)
set_option linter.unusedVariables false

set_option maxHeartbeats 8000000 in
set_option maxRecDepth 100000 in
theorem names_walk (w : World) (hT : Utf8Tabs 0 1 w) : Calls Tryd.prog 6 #[] w fun e w' => e = .returned (.bool true) ∧ Below w.heap.size w w' := by
  have haw := Lib.hid (alive_any w hT)
  have HT := Lib.hid hT
  clear hT
  go_enter Tryd.func6, Tryd.ntmps6
  go_wp2_with fail
  refine haw.out.mono ?_
  rintro e0 w1 ⟨rfl, hb1⟩
  have HT1 := Lib.hid (Utf8Tabs_below HT.out hb1)
  have HB1 := Lib.hid hb1
  clear haw HT hb1
  go_wp2_with fail
  refine (sample_any w1).mono ?_
  rintro e w0 ⟨b, rfl, hin, hb0⟩
  have hbA : Below w0.heap.size w0 (w0.alloc (.cells #[.slice (some ⟨b, 0, none⟩) 1 1, .slice (some ⟨b + 1, 0, none⟩) 4 4] 25)) := (Below.refl _ _).alloc (Nat.le_refl _) _
  have hrA := Row.new w0 25 [.slice (some ⟨b, 0, none⟩) 1 1, .slice (some ⟨b + 1, 0, none⟩) 4 4]
  have hF := Lib.hid (deepP_any 1 (by omega) (w0.alloc (.cells #[.slice (some ⟨b, 0, none⟩) 1 1, .slice (some ⟨b + 1, 0, none⟩) 4 4] 25)))
  have HIN := Lib.hid (hin.on hbA)
  have HB := Lib.hid (hb0.trans (hbA.mono hb0.size))
  have HRA := Lib.hid hrA
  clear hin hb0 hbA hrA
  go_wp2_with fail
  refine hF.out.mono ?_
  rintro e w2 ⟨A, c, rfl, hfo, hb2⟩
  have hb3 : Below w2.heap.size w2 (w2.alloc (.cells #[.slice A (deepN 1).length c] 28)) := (Below.refl _ _).alloc (Nat.le_refl _) _
  have hsz : (w0.alloc (.cells #[.slice (some ⟨b, 0, none⟩) 1 1, .slice (some ⟨b + 1, 0, none⟩) 4 4] 25)).heap.size = w0.heap.size + 1 := by simp
  have hb23 := hb2.trans (hb3.mono hb2.size)
  have hs3 : NSt w w0.heap.size w2.heap.size b A c (w2.alloc (.cells #[.slice A (deepN 1).length c] 28)) :=
    ⟨HRA.out.below hb23 HRA.out.lt, Row.new w2 28 _, HIN.out.on hb23, (hfo.below vNd_good hb3 (Nat.le_refl _)).wide vNd_good (Nat.le_refl _) hb3.size, Utf8Tabs_below HT1.out (HB.out.trans (hb23.mono HB.out.size)), HB1.out.trans ((HB.out.trans (hb23.mono HB.out.size)).mono HB1.out.size)⟩
  obtain ⟨p, hp⟩ : ∃ p, p = w0.heap.size := ⟨_, rfl⟩
  obtain ⟨q, hq⟩ : ∃ q, q = w2.heap.size := ⟨_, rfl⟩
  obtain ⟨w3, hw3⟩ : ∃ w3, w3 = w2.alloc (.cells #[.slice A (deepN 1).length c] 28) := ⟨_, rfl⟩
  rw [← hw3, ← hp, ← hq] at hs3
  clear hF HIN HB HRA hfo hb2 hb3 hb23 hsz
  have HS := Lib.hid hs3
  clear hs3
  obtain ⟨a6, _⟩ := HS.out.r1.cel (i := 0) rfl
  obtain ⟨d6, _⟩ := HS.out.r1.cel (i := 1) rfl
  obtain ⟨p6, _⟩ := HS.out.r2.cel (i := 0) rfl
  have l6 := HS.out.r1.lt
  have m6 := HS.out.r2.lt
  have HD := Lib.hid (HS.out.on (below_drewN (Below.refl _ _) 1))
  go_upto_region 6 with (fail)
  rw [← hw3, ← hp, ← hq]
  clear hw3 hp hq HT1 HB1
  go_region_held3 (fun w' => w'.cell? ⟨p, 0, none⟩ = some (.slice (some ⟨b, 0, none⟩) 1 1) ∧ w'.cell? ⟨p, 1, none⟩ = some (.slice (some ⟨b + 1, 0, none⟩) 4 4) ∧ w'.cell? ⟨q, 0, none⟩ = some (.slice A (deepN 1).length c)) (go_keep)
    ((first
      | (go_at_call 28; refine (rowN_any 64 (by omega) _).mono ?_; rintro e wr6 ⟨rfl, hr6⟩; have HRR := Lib.hid (HD.out.on hr6); have x60 := (HRR.out.r1.cel (i := 0) rfl).1; have x61 := (HRR.out.r1.cel (i := 1) rfl).1; have x62 := (HRR.out.r2.cel (i := 0) rfl).1)
      | (go_at_call 27; refine (nk_6 HRR.out).mono ?_; rintro e we6 ⟨⟨A6, c6, rfl⟩, he6⟩; have HX := Lib.hid (HRR.out.on he6); have y60 := (HX.out.r1.cel (i := 0) rfl).1; have y61 := (HX.out.r1.cel (i := 1) rfl).1; have y62 := (HX.out.r2.cel (i := 0) rfl).1)))
  clear a6 d6 p6 l6 m6 x60 x61 x62 y60 y61 y62 HRR HD HS hr6 he6
  have HS := HX
  clear HX
  obtain ⟨a7, _⟩ := HS.out.r1.cel (i := 0) rfl
  obtain ⟨d7, _⟩ := HS.out.r1.cel (i := 1) rfl
  obtain ⟨p7, _⟩ := HS.out.r2.cel (i := 0) rfl
  have l7 := HS.out.r1.lt
  have m7 := HS.out.r2.lt
  have HD := Lib.hid (HS.out.on (below_drewN (Below.refl _ _) 1))
  go_upto_region 7 with (fail)
  go_region_held3 (fun w' => w'.cell? ⟨p, 0, none⟩ = some (.slice (some ⟨b, 0, none⟩) 1 1) ∧ w'.cell? ⟨p, 1, none⟩ = some (.slice (some ⟨b + 1, 0, none⟩) 4 4) ∧ w'.cell? ⟨q, 0, none⟩ = some (.slice A (deepN 1).length c)) (go_keep)
    ((first
      | (go_at_call 28; refine (rowN_any 65 (by omega) _).mono ?_; rintro e wr7 ⟨rfl, hr7⟩; have HRR := Lib.hid (HD.out.on hr7); have x70 := (HRR.out.r1.cel (i := 0) rfl).1; have x71 := (HRR.out.r1.cel (i := 1) rfl).1; have x72 := (HRR.out.r2.cel (i := 0) rfl).1)
      | (go_at_call 27; refine (nk_7 HRR.out).mono ?_; rintro e we7 ⟨⟨A7, c7, rfl⟩, he7⟩; have HX := Lib.hid (HRR.out.on he7); have y70 := (HX.out.r1.cel (i := 0) rfl).1; have y71 := (HX.out.r1.cel (i := 1) rfl).1; have y72 := (HX.out.r2.cel (i := 0) rfl).1)))
  clear a7 d7 p7 l7 m7 x70 x71 x72 y70 y71 y72 HRR HD HS hr7 he7
  have HS := HX
  clear HX
  obtain ⟨a8, _⟩ := HS.out.r1.cel (i := 0) rfl
  obtain ⟨d8, _⟩ := HS.out.r1.cel (i := 1) rfl
  obtain ⟨p8, _⟩ := HS.out.r2.cel (i := 0) rfl
  have l8 := HS.out.r1.lt
  have m8 := HS.out.r2.lt
  have HD := Lib.hid (HS.out.on (below_drewN (Below.refl _ _) 1))
  go_upto_region 8 with (fail)
  go_region_held3 (fun w' => w'.cell? ⟨p, 0, none⟩ = some (.slice (some ⟨b, 0, none⟩) 1 1) ∧ w'.cell? ⟨p, 1, none⟩ = some (.slice (some ⟨b + 1, 0, none⟩) 4 4) ∧ w'.cell? ⟨q, 0, none⟩ = some (.slice A (deepN 1).length c)) (go_keep)
    ((first
      | (go_at_call 26; refine (deepP_any 255 (by omega) _).mono ?_; rintro e wd8 ⟨Ad8, cd8, rfl, hfo8, hd8⟩; have HDD := Lib.hid (HD.out.on hd8); have HFO := Lib.hid hfo8; have z80 := (HDD.out.r1.cel (i := 0) rfl).1; have z81 := (HDD.out.r1.cel (i := 1) rfl).1; have z82 := (HDD.out.r2.cel (i := 0) rfl).1)
      | (go_at_call 28; refine (rowN_any 64 (by omega) _).mono ?_; rintro e wr8 ⟨rfl, hr8⟩; have HRR := Lib.hid (HDD.out.on hr8); have HFR := Lib.hid ((HFO.out.below vNd_good hr8 (Nat.le_refl _)).wide vNd_good (Nat.zero_le _) hr8.size); have x80 := (HRR.out.r1.cel (i := 0) rfl).1; have x81 := (HRR.out.r1.cel (i := 1) rfl).1; have x82 := (HRR.out.r2.cel (i := 0) rfl).1)
      | (go_at_call 29; refine (nk_8 HRR.out HFR.out).mono ?_; rintro e we8 ⟨rfl, he8⟩; have HX := Lib.hid (HRR.out.on he8); have y80 := (HX.out.r1.cel (i := 0) rfl).1; have y81 := (HX.out.r1.cel (i := 1) rfl).1; have y82 := (HX.out.r2.cel (i := 0) rfl).1)))
  clear a8 d8 p8 l8 m8 x80 x81 x82 y80 y81 y82 HRR HD HS hr8 he8 z80 z81 z82 HDD HFO HFR hfo8 hd8
  have HS := HX
  clear HX
  obtain ⟨a9, _⟩ := HS.out.r1.cel (i := 0) rfl
  obtain ⟨d9, _⟩ := HS.out.r1.cel (i := 1) rfl
  obtain ⟨p9, _⟩ := HS.out.r2.cel (i := 0) rfl
  have l9 := HS.out.r1.lt
  have m9 := HS.out.r2.lt
  have HD := Lib.hid (HS.out.on (below_drewN (Below.refl _ _) 1))
  go_upto_region 9 with (fail)
  go_region_held3 (fun w' => w'.cell? ⟨p, 0, none⟩ = some (.slice (some ⟨b, 0, none⟩) 1 1) ∧ w'.cell? ⟨p, 1, none⟩ = some (.slice (some ⟨b + 1, 0, none⟩) 4 4) ∧ w'.cell? ⟨q, 0, none⟩ = some (.slice A (deepN 1).length c)) (go_keep)
    ((first
      | (go_at_call 26; refine (deepP_any 256 (by omega) _).mono ?_; rintro e wd9 ⟨Ad9, cd9, rfl, hfo9, hd9⟩; have HDD := Lib.hid (HD.out.on hd9); have HFO := Lib.hid hfo9; have z90 := (HDD.out.r1.cel (i := 0) rfl).1; have z91 := (HDD.out.r1.cel (i := 1) rfl).1; have z92 := (HDD.out.r2.cel (i := 0) rfl).1)
      | (go_at_call 28; refine (rowN_any 64 (by omega) _).mono ?_; rintro e wr9 ⟨rfl, hr9⟩; have HRR := Lib.hid (HDD.out.on hr9); have HFR := Lib.hid ((HFO.out.below vNd_good hr9 (Nat.le_refl _)).wide vNd_good (Nat.zero_le _) hr9.size); have x90 := (HRR.out.r1.cel (i := 0) rfl).1; have x91 := (HRR.out.r1.cel (i := 1) rfl).1; have x92 := (HRR.out.r2.cel (i := 0) rfl).1)
      | (go_at_call 29; refine (nk_9 HRR.out HFR.out).mono ?_; rintro e we9 ⟨rfl, he9⟩; have HX := Lib.hid (HRR.out.on he9); have y90 := (HX.out.r1.cel (i := 0) rfl).1; have y91 := (HX.out.r1.cel (i := 1) rfl).1; have y92 := (HX.out.r2.cel (i := 0) rfl).1)))
  clear a9 d9 p9 l9 m9 x90 x91 x92 y90 y91 y92 HRR HD HS hr9 he9 z90 z91 z92 HDD HFO HFR hfo9 hd9
  have HS := HX
  clear HX
  obtain ⟨a10, _⟩ := HS.out.r1.cel (i := 0) rfl
  obtain ⟨d10, _⟩ := HS.out.r1.cel (i := 1) rfl
  obtain ⟨p10, _⟩ := HS.out.r2.cel (i := 0) rfl
  have l10 := HS.out.r1.lt
  have m10 := HS.out.r2.lt
  have HD := Lib.hid (HS.out.on (below_drewN (Below.refl _ _) 1))
  go_upto_region 10 with (fail)
  go_region_held3 (fun w' => w'.cell? ⟨p, 0, none⟩ = some (.slice (some ⟨b, 0, none⟩) 1 1) ∧ w'.cell? ⟨p, 1, none⟩ = some (.slice (some ⟨b + 1, 0, none⟩) 4 4) ∧ w'.cell? ⟨q, 0, none⟩ = some (.slice A (deepN 1).length c)) (go_keep)
    ((first
      | (go_at_call 28; refine (rowN_any 64 (by omega) _).mono ?_; rintro e wr10 ⟨rfl, hr10⟩; have HRR := Lib.hid (HD.out.on hr10); have x100 := (HRR.out.r1.cel (i := 0) rfl).1; have x101 := (HRR.out.r1.cel (i := 1) rfl).1; have x102 := (HRR.out.r2.cel (i := 0) rfl).1)
      | (go_at_call 30; refine (nk_10 HRR.out).mono ?_; rintro e we10 ⟨⟨A10, c10, rfl⟩, he10⟩; have HX := Lib.hid (HRR.out.on he10); have y100 := (HX.out.r1.cel (i := 0) rfl).1; have y101 := (HX.out.r1.cel (i := 1) rfl).1; have y102 := (HX.out.r2.cel (i := 0) rfl).1)))
  clear a10 d10 p10 l10 m10 x100 x101 x102 y100 y101 y102 HRR HD HS hr10 he10
  have HS := HX
  clear HX
  obtain ⟨a11, _⟩ := HS.out.r1.cel (i := 0) rfl
  obtain ⟨d11, _⟩ := HS.out.r1.cel (i := 1) rfl
  obtain ⟨p11, _⟩ := HS.out.r2.cel (i := 0) rfl
  have l11 := HS.out.r1.lt
  have m11 := HS.out.r2.lt
  have HD := Lib.hid (HS.out.on (below_drewN (Below.refl _ _) 1))
  go_upto_region 11 with (fail)
  go_region_held3 (fun w' => w'.cell? ⟨p, 0, none⟩ = some (.slice (some ⟨b, 0, none⟩) 1 1) ∧ w'.cell? ⟨p, 1, none⟩ = some (.slice (some ⟨b + 1, 0, none⟩) 4 4) ∧ w'.cell? ⟨q, 0, none⟩ = some (.slice A (deepN 1).length c)) (go_keep)
    ((first
      | (go_at_call 28; refine (rowN_any 64 (by omega) _).mono ?_; rintro e wr11 ⟨rfl, hr11⟩; have HRR := Lib.hid (HD.out.on hr11); have x110 := (HRR.out.r1.cel (i := 0) rfl).1; have x111 := (HRR.out.r1.cel (i := 1) rfl).1; have x112 := (HRR.out.r2.cel (i := 0) rfl).1)
      | (go_at_call 30; refine (nk_11 HRR.out).mono ?_; rintro e we11 ⟨⟨A11, c11, rfl⟩, he11⟩; have HX := Lib.hid (HRR.out.on he11); have y110 := (HX.out.r1.cel (i := 0) rfl).1; have y111 := (HX.out.r1.cel (i := 1) rfl).1; have y112 := (HX.out.r2.cel (i := 0) rfl).1)))
  clear a11 d11 p11 l11 m11 x110 x111 x112 y110 y111 y112 HRR HD HS hr11 he11
  have HS := HX
  clear HX
  obtain ⟨a12, _⟩ := HS.out.r1.cel (i := 0) rfl
  obtain ⟨d12, _⟩ := HS.out.r1.cel (i := 1) rfl
  obtain ⟨p12, _⟩ := HS.out.r2.cel (i := 0) rfl
  have l12 := HS.out.r1.lt
  have m12 := HS.out.r2.lt
  go_wp2_with fail
  refine (nk_12 HS.out).mono ?_
  rintro e we12 ⟨⟨A12, c12, rfl⟩, he12⟩
  have HX := Lib.hid (HS.out.on he12)
  clear a12 d12 p12 l12 m12 HS he12
  have HS := HX
  clear HX
  obtain ⟨a13, _⟩ := HS.out.r1.cel (i := 0) rfl
  obtain ⟨d13, _⟩ := HS.out.r1.cel (i := 1) rfl
  obtain ⟨p13, _⟩ := HS.out.r2.cel (i := 0) rfl
  have l13 := HS.out.r1.lt
  have m13 := HS.out.r2.lt
  go_wp2_with fail
  refine (nk_13 HS.out).mono ?_
  rintro e we13 ⟨rfl, he13⟩
  have HX := Lib.hid (HS.out.on he13)
  clear a13 d13 p13 l13 m13 HS he13
  have HS := HX
  clear HX
  obtain ⟨a14, _⟩ := HS.out.r1.cel (i := 0) rfl
  obtain ⟨d14, _⟩ := HS.out.r1.cel (i := 1) rfl
  obtain ⟨p14, _⟩ := HS.out.r2.cel (i := 0) rfl
  have l14 := HS.out.r1.lt
  have m14 := HS.out.r2.lt
  go_wp2_with fail
  refine (nk_14 HS.out).mono ?_
  rintro e we14 ⟨rfl, he14⟩
  have HX := Lib.hid (HS.out.on he14)
  clear a14 d14 p14 l14 m14 HS he14
  have HS := HX
  clear HX
  obtain ⟨a15, _⟩ := HS.out.r1.cel (i := 0) rfl
  obtain ⟨d15, _⟩ := HS.out.r1.cel (i := 1) rfl
  obtain ⟨p15, _⟩ := HS.out.r2.cel (i := 0) rfl
  have l15 := HS.out.r1.lt
  have m15 := HS.out.r2.lt
  go_wp2_with fail
  refine (nk_15 HS.out).mono ?_
  rintro e we15 ⟨rfl, he15⟩
  have HX := Lib.hid (HS.out.on he15)
  clear a15 d15 p15 l15 m15 HS he15
  have HS := HX
  clear HX
  obtain ⟨a16, _⟩ := HS.out.r1.cel (i := 0) rfl
  obtain ⟨d16, _⟩ := HS.out.r1.cel (i := 1) rfl
  obtain ⟨p16, _⟩ := HS.out.r2.cel (i := 0) rfl
  have l16 := HS.out.r1.lt
  have m16 := HS.out.r2.lt
  go_wp2_with fail
  refine (nk_16 HS.out).mono ?_
  rintro e we16 ⟨rfl, he16⟩
  have HX := Lib.hid (HS.out.on he16)
  clear a16 d16 p16 l16 m16 HS he16
  have HS := HX
  clear HX
  obtain ⟨a17, _⟩ := HS.out.r1.cel (i := 0) rfl
  obtain ⟨d17, _⟩ := HS.out.r1.cel (i := 1) rfl
  obtain ⟨p17, _⟩ := HS.out.r2.cel (i := 0) rfl
  have l17 := HS.out.r1.lt
  have m17 := HS.out.r2.lt
  go_wp2_with fail
  refine (nk_17 HS.out).mono ?_
  rintro e we17 ⟨rfl, he17⟩
  have HX := Lib.hid (HS.out.on he17)
  clear a17 d17 p17 l17 m17 HS he17
  have HS := HX
  clear HX
  obtain ⟨a18, _⟩ := HS.out.r1.cel (i := 0) rfl
  obtain ⟨d18, _⟩ := HS.out.r1.cel (i := 1) rfl
  obtain ⟨p18, _⟩ := HS.out.r2.cel (i := 0) rfl
  have l18 := HS.out.r1.lt
  have m18 := HS.out.r2.lt
  have HD := Lib.hid (HS.out.on (below_drewN (Below.refl _ _) 1))
  go_upto_region 18 with (fail)
  go_region_held3 (fun w' => w'.cell? ⟨p, 0, none⟩ = some (.slice (some ⟨b, 0, none⟩) 1 1) ∧ w'.cell? ⟨p, 1, none⟩ = some (.slice (some ⟨b + 1, 0, none⟩) 4 4) ∧ w'.cell? ⟨q, 0, none⟩ = some (.slice A (deepN 1).length c)) (go_keep)
    ((first
      | (go_at_call 28; refine (rowN_any 64 (by omega) _).mono ?_; rintro e wr18 ⟨rfl, hr18⟩; have HRR := Lib.hid (HD.out.on hr18); have x180 := (HRR.out.r1.cel (i := 0) rfl).1; have x181 := (HRR.out.r1.cel (i := 1) rfl).1; have x182 := (HRR.out.r2.cel (i := 0) rfl).1)
      | (go_at_call 32; refine (nk_18 HRR.out).mono ?_; rintro e we18 ⟨⟨g, cg, rfl, hg0, hg1, hg2, hg3, hg4⟩, he18⟩; have HX := Lib.hid (HRR.out.on he18); have y180 := (HX.out.r1.cel (i := 0) rfl).1; have y181 := (HX.out.r1.cel (i := 1) rfl).1; have y182 := (HX.out.r2.cel (i := 0) rfl).1)))
  clear a18 d18 p18 l18 m18 x180 x181 x182 y180 y181 y182 HRR HD HS hr18 he18
  have HS := HX
  clear HX
  have HB := Lib.hid HS.out.below
  clear HS
  go_wp2_with fail
  go_ret
  exact ⟨rfl, HB.out⟩
end Go.Proofs.YtimhlnndobfehaaDoor
