/- Is it much work? -/
import Derived.Test.YtimhlnndobfehaaDoorMa36
namespace Go.Proofs.YtimhlnndobfehaaDoor
open Go.RowKit
open Go.Lib (Utf8Tabs)
set_option linter.unusedVariables false

def muchB (n z : Nat) : Bool := decide ((60 < n ∧ n ≤ 256) ∨ 1000 < n ∨ 2000 < z)
set_option maxHeartbeats 4000000 in
theorem much_any (An : Option Addr) (n cn : Nat) (s : ByteArray) (w : World) (hn : n ≤ 9223372036854775807) (hs : s.size ≤ maxLen) :
    Calls Tryd.prog 33 #[.agg #[.slice An n cn], .string s] w fun e w' => e = .returned (.bool (muchB n s.size)) ∧ Below w.heap.size w w' := by
  unfold maxLen at hs
  by_cases h1 : 60 < n
  · have k1 : (60 : Int) < (n : Int) := by omega
    by_cases h2 : n ≤ 256
    · have k2 : (n : Int) ≤ 256 := by omega
      have HF : Hid (muchB n s.size = true) := decide_eq_true (.inl ⟨h1, h2⟩)
      go_enter Tryd.func33, Tryd.ntmps33
      go_wp2_with fail
      go_ret
      exact ⟨retb_of (by rw [HF.out]), by go_grown⟩
    · have k2 : ¬ (n : Int) ≤ 256 := by omega
      by_cases h3 : 1000 < n
      · have k3 : (1000 : Int) < (n : Int) := by omega
        have HF : Hid (muchB n s.size = true) := decide_eq_true (.inr (.inl h3))
        go_enter Tryd.func33, Tryd.ntmps33
        go_wp2_with fail
        go_ret
        exact ⟨retb_of (by rw [HF.out]), by go_grown⟩
      · have k3 : ¬ (1000 : Int) < (n : Int) := by omega
        have HF : Hid (muchB n s.size = decide (2000 < s.size)) := by show _ = _; unfold muchB; simp [h2, h3]
        go_enter Tryd.func33, Tryd.ntmps33
        go_wp2_with fail
        go_ret
        exact ⟨retb_of (by rw [HF.out]; first | rfl | (rw [Bool.eq_iff_iff]; simp; omega)), by go_grown⟩
  · have k1 : ¬ (60 : Int) < (n : Int) := by omega
    have k3 : ¬ (1000 : Int) < (n : Int) := by omega
    have HF : Hid (muchB n s.size = decide (2000 < s.size)) := by
      show _ = _
      have h3 : ¬ 1000 < n := by omega
      unfold muchB
      simp [h1, h3]
    go_enter Tryd.func33, Tryd.ntmps33
    go_wp2_with fail
    go_ret
    exact ⟨retb_of (by rw [HF.out]; first | rfl | (rw [Bool.eq_iff_iff]; simp; omega)), by go_grown⟩
/-- A law's state: an alphabet and two patterns, boxed; what came in stands. -/
structure MSt (A1 A2 An Am : Option Addr) (c1 c2 cn cm : Nat) (a : Al) (ls rs : List Nd) (W w : World) : Prop where
  al : AlIn w 0 w.heap.size A1 A2 a
  tabs : Utf8Tabs 0 1 w
  l : Sl 5 vNd w 0 w.heap.size An ls
  r : Sl 5 vNd w 0 w.heap.size Am rs
  r0 : Row w W.heap.size 25 [.slice A1 a.feats.length c1, .slice A2 a.lets.length c2]
  r1 : Row w (W.heap.size + 1) 28 [.slice An ls.length cn]
  r2 : Row w (W.heap.size + 1 + 1) 28 [.slice Am rs.length cm]
  below : Below W.heap.size W w
section
variable {A1 A2 An Am : Option Addr} {c1 c2 cn cm : Nat} {a : Al} {ls rs : List Nd} {W w w' : World}
theorem MSt.on (h : MSt A1 A2 An Am c1 c2 cn cm a ls rs W w) (hb : Below w.heap.size w w') : MSt A1 A2 An Am c1 c2 cn cm a ls rs W w' :=
  ⟨h.al.on hb, Utf8Tabs_below h.tabs hb, (h.l.below vNd_good hb (Nat.le_refl _)).wide vNd_good (Nat.le_refl _) hb.size, (h.r.below vNd_good hb (Nat.le_refl _)).wide vNd_good (Nat.le_refl _) hb.size, h.r0.below hb h.r0.lt, h.r1.below hb h.r1.lt, h.r2.below hb h.r2.lt, h.below.trans (hb.mono h.below.size)⟩
theorem MSt.new (hin : AlIn w 0 w.heap.size A1 A2 a) (hT : Utf8Tabs 0 1 w) (hl : Sl 5 vNd w 0 w.heap.size An ls) (hr : Sl 5 vNd w 0 w.heap.size Am rs) :
    MSt A1 A2 An Am c1 c2 cn cm a ls rs w (((w.alloc (.cells #[.slice A1 a.feats.length c1, .slice A2 a.lets.length c2] 25)).alloc (.cells #[.slice An ls.length cn] 28)).alloc (.cells #[.slice Am rs.length cm] 28)) := by
  obtain ⟨r1, r2, r3, hb, _⟩ := boxes_3 w 25 28 28 [.slice A1 a.feats.length c1, .slice A2 a.lets.length c2] [.slice An ls.length cn] [.slice Am rs.length cm]
  exact ⟨hin.on hb, Utf8Tabs_below hT hb, (hl.below vNd_good hb (Nat.le_refl _)).wide vNd_good (Nat.le_refl _) hb.size, (hr.below vNd_good hb (Nat.le_refl _)).wide vNd_good (Nat.le_refl _) hb.size, r1, r2, r3, hb⟩
end
end Go.Proofs.YtimhlnndobfehaaDoor
