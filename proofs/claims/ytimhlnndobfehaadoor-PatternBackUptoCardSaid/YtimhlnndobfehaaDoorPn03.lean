/- feature.Parse, walked. The reader's class. -/
import Derived.Test.YtimhlnndobfehaaDoorPn02
import Derived.Test.YtimhlnndobfehaaDoorMc11
import Derived.Test.YtimhlnndobfehaaDoorMc02
import Derived.Test.YtimhlnndobfehaaDoorMc06
import Derived.Deep.RegionHeld3
import Derived.Deep.DeepMust
import Derived.Test.YtimhlnndobfehaaDoorPn01
namespace Go.Proofs.YtimhlnndobfehaaDoor
open Go.RowKit Go.Maps
set_option linter.unusedVariables false

theorem wpList_insert_mapV {P : Program} {k e : TypeId} {w : World} {ops : Array Oper} {rest : List Oper} {o : Oper} {a : Act} {Q : Exit → Act → World → Prop} (hw : Region.wanted o (yielded ops a.tmps) = true) (m x v : Operand) (t : TypeId) (hop : o.op = Op.insert t m x v)
    (K : Keyed P k) (ht : P.underlying t = some (.map k e)) (b N : Nat) (F : Lit → Option Value) (code : Lit → Nat) (hF : ∀ kl v, F kl = some v → code kl < N) (hi : ∀ a c u v, F a = some u → F c = some v → code a = code c → a = c) (hN : N < maxLen)
    (hm : a.eval m = .map (some b)) (hown : MapV P k w b F) (key val : Value) (kl : Lit) (hx : a.eval x = key) (hv : a.eval v = val) (hkey : keyOf P k key = some kl)
    (hK : ∀ w', MapV P k w' b (setAt F kl (some val)) → w.grownBy w' (some b) → wpList P ops Q rest (a.put o.dst undef) w') : wpList P ops Q (o :: rest) a w := by
  refine wpList_wanted hw fun K' hK' => ?_
  obtain ⟨w', hrun, r1, r2⟩ := hown.store K N code hF hi hN ht hkey (v := val)
  unfold Oper.wp
  simp [execOp, hop, hm, hx, hv, hrun, Result.andThen]
  exact hK' _ _ (hK w' r1 r2)
noncomputable def sign1 : Lit → Option Value := setAt (fun _ => none) (.int .i32 43) (some (.bool true))
noncomputable def signF : Lit → Option Value := setAt sign1 (.int .i32 45) (some (.bool false))
theorem sign1_one {a : Lit} {v : Value} (h : sign1 a = some v) : a = .int .i32 43 := by
  unfold sign1 setAt at h
  split at h
  · assumption
  · cases h
theorem signF_at (c : Nat) : signF (.int .i32 (c : Int)) = if c = 43 then some (.bool true) else if c = 45 then some (.bool false) else none := by
  unfold signF sign1 setAt
  by_cases h1 : c = 43
  · subst h1
    rw [if_neg (by simp), if_pos (by rfl), if_pos rfl]
  · by_cases h2 : c = 45
    · subst h2
      rw [if_pos (by rfl), if_neg (by omega), if_pos rfl]
    · rw [if_neg h1, if_neg h2, if_neg (by simp; omega), if_neg (by simp; omega)]
theorem signF_is (c : UInt8) : ∃ sh si : Bool, (signF (.int .i32 (c.toNat : Int))).getD (.bool false) = .bool sh ∧ (signF (.int .i32 (c.toNat : Int))).isSome = si ∧ (si = true ↔ ¬ (c ≠ 43 ∧ c ≠ 45)) ∧ (si = true → (sh = true ↔ c = 43)) := by
  rw [signF_at]
  have e43 : c.toNat = 43 ↔ c = 43 := ⟨fun h => UInt8.toNat_inj.1 h, fun h => by rw [h]; rfl⟩
  have e45 : c.toNat = 45 ↔ c = 45 := ⟨fun h => UInt8.toNat_inj.1 h, fun h => by rw [h]; rfl⟩
  by_cases h1 : c.toNat = 43
  · rw [if_pos h1]
    exact ⟨true, true, rfl, rfl, ⟨fun _ h => h.1 (e43.1 h1), fun _ => rfl⟩, fun _ => ⟨fun _ => e43.1 h1, fun _ => rfl⟩⟩
  · rw [if_neg h1]
    by_cases h2 : c.toNat = 45
    · rw [if_pos h2]
      exact ⟨false, true, rfl, rfl, ⟨fun _ h => h.2 (e45.1 h2), fun _ => rfl⟩, fun _ => ⟨fun h => (by cases h), fun h => absurd (e43.2 h) h1⟩⟩
    · rw [if_neg h2]
      exact ⟨false, false, rfl, rfl, ⟨fun h => (by cases h), fun h => absurd ⟨fun e => h1 (e43.2 e), fun e => h2 (e45.2 e)⟩ h⟩, fun h => (by cases h)⟩
theorem trim_rest (t : List UInt8) : Lib.trimLeftS t abcB.data.toList = t.dropWhile lower := by
  unfold Lib.trimLeftS
  congr 1
  funext b
  have h : ∀ n : Fin 256, abcB.data.toList.contains (UInt8.ofNat n.val) = lower (UInt8.ofNat n.val) := by decide +kernel
  have := h ⟨b.toNat, b.toNat_lt⟩
  simpa using this
theorem trimLeft_any (x : ByteArray) (w : World) : Calls Tryd.prog 133 #[.string x, .string abcB] w fun e w' => e = .returned (.string ⟨(x.data.toList.dropWhile lower).toArray⟩) ∧ Below w.heap.size w w' := by
  have := Any.strings_TrimLeft_laid Tryd.lays161 (by kernel_rfl) x abcB w (by decide) (ascii_of_all (by decide))
  rw [trim_rest] at this
  exact this
/-- A text and what is left of it behind small letters. -/
theorem name_rest (s : ByteArray) (k : Nat) (hk : k ≤ s.size) : ∃ e : Nat, k ≤ e ∧ e ≤ s.size ∧ s.size - ((s.extract k s.size).data.toList.dropWhile lower).length = e ∧ (s.extract k e).data.toList = (s.data.toList.drop k).takeWhile lower ∧ (s.data.toList.drop k).dropWhile lower = s.data.toList.drop e := by
  have hl : (s.extract k s.size).data.toList = s.data.toList.drop k := by
    rw [ext_list, List.take_of_length_le (by simp)]
  rw [hl]
  have hsp := List.takeWhile_append_dropWhile (p := lower) (l := s.data.toList.drop k)
  have hlen := congrArg List.length hsp
  rw [List.length_append, List.length_drop] at hlen
  have hsz : s.data.toList.length = s.size := Array.length_toList
  have key : ∀ (A B l : List UInt8), A ++ B = l → l.take A.length = A ∧ l.drop A.length = B := by rintro A B l rfl; simp
  obtain ⟨q1, q2⟩ := key _ _ _ hsp
  refine ⟨k + ((s.data.toList.drop k).takeWhile lower).length, by omega, by omega, by omega, ?_, ?_⟩
  · rw [ext_list, List.drop_take, Nat.add_sub_cancel_left]
    exact q1
  · rw [← List.drop_drop]
    exact q2.symm
/-- A class that is read, or none. -/
def FpOut (r : Option (Nat × Nat)) (W : World) (e : Ending) (w' : World) : Prop := (match r with
  | some x => ∃ i : Int, e = .returned (.tuple #[.int .u32 (x.1 : Int), .int .u32 (x.2 : Int), .int .i64 i, .int .i64 0])
  | none => ∃ i E : Int, E ≠ 0 ∧ e = .returned (.tuple #[.int .u32 0, .int .u32 0, .int .i64 i, .int .i64 E])) ∧ Below W.heap.size W w'
theorem results_four {fn : Func} {p q r s : Tmp} (h : fn.results = #[.tmp p, .tmp q, .tmp r, .tmp s]) (tmps : Array Value) (P : Program) (w : World) : (results fn tmps).run P w = .ok (.tuple #[tmps.getD p undef, tmps.getD q undef, tmps.getD r undef, tmps.getD s undef]) w := by
  unfold results
  rw [h]
  simp
def FpSt (a : Al) (s : ByteArray) (R : Option (Nat × Nat)) (mb : Nat) (W : World) (x4 x5 x6 : Value) (wr : World) : Prop :=
  ∃ (p m k f : Nat), x4 = .int .u32 (p : Int) ∧ x5 = .int .u32 (m : Int) ∧ x6 = .int .i64 (k : Int) ∧ k ≤ s.size ∧ p < 16777216 ∧ m < 16777216 ∧ s.size - k + 1 ≤ f ∧ Hid (R = featL a f (s.data.toList.drop k) p m) ∧ Hid (MapV Tryd.prog 21 wr mb signF) ∧ Hid (Below W.heap.size W wr)
set_option maxHeartbeats 8000000 in
set_option maxRecDepth 100000 in
theorem fparse_any (A1 A2 : Option Addr) (c1 c2 : Nat) (a : Al) (s : ByteArray) (w : World) (hin : AlIn w 0 w.heap.size A1 A2 a) (hs : s.size ≤ 65536) :
    Calls Tryd.prog 121 #[.agg #[.slice A1 a.feats.length c1, .slice A2 a.lets.length c2], .string s] w (FpOut (featS a s) w) := by
  have hal : Below w.heap.size w (w.alloc (.cells #[.slice A1 a.feats.length c1, .slice A2 a.lets.length c2] 25)) := (Below.refl _ _).alloc (Nat.le_refl _) _
  have hr0 := Row.new w 25 [.slice A1 a.feats.length c1, .slice A2 a.lets.length c2]
  have hcall := Lib.hid (check_any A1 A2 c1 c2 0 a _ (hin.on hal))
  have hz0 := alE_parts (a := a)
  have hR : featS a s = if alE a ≠ 0 then none else if 65536 < s.size then none else featL a (s.size + 1) s.data.toList 0 0 := rfl
  generalize featS a s = R at *
  by_cases hE : alE a = 0
  · rw [if_neg (by simp [hE]), if_neg (by omega)] at hR
    obtain ⟨hf24, _⟩ := hz0 hE
    rw [hE] at hcall
    have HIN := Lib.hid (fun (wx : World) (hb : Below w.heap.size w wx) => hin.on hb)
    have HR := Lib.hid hR
    have j0 : ¬ (65536 : Int) < (s.size : Int) := by omega
    have hmm := @run_makeMap Tryd.prog
    clear hR hE hz0 hin
    go_enter Tryd.func121, Tryd.ntmps121
    go_wp2_with fail
    refine hcall.out.mono ?_
    rintro e w1 ⟨rfl, hb1⟩
    have hbw1 := hal.trans (hb1.mono (by simp))
    have hr1 := hr0.below hb1 hr0.lt
    have HBW := Lib.hid hbw1
    have HR1 := Lib.hid hr1
    have hl1 := hr1.lt
    have hm0 : MapV Tryd.prog 21 (w1.alloc (.map #[] 0)) w1.heap.size (fun _ => none) := MapV.made w1 Tryd.prog 21
    have hk43 := key_rune (r := 43) (by omega)
    have hk45 := key_rune (r := 45) (by omega)
    clear hcall hal hb1 hr0 hr1 hbw1
    go_wp2_with (refine wpList_insert_mapV (by rfl) _ _ _ 115 rfl keyed_rune Tryd.underlying115 w1.heap.size 1 (fun _ => none) (fun _ => 0) (fun _ _ h => by cases h) (fun _ _ _ _ h => by cases h) (by unfold maxLen; omega) rfl hm0 _ _ (.int .i32 43) rfl rfl hk43 ?_)
    intro w2 hm2 hg2
    have hb2 : Below w1.heap.size w1 w2 := ((Below.refl _ _).alloc (Nat.le_refl _) _).grown hg2 (by simp) (fun j hj => by obtain rfl := Option.some.inj hj; omega)
    go_wp2_with (refine wpList_insert_mapV (by rfl) _ _ _ 115 rfl keyed_rune Tryd.underlying115 w1.heap.size 1 sign1 (fun _ => 0) (fun _ _ _ => by omega) (fun _ _ _ _ h h' _ => by rw [sign1_one h, sign1_one h']) (by unfold maxLen; omega) rfl hm2 _ _ (.int .i32 45) rfl rfl hk45 ?_)
    intro w3 hm3 hg3
    have hb3 : Below w1.heap.size w1 w3 := hb2.grown hg3 hb2.size (fun j hj => by obtain rfl := Option.some.inj hj; omega)
    have HST : Hid (FpSt a s R w1.heap.size w1 (.int .u32 0) (.int .u32 0) (.int .i64 0) w3) := ⟨0, 0, 0, s.size + 1, rfl, rfl, rfl, by omega, by omega, by omega, by omega, by show _ = _; rw [HR.out, List.drop_zero], hm3, hb3⟩
    clear hm0 hm2 hg2 hb2 hm3 hg3 hb3 hk43 hk45 HR
    have hmb : w1.heap.size < w3.heap.size := by
      obtain ⟨_, _, _, _, _, _, _, _, _, _, _, _, h, _⟩ := HST.out
      exact h.out.lt
    generalize hmbb : w1.heap.size = mb at *
    go_wp2_with fail
    go_loopw [4, 5, 6] (fun x4 x5 x6 wr => FpSt a s R mb w1 x4 x5 x6 wr) (fun _ _ x6 _ => s.size - (intOf x6).toNat)
    case atStart => exact HST.out
    case round =>
      clear HST
      obtain ⟨p, m, k, f, rfl, rfl, rfl, hk, hp, hm, hf, hRR, hmap, hb⟩ := hrel
      have hbw := HBW.out.trans (hb.out.mono HBW.out.size)
      obtain ⟨f, rfl⟩ : ∃ j, f = j + 1 := ⟨f - 1, by omega⟩
      by_cases hlt : k < s.size
      · have j1 : (k : Int) < (s.size : Int) := by omega
        have j2 : 0 ≤ (k : Int) := by omega
        have j3 : (k : Int) + 1 ≤ (s.size : Int) := by omega
        have hbt := bt_get s k hlt
        have hc256 := bt_lt s k
        have hl : k < s.data.toList.length := by simpa using hlt
        have ed : s.data.toList.drop k = s[k]'hlt :: s.data.toList.drop (k + 1) := by
          rw [List.drop_eq_getElem_cons hl]
          congr 1
        obtain ⟨E, hE1, hE2, hE3, hE4, hE5⟩ := name_rest s (k + 1) (by omega)
        have hkey : keyOf Tryd.prog 21 (.int .i32 ((bt s k : Nat) : Int)) = some (.int .i32 ((bt s k : Nat) : Int)) := key_rune (by omega)
        have hr2 := HR1.out.below (hb.out.mono (by rw [hmbb]; exact Nat.le_refl _)) hl1
        obtain ⟨q0, _⟩ := hr2.cel (i := 0) rfl
        have hzb : (zeroValue 4).run Tryd.prog wr = .ok (.bool false) wr := by kernel_rfl
        have hmap2 := hmap.out
        rw [← hbt] at hkey
        have ht1 := Lib.hid (fun wx => trimLeft_any (s.extract (k + 1) s.size) wx)
        have HNM := Lib.hid hE4
        have HRS := Lib.hid hE5
        have HED := Lib.hid ed
        have HBT := Lib.hid hbt
        have hsb : (s[k]'hlt).toNat < 256 := by omega
        clear ed hbt hE4 hE5 hl
        obtain ⟨sh, si, hv1, hv2, hv3, hv4⟩ := signF_is (s[k]'hlt)
        have HV3 := Lib.hid hv3
        have HV4 := Lib.hid hv4
        clear hv3 hv4
        obtain ⟨rs, hrs⟩ : ∃ rs : ByteArray, rs = ⟨((s.extract (k + 1) s.size).data.toList.dropWhile lower).toArray⟩ := ⟨_, rfl⟩
        have hrz : rs.size = s.size - E := by
          have : rs.size = ((s.extract (k + 1) s.size).data.toList.dropWhile lower).length := by rw [hrs]; exact List.size_toArray
          omega
        have HRZ := Lib.hid hrz
        rw [← hrs] at ht1
        have je : IntKind.i64.wrap ((s.size : Int) - (rs.size : Int)) = (s.size : Int) - (rs.size : Int) := by rw [IntWalk.i64_in _ (by omega)]
        have je1 : IntKind.i64.wrap ((k : Int) + 1) = (k : Int) + 1 := by rw [IntWalk.i64_in _ (by omega)]
        have je2 : ((s.size : Int) - (rs.size : Int)).toNat = E := by omega
        have je3 : (k : Int) + 1 ≤ (s.size : Int) - (rs.size : Int) := by omega
        have je4 : (s.size : Int) - (rs.size : Int) ≤ (s.size : Int) := by omega
        have je5 : (0 : Int) ≤ (s.size : Int) - (rs.size : Int) := by omega
        have je6 : (rs.size : Int) ≤ (s.size : Int) := by omega
        have je7 : (0 : Int) ≤ (k : Int) + 1 := by omega
        have je8 : ((k : Int) + 1).toNat = k + 1 := by omega
        clear hrs hrz hE3
        go_wp2_with (at_lookup; refine wpList_lookup_mapV (by rfl) _ _ 115 rfl 21 4 keyed_rune Tryd.underlying115 (.bool false) (zero_bool _) mb signF rfl hmap2 _ _ rfl hkey ?_; rw [hv1, hv2])
        refine (ht1.out _).mono ?_
        rintro e w5 ⟨rfl, hb5⟩
        have hbw5 := hbw.trans (hb5.mono hbw.size)
        have hbI5 := hb.out.trans (hb5.mono hb.out.size)
        have hr5 := hr2.below hb5 hr2.lt
        obtain ⟨q5, _⟩ := hr5.cel (i := 0) rfl
        have hl5 := hr5.lt
        have hbd := below_drewN hbw5 1
        have hix := Lib.hid (index_str (c := c1) (HIN.out w5.drew hbd).f (by omega) (s.extract (k + 1) E))
        have hFL : featL a (f + 1) (s[k]'hlt :: s.data.toList.drop (k + 1)) p m = match a.feats.findIdx? (fun x => x.data.toList == (s.data.toList.drop (k + 1)).takeWhile lower) with
          | none => none
          | some i => if s[k]'hlt ≠ 43 ∧ s[k]'hlt ≠ 45 then none else if (p ||| m) / 2 ^ i % 2 = 1 then none else
            if s[k]'hlt = 43 then featL a f ((s.data.toList.drop (k + 1)).dropWhile lower) (p ||| 2 ^ i) m else featL a f ((s.data.toList.drop (k + 1)).dropWhile lower) p (m ||| 2 ^ i) := rfl
        rw [HNM.out] at hix
        have HFL : Hid (R = match a.feats.findIdx? (fun x => x.data.toList == (s.data.toList.drop (k + 1)).takeWhile lower) with
          | none => none
          | some i => if s[k]'hlt ≠ 43 ∧ s[k]'hlt ≠ 45 then none else if (p ||| m) / 2 ^ i % 2 = 1 then none else
            if s[k]'hlt = 43 then featL a f (s.data.toList.drop E) (p ||| 2 ^ i) m else featL a f (s.data.toList.drop E) p (m ||| 2 ^ i)) := by
          show _ = _
          rw [hRR.out, HED.out, hFL, HRS.out]
        clear hFL hRR HED HRS HNM ht1
        have hil : ∀ i, a.feats.findIdx? (fun x => x.data.toList == (s.data.toList.drop (k + 1)).takeWhile lower) = some i → i < 24 := fun i hi => by
          obtain ⟨h, _⟩ := List.findIdx?_eq_some_iff_getElem.1 hi
          omega
        generalize a.feats.findIdx? (fun x => x.data.toList == (s.data.toList.drop (k + 1)).takeWhile lower) = fi at *
        have HMP5 : Hid (MapV Tryd.prog 21 w5 mb signF) := hmap2.below hb5 hmap2.lt
        have HB5 : Hid (Below w1.heap.size w1 w5) := hbI5
        have HD5 : Hid (Below w.heap.size w w5) := hbw5
        obtain ⟨ix, hixx⟩ : ∃ ix : Int, ix = idxI fi := ⟨_, rfl⟩
        rw [← hixx] at hix
        have HIX := Lib.hid hixx
        clear hixx hb5 hbw5 hbI5 hr5 hr2 hbd hmap2 q0 hmap hb
        have q6 : w5.drew.cell? ⟨w.heap.size, 0, none⟩ = some (.slice A1 a.feats.length c1) := q5
        go_upto_region 10 with (fail)
        go_region_held3 (fun w' => w'.cell? ⟨w.heap.size, 0, none⟩ = some (.slice A1 a.feats.length c1)) (go_keep)
          ((go_at_call 134; refine hix.out.mono ?_; rintro e w7 ⟨rfl, rfl⟩; have k0 := q6))
        have HBX : Hid (Below w1.heap.size w1 w5.drew) := below_drewN HB5.out 1
        have HDX : Hid (Below w.heap.size w w5.drew) := below_drewN HD5.out 1
        have HMX : Hid (MapV Tryd.prog 21 w5.drew mb signF) := HMP5.out.same rfl
        have HBAD : Hid (R = none → FpOut R w (.returned (.tuple #[.int .u32 0, .int .u32 0, .int .i64 (k : Int), .int .i64 20])) w5.drew) := fun h => by
          rw [h]
          exact ⟨⟨(k : Int), 20, by omega, rfl⟩, HDX.out⟩
        clear q5 q6 k0 hix HB5 HD5 HMP5 hl5
        cases si with
        | false =>
          have hR0 : R = none := by
            rw [HFL.out]
            have := HV3.out
            simp only [Bool.false_eq_true, false_iff, Classical.not_not] at this
            cases fi with
            | none => rfl
            | some i => simp only; rw [if_pos this]
          have HFIN := Lib.hid (HBAD.out hR0)
          clear hR0 HBAD HFL
          go_wp2_with fail
          (try simp only [Exit.inBlock, Exit.then])
          refine bodyPost_ret (results_four rfl _ _ _) rfl ?_
          exact HFIN.out
        | true =>
          have hcne : ¬ (s[k]'hlt ≠ 43 ∧ s[k]'hlt ≠ 45) := HV3.out.1 rfl
          have hcsh := HV4.out rfl
          cases fi with
          | none =>
            have HFIN := Lib.hid (HBAD.out (by rw [HFL.out]))
            obtain rfl : ix = -1 := HIX.out
            clear HBAD HFL HIX HV3 HV4
            go_wp2_with fail
            (try simp only [Exit.inBlock, Exit.then])
            refine bodyPost_ret (results_four rfl _ _ _) rfl ?_
            exact HFIN.out
          | some i =>
            obtain rfl : ix = (i : Int) := HIX.out
            have hi24 := hil i rfl
            have hpm : p ||| m < 16777216 := Nat.or_lt_two_pow (n := 24) hp hm
            have HFL2 : Hid (R = if (p ||| m) / 2 ^ i % 2 = 1 then none else if s[k]'hlt = 43 then featL a f (s.data.toList.drop E) (p ||| 2 ^ i) m else featL a f (s.data.toList.drop E) p (m ||| 2 ^ i)) := by
              show _ = _
              rw [HFL.out]
              simp only
              rw [if_neg hcne]
            obtain ⟨bp, p1, p2⟩ := bit_one (x := p ||| m) (i := i) (by omega)
            have po : bits .or .u32 (p : Int) (m : Int) = ((p ||| m : Nat) : Int) := bits_or (by omega) (by omega)
            have n1 : ¬ (i : Int) < 0 := by omega
            have HCS := Lib.hid hcsh
            clear hcne hcsh HIX HV3 HV4 HFL hil
            by_cases hbit : (p ||| m) / 2 ^ i % 2 = 1
            · rw [decide_eq_true hbit] at p2
              have HFIN := Lib.hid (HBAD.out (by rw [HFL2.out, if_pos hbit]))
              clear HBAD HFL2 hbit
              go_wp2_with fail
              (try simp only [Exit.inBlock, Exit.then])
              refine bodyPost_ret (results_four rfl _ _ _) rfl ?_
              exact HFIN.out
            · rw [decide_eq_false hbit] at p2
              have HFL3 : Hid (R = if s[k]'hlt = 43 then featL a f (s.data.toList.drop E) (p ||| 2 ^ i) m else featL a f (s.data.toList.drop E) p (m ||| 2 ^ i)) := by
                show _ = _
                rw [HFL2.out, if_neg hbit]
              have hpow : 2 ^ i < 16777216 := Nat.lt_of_lt_of_le (Nat.pow_lt_pow_right (by omega) hi24) (by decide)
              have ps : bits .or .u32 (p : Int) ((2 ^ i : Nat) : Int) = ((p ||| 2 ^ i : Nat) : Int) := bits_or (by omega) (by omega)
              have ms : bits .or .u32 (m : Int) ((2 ^ i : Nat) : Int) = ((m ||| 2 ^ i : Nat) : Int) := bits_or (by omega) (by omega)
              clear HBAD HFL2 hbit
              have e2 : (2 : Int) ^ i % 4294967296 = ((2 ^ i : Nat) : Int) := by
                rw [show (2 : Int) ^ i = ((2 ^ i : Nat) : Int) by simp]
                exact Int.emod_eq_of_lt (Int.natCast_nonneg _) (show ((2 ^ i : Nat) : Int) < ((4294967296 : Nat) : Int) from Int.ofNat_lt.2 (Nat.lt_trans hpow (by decide)))
              have eE : (s.size : Int) - (rs.size : Int) = (E : Int) := by have := HRZ.out; omega
              have hp2 : p ||| 2 ^ i < 16777216 := Nat.or_lt_two_pow (n := 24) hp hpow
              have hm2 : m ||| 2 ^ i < 16777216 := Nat.or_lt_two_pow (n := 24) hm hpow
              have hms : s.size - (intOf (Value.int IntKind.i64 ((s.size : Int) - (rs.size : Int)))).toNat < s.size - (intOf (Value.int IntKind.i64 (k : Int))).toNat := by simp only [intOf]; omega
              cases sh with
              | true =>
                have HFIN : Hid (FpSt a s R mb w1 (.int .u32 (bits .or .u32 (p : Int) ((2 : Int) ^ i % 4294967296))) (.int .u32 (m : Int)) (.int .i64 ((s.size : Int) - (rs.size : Int))) w5.drew) := by
                  show FpSt _ _ _ _ _ _ _ _ _
                  rw [e2, ps, eE]
                  exact ⟨p ||| 2 ^ i, m, E, f, rfl, rfl, rfl, hE2, hp2, hm, by omega, by show _ = _; rw [HFL3.out, if_pos (HCS.out.1 rfl)], HMX.out, HBX.out⟩
                have HMS := Lib.hid hms
                clear HFL3 e2 eE ps ms hms
                go_wp2_with fail
                exact ⟨HFIN.out, HMS.out⟩
              | false =>
                have HFIN : Hid (FpSt a s R mb w1 (.int .u32 (p : Int)) (.int .u32 (bits .or .u32 (m : Int) ((2 : Int) ^ i % 4294967296))) (.int .i64 ((s.size : Int) - (rs.size : Int))) w5.drew) := by
                  show FpSt _ _ _ _ _ _ _ _ _
                  rw [e2, ms, eE]
                  exact ⟨p, m ||| 2 ^ i, E, f, rfl, rfl, rfl, hE2, hp, hm2, by omega, by show _ = _; rw [HFL3.out, if_neg (fun h => by have := HCS.out.2 h; cases this)], HMX.out, HBX.out⟩
                have HMS := Lib.hid hms
                clear HFL3 e2 eE ps ms hms
                go_wp2_with fail
                exact ⟨HFIN.out, HMS.out⟩
      · have j1 : ¬ (k : Int) < (s.size : Int) := by omega
        have HFIN : Hid (FpOut R w (.returned (.tuple #[.int .u32 (p : Int), .int .u32 (m : Int), .int .i64 0, .int .i64 0])) wr) := by
          show FpOut _ _ _ _
          rw [hRR.out, List.drop_eq_nil_of_le (by simp; omega)]
          exact ⟨⟨0, rfl⟩, hbw⟩
        clear hRR hmap hb hbw
        go_wp2_with fail
        (try simp only [Exit.inBlock, Exit.then])
        refine bodyPost_ret (results_four rfl _ _ _) rfl ?_
        exact HFIN.out
  · have HR : Hid (R = none) := by show _ = _; rw [hR, if_pos hE]
    generalize alE a = E at *
    have hne : (E != 0) = true := by rw [bne_iff_ne]; exact hE
    have hE2 := Lib.hid hE
    clear hE hR hz0 hin
    go_enter Tryd.func121, Tryd.ntmps121
    go_wp2_with fail
    refine hcall.out.mono ?_
    rintro e w1 ⟨rfl, hb1⟩
    have HFIN : Hid (FpOut R w (.returned (.tuple #[.int .u32 0, .int .u32 0, .int .i64 0, .int .i64 E])) w1) := by
      show FpOut _ _ _ _
      rw [HR.out]
      exact ⟨⟨0, E, hE2.out, rfl⟩, hal.trans (hb1.mono (by simp))⟩
    clear hal hb1 hcall hr0
    go_wp2_with fail
    (try simp only [Exit.inBlock, Exit.then])
    refine bodyPost_ret (results_four rfl _ _ _) rfl ?_
    exact HFIN.out
end Go.Proofs.YtimhlnndobfehaaDoor
namespace Go.Proofs.YtimhlnndobfehaaDoor
open Go.RowKit
open Go.Lib (Utf8Tabs)
set_option linter.unusedVariables false

theorem featL_lt {a : Al} (hn : a.feats.length ≤ 24) : ∀ (f : Nat) (l : List UInt8) (p m : Nat) (x : Nat × Nat), p < 16777216 → m < 16777216 → featL a f l p m = some x → x.1 < 16777216 ∧ x.2 < 16777216
  | 0, _, _, _, _, _, _, h => by cases h
  | f + 1, [], p, m, x, hp, hm, h => by
    unfold featL at h
    obtain rfl := Option.some.inj h
    exact ⟨hp, hm⟩
  | f + 1, c :: t, p, m, x, hp, hm, h => by
    unfold featL at h
    split at h
    · cases h
    · rename_i i hi
      obtain ⟨hil, _⟩ := List.findIdx?_eq_some_iff_getElem.1 hi
      have hpow : 2 ^ i < 16777216 := Nat.lt_of_lt_of_le (Nat.pow_lt_pow_right (by omega) (show i < 24 by omega)) (by decide)
      split at h
      · cases h
      split at h
      · cases h
      split at h
      · exact featL_lt hn f _ _ _ x (Nat.or_lt_two_pow (n := 24) hp hpow) hm h
      · exact featL_lt hn f _ _ _ x hp (Nat.or_lt_two_pow (n := 24) hm hpow) h
theorem featS_lt {a : Al} {s : ByteArray} {x : Nat × Nat} (h : featS a s = some x) : alE a = 0 ∧ x.1 < 16777216 ∧ x.2 < 16777216 := by
  unfold featS at h
  split at h
  · cases h
  · rename_i hE
    have hE0 : alE a = 0 := by simpa using hE
    split at h
    · cases h
    · exact ⟨hE0, featL_lt (alE_parts hE0).1 _ _ _ _ x (by omega) (by omega) h⟩
section
variable {W0 : World} {A1 A2 : Option Addr} {c1 c2 : Nat} {a : Al} {s : ByteArray}
set_option maxHeartbeats 16000000 in
set_option maxRecDepth 100000 in
theorem class_ok (hin : AlIn W0 0 W0.heap.size A1 A2 a) (hs : s.size ≤ 65536) : ClsOk W0 A1 A2 c1 c2 a s := by
  intro k v es w hR hk1 hk hn
  obtain ⟨q2, _⟩ := hR.row.cel (i := 2) rfl
  obtain ⟨q3, _⟩ := hR.row.cel (i := 3) rfl
  have l0 := hR.lt
  have hRd := hR.on (below_drewN (Below.refl _ _) 1)
  have hcut := cut1_any s 93 k w.drew hs hk
  have HRD := Lib.hid hRd
  have HSD := Lib.hid ((Stp.refl W0.heap.size v es w).own (S := fun _ => False) ((Fr.refl _ w).drewN 1) (fun _ h => h.elim))
  have hX : clsP a s k = match findB s 93 (s.size + 1) k with
    | none => .bad (k - 1)
    | some e => match classP a (s.extract k e) with
      | none => .bad k
      | some x => .ok (leafF 3 0 (x.1 : Int) (x.2 : Int)) (e + 1) := rfl
  have j1 : (k : Int) ≤ (s.size : Int) := by omega
  have j2 : (0 : Int) ≤ (k : Int) := by omega
  generalize clsP a s k = R at *
  unfold CutR at hcut
  rw [show UInt8.toNat 93 = 93 from rfl] at hcut
  cases hf : findB s 93 (s.size + 1) k with
  | none =>
    rw [hf] at hcut hX
    simp only at hcut hX
    have HCUT := Lib.hid hcut
    have HX := Lib.hid hX
    have HB := Lib.hid hRd.below
    have hj : (k : Int) - 1 = ((k - 1 : Nat) : Int) := by omega
    have HJ := Lib.hid hj
    clear hcut hX hf hRd hR hj
    go_enter Tryd.func101, Tryd.ntmps101
    go_upto_region 1 with (fail)
    go_region_held3 (fun w' => w'.cell? ⟨W0.heap.size, 2, none⟩ = some (.string s) ∧ w'.cell? ⟨W0.heap.size, 3, none⟩ = some (.int .i64 (k : Int))) (go_keep)
      ((go_at_call 120; refine HCUT.out.mono ?_; rintro e w5 ⟨rfl, hb5⟩; have k0 := ((bcell hb5).1 _ 2 l0).trans q2; have k1 := ((bcell hb5).1 _ 3 l0).trans q3))
    have l5 : W0.heap.size < w5.heap.size := Nat.lt_of_lt_of_le l0 hb5.size
    have HFIN : Hid (ParsOut W0 A1 A2 c1 c2 a s v es w R (.panicked [{ v := .iface 117 (.int .i64 ((k : Int) - 1)), recovered := false }]) w5) := by
      show ParsOut _ _ _ _ _ _ _ _ _ _ _ _ _
      rw [HX.out, HJ.out]
      exact ⟨rfl, HB.out.trans (hb5.mono HB.out.size)⟩
    clear hb5 HCUT
    go_wp2_with fail
    exact ⟨rfl, HFIN.out⟩
  | some E =>
    have hfe := findB_at hf
    rw [hf] at hcut hX
    simp only at hcut hX
    have HCUT := Lib.hid hcut
    have hcs : (s.extract k E).size ≤ 65536 := by rw [ByteArray.size_extract]; omega
    have hrs : (s.extract (E + 1) s.size).size = s.size - (E + 1) := by rw [ByteArray.size_extract]; omega
    have HPS := Lib.hid (fun (wx : World) (hb : Below W0.heap.size W0 wx) => fparse_any A1 A2 c1 c2 a (s.extract k E) wx (hin.on hb) hcs)
    have HTX := Lib.hid (fun (wx : World) (hb : Below W0.heap.size W0 wx) (p m : Nat) (hp : p < 4294967296) (hm : m < 4294967296) => ftext_any A1 A2 c1 c2 0 a p m wx (hin.on hb) hp hm)
    have HFS := Lib.hid (fun x => featS_lt (a := a) (s := s.extract k E) (x := x))
    have hCP : classP a (s.extract k E) = match featS a (s.extract k E) with
      | none => none
      | some x => if (classT a x.1 x.2).2 = 0 ∧ (classT a x.1 x.2).1.data.toList = (s.extract k E).data.toList then some x else none := rfl
    generalize classP a (s.extract k E) = CP at *
    have HX := Lib.hid hX
    have HCP := Lib.hid hCP
    have HRS := Lib.hid hrs
    have hrz : (s.extract (E + 1) s.size).size ≤ 65536 := by omega
    generalize hcc : s.extract k E = cls at *
    generalize hrr : s.extract (E + 1) s.size = rs at *
    clear hcut hX hf hRd hR hCP hcc hrr hrs
    go_enter Tryd.func101, Tryd.ntmps101
    go_upto_region 1 with (fail)
    go_region_held3 (fun w' => w'.cell? ⟨W0.heap.size, 2, none⟩ = some (.string s) ∧ w'.cell? ⟨W0.heap.size, 3, none⟩ = some (.int .i64 (k : Int))) (go_keep)
      ((go_at_call 120; refine HCUT.out.mono ?_; rintro e w5 ⟨rfl, hb5⟩; have k0 := ((bcell hb5).1 _ 2 l0).trans q2; have k1 := ((bcell hb5).1 _ 3 l0).trans q3))
    have hR5 := HRD.out.on hb5
    have HS5 := Lib.hid (HSD.out.own (S := fun _ => False) (Fr.of_below hb5) (fun _ h => h.elim))
    have HR5 := Lib.hid hR5
    obtain ⟨u0, _⟩ := hR5.row.cel (i := 0) rfl
    obtain ⟨u1, _⟩ := hR5.row.cel (i := 1) rfl
    have l5 := hR5.lt
    have hps := Lib.hid (HPS.out w5 hR5.below)
    clear hb5 hR5 HRD HSD HCUT HPS k0 k1 q2 q3 l0
    cases hfs : featS a cls with
    | none =>
      have HXB : Hid (R = .bad k) := by show _ = _; rw [HX.out, HCP.out, hfs]
      rw [hfs] at hps
      clear HX HCP HFS hfs
      go_wp2_with fail
      refine hps.out.mono ?_
      rintro e w6 ⟨⟨ii, EE, hEE, rfl⟩, hb6⟩
      have hR6 := HR5.out.on hb6
      have HR6 := Lib.hid hR6
      obtain ⟨u2, _⟩ := hR6.row.cel (i := 0) rfl
      obtain ⟨u3, _⟩ := hR6.row.cel (i := 1) rfl
      have l6 := hR6.lt
      have htx := Lib.hid (HTX.out w6 hR6.below 0 0 (by omega) (by omega))
      have hne : (EE != 0) = true := by rw [bne_iff_ne]; exact hEE
      generalize classT a 0 0 = TT at *
      obtain ⟨T1, T2⟩ := TT
      clear hb6 hR6 HR5 HTX hps u0 u1 l5 hEE
      simp only
      go_wp2_with fail
      refine htx.out.mono ?_
      rintro e w7 ⟨rfl, hb7⟩
      have hR7 := HR6.out.on hb7
      obtain ⟨q3, _⟩ := hR7.row.cel (i := 3) rfl
      have l7 := hR7.lt
      have HB7 := Lib.hid hR7.below
      clear hb7 hR7 HR6 htx u2 u3 l6
      simp only
      go_wp2_with fail
      exact ⟨rfl, by rw [HXB.out]; exact ⟨rfl, HB7.out⟩⟩
    | some x =>
      obtain ⟨hE0, hx1, hx2⟩ := HFS.out x hfs
      have HCX : Hid (CP = if (classT a x.1 x.2).2 = 0 ∧ (classT a x.1 x.2).1.data.toList = cls.data.toList then some x else none) := by show _ = _; rw [HCP.out, hfs]
      rw [hfs] at hps
      obtain ⟨p, m⟩ := x
      simp only at hx1 hx2 HCX
      clear HCP HFS hfs hE0
      go_wp2_with fail
      refine hps.out.mono ?_
      rintro e w6 ⟨⟨ii, rfl⟩, hb6⟩
      have hR6 := HR5.out.on hb6
      have HR6 := Lib.hid hR6
      have HS6 := Lib.hid (HS5.out.own (S := fun _ => False) (Fr.of_below hb6) (fun _ h => h.elim))
      obtain ⟨u2, _⟩ := hR6.row.cel (i := 0) rfl
      obtain ⟨u3, _⟩ := hR6.row.cel (i := 1) rfl
      have l6 := hR6.lt
      have htx := Lib.hid (HTX.out w6 hR6.below p m (by omega) (by omega))
      generalize classT a p m = TT at *
      obtain ⟨T1, T2⟩ := TT
      clear hb6 hR6 HR5 HS5 HTX hps u0 u1 l5
      simp only at HCX ⊢
      go_wp2_with fail
      refine htx.out.mono ?_
      rintro e w7 ⟨rfl, hb7⟩
      have hR7 := HR6.out.on hb7
      have HR7 := Lib.hid hR7
      have HS7 := Lib.hid (HS6.out.own (S := fun _ => False) (Fr.of_below hb7) (fun _ h => h.elim))
      obtain ⟨q3, _⟩ := hR7.row.cel (i := 3) rfl
      obtain ⟨q2, _⟩ := hR7.row.cel (i := 2) rfl
      have l7 := hR7.lt
      clear hb7 hR7 HR6 HS6 htx u2 u3 l6
      simp only
      by_cases hT : T2 = 0
      · subst hT
        by_cases hTc : T1.data.toList = cls.data.toList
        · have hTT : T1 = cls := ByteArray.ext (Array.toList_inj.1 hTc)
          have HRR : Hid (R = .ok (leafF 3 0 (p : Int) (m : Int)) (E + 1)) := by show _ = _; rw [HX.out, HCX.out, if_pos ⟨rfl, hTc⟩]
          clear HX HCX hTc
          subst hTT
          have hR9 := HR7.out.to (E + 1)
          have hf9 : Fr (fun g => g = W0.heap.size) w7 (w7.setCell ⟨W0.heap.size, 3, none⟩ (.int .i64 ((E + 1 : Nat) : Int))) := (Fr.refl (fun g => g = W0.heap.size) w7).setc ⟨W0.heap.size, 3, none⟩ _ fun _ => rfl
          have ha := add_leaf hR9 (HS7.out.same hf9) (by omega) (q := 3) (r := 0) (p := (p : Int)) (m := (m : Int)) (by omega) (by omega) (by omega) (by omega)
          have eE : ((E + 1 : Nat) : Int) = (s.size : Int) - (rs.size : Int) := by have := HRS.out; omega
          rw [← HRR.out, eE] at ha
          have HA := Lib.hid ha
          have g3 := (HR7.out.row.cel (i := 3) rfl).2
          clear ha hR9 hf9 eE
          go_wp2_with fail
          refine HA.out.mono ?_
          intro e x2 hpo
          have hpo2 := hpo
          rw [HRR.out] at hpo2
          obtain ⟨rfl, _⟩ := hpo2
          have HFIN := Lib.hid hpo
          clear hpo HA
          go_wp2_with fail
          go_ret
          exact HFIN.out
        · have HRR : Hid (R = .bad k) := by show _ = _; rw [HX.out, HCX.out, if_neg (fun h => hTc h.2)]
          have hn1 : (T1.toList == cls.toList) = false := by
            rw [beq_eq_false_iff_ne, ByteArray.toList_eq, ByteArray.toList_eq]
            exact hTc
          have hn2 : (T1.toList != cls.toList) = true := by rw [bne, hn1]; rfl
          have hn3 : ¬ T1.toList = cls.toList := by rw [beq_eq_false_iff_ne] at hn1; exact hn1
          have HB7 := Lib.hid HR7.out.below
          clear HX HCX hTc
          go_wp2_with fail
          exact ⟨rfl, by rw [HRR.out]; exact ⟨rfl, HB7.out⟩⟩
      · have HRR : Hid (R = .bad k) := by show _ = _; rw [HX.out, HCX.out, if_neg (fun h => hT h.1)]
        have hne : (T2 != 0) = true := by rw [bne_iff_ne]; exact hT
        have HB7 := Lib.hid HR7.out.below
        clear HX HCX hT
        go_wp2_with fail
        exact ⟨rfl, by rw [HRR.out]; exact ⟨rfl, HB7.out⟩⟩
end
end Go.Proofs.YtimhlnndobfehaaDoor
