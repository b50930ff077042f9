/- Does a node take a letter; is a number a place. append of a slice without elements gives the slice back. append of integers that are read to integers that the call owns. A node's ends from each of some places. -/
import Derived.Test.YtimhlnndobfehaaGreatDoorMd05
import Derived.Test.YtimhlnndobfehaaGreatDoorMd01
import Derived.Test.YtimhlnndobfehaaGreatDoorMd04
import Derived.Deep.AppendLies
namespace Go.Proofs.YtimhlnndobfehaaGreatDoor
open Go.RowKit
set_option linter.unusedVariables false

theorem mint_info : (Tryz.prog.info? 3).map (fun i => (i.zero, i.size, i.bytes)) = some (some (.int .i64 0), 1, 8) := by kernel_rfl
set_option maxHeartbeats 4000000 in
theorem takes_any (x : Nd) (l : Lt) (u : Value) (w : World) (h0 : kin .u8 x.kind) (h1 : kin .i32 x.rune) (h2 : kin .u32 x.plus) (h3 : kin .u32 x.minus) (hl : LtOk l) :
    Calls Tryz.prog 123 #[.agg #[.int .u8 x.kind, .int .i32 x.rune, .int .u32 x.plus, .int .u32 x.minus, u], .agg #[.int .i32 l.rune, .int .u32 (l.plus : Int), .int .u32 (l.minus : Int)]] w fun e w' => e = .returned (.bool (takesB x l)) ∧ Below w.heap.size w w' := by
  obtain ⟨l0, l1, l2⟩ := hl
  have k2 := kin_u32 h2
  have k3 := kin_u32 h3
  obtain ⟨kd, rn, pl, mi, ks⟩ := x
  simp only at *
  obtain ⟨p, rfl⟩ := Int.eq_ofNat_of_zero_le k2.1
  obtain ⟨m, rfl⟩ := Int.eq_ofNat_of_zero_le k3.1
  have HT : Hid (takesB ⟨kd, rn, p, m, ks⟩ l = if kd = 2 then decide (rn = l.rune) else if kd = 3 then likeL l p m else decide (kd = 4)) := rfl
  obtain ⟨q, b1, b2, b3⟩ := bits_andNot (x := p) (by omega) l1
  obtain ⟨r, d1, d2, d3⟩ := bits_andNot (x := m) (by omega) l2
  have HL : Hid (likeL l p m = (decide (l.plus &&& p = p) && decide (l.minus &&& m = m))) := rfl
  obtain ⟨xr, xp, xm⟩ := l
  simp only at *
  by_cases e2 : kd = 2
  · subst e2
    have HF : Hid (takesB ⟨2, rn, p, m, ks⟩ ⟨xr, xp, xm⟩ = (rn == xr)) := by show _ = _; rw [HT.out, if_pos rfl]; rfl
    clear HT HL
    go_enter Tryz.func123, Tryz.ntmps123
    go_wp2_with fail
    go_ret
    exact ⟨retb_of (by rw [HF.out]), by go_grown⟩
  by_cases e3 : kd = 3
  · subst e3
    have HF : Hid (takesB ⟨3, rn, p, m, ks⟩ ⟨xr, xp, xm⟩ = (decide (xp &&& p = p) && decide (xm &&& m = m))) := by show _ = _; rw [HT.out, if_neg (by decide), if_pos rfl]; exact HL.out
    clear HT HL
    cases hq : decide (xp &&& p = p) with
    | true =>
      rw [hq] at b2
      cases hr : decide (xm &&& m = m) with
      | true =>
        rw [hr] at d2
        have HG : Hid (takesB ⟨3, rn, p, m, ks⟩ ⟨xr, xp, xm⟩ = true) := by show _ = _; rw [HF.out, hq, hr]; rfl
        clear hq hr HF
        go_enter Tryz.func123, Tryz.ntmps123
        go_wp2_with fail
        go_ret
        exact ⟨retb_of (by rw [HG.out]), by go_grown⟩
      | false =>
        rw [hr] at d2
        have HG : Hid (takesB ⟨3, rn, p, m, ks⟩ ⟨xr, xp, xm⟩ = false) := by show _ = _; rw [HF.out, hq, hr]; rfl
        clear hq hr HF
        go_enter Tryz.func123, Tryz.ntmps123
        go_wp2_with fail
        go_ret
        exact ⟨retb_of (by rw [HG.out]), by go_grown⟩
    | false =>
      rw [hq] at b2
      have HG : Hid (takesB ⟨3, rn, p, m, ks⟩ ⟨xr, xp, xm⟩ = false) := by show _ = _; rw [HF.out, hq]; rfl
      clear hq HF
      go_enter Tryz.func123, Tryz.ntmps123
      go_wp2_with fail
      go_ret
      exact ⟨retb_of (by rw [HG.out]), by go_grown⟩
  have HF : Hid (takesB ⟨kd, rn, p, m, ks⟩ ⟨xr, xp, xm⟩ = (kd == 4)) := by show _ = _; rw [HT.out, if_neg e2, if_neg e3]; rfl
  have f2 := beq_eq_false_iff_ne.2 e2
  have f3 := beq_eq_false_iff_ne.2 e3
  clear HT HL e2 e3
  go_enter Tryz.func123, Tryz.ntmps123
  go_wp2_with fail
  go_ret
  exact ⟨retb_of (by rw [HF.out]), by go_grown⟩
def placeB (L : List Lt) (n : Int) : Bool := decide (0 ≤ n ∧ n ≤ L.length)
theorem place_any {ns : List Nd} {L : List Lt} {An Al : Option Addr} {cn cl sp b : Nat} {Z : Nat → Prop} {w : World} (h : Srch ns L An Al cn cl sp b Z w) (n : Int) :
    Calls Tryz.prog 60 #[.pointer (some ⟨sp, 0, none⟩), .int .i64 n] w fun e w' => e = .returned (.bool (placeB L n)) ∧ w' = w := by
  obtain ⟨c1, f1⟩ := h.row.cel (i := 1) rfl
  have hlt := h.row.lt
  by_cases h0 : 0 ≤ n
  · by_cases h1 : n ≤ L.length
    · have HF : Hid (placeB L n = true) := by show _ = _; unfold placeB; simp [h0, h1]
      clear h
      go_enter Tryz.func60, Tryz.ntmps60
      go_wp2_with fail
      go_ret
      exact ⟨retb_of (by rw [HF.out]), rfl⟩
    · have HF : Hid (placeB L n = false) := by show _ = _; unfold placeB; simp [h0, h1]
      clear h
      go_enter Tryz.func60, Tryz.ntmps60
      go_wp2_with fail
      go_ret
      exact ⟨retb_of (by rw [HF.out]), rfl⟩
  · have HF : Hid (placeB L n = false) := by show _ = _; unfold placeB; simp [h0]
    clear h
    go_enter Tryz.func60, Tryz.ntmps60
    go_wp2_with fail
    go_ret
    exact ⟨retb_of (by rw [HF.out]), rfl⟩
end Go.Proofs.YtimhlnndobfehaaGreatDoor
namespace Go.Proofs.YtimhlnndobfehaaGreatDoor
open Go.RowKit
set_option linter.unusedVariables false
section
variable {P : Program} {w : World}
theorem run_append_none {A B : Option Addr} {n c d : Nat} (t ty e : TypeId) (i : TypeInfo) (ht : P.underlying t = some (.slice e)) (hi0 : P.info? e = some i) (hnc : n ≤ c) :
    (Builtin.append_ #[t, t] ty #[.slice A n c, .slice B 0 d]).run P w = .ok (.slice A n c) w := by
  cases A <;> cases B <;> simp [Builtin.append_, run_underlying ht, sizeOf, typeInfo, hi0, Builtin.lenOf, Builtin.firstCells, hnc, loadCells, loadCellsFrom, storeCells, Sem.run_pure, Result.andThen]
theorem wpList_append_none {ops : Array Oper} {rest : List Oper} {o : Oper} {a : Act} {Q : Exit → Act → World → Prop} (hgd : o.guard = none) (s x : Operand) (t : TypeId)
    (ho : o.op = .call { callee := .builtin .append, args := #[s, x], argTypes := #[t, t] }) (e : TypeId) (i : TypeInfo) (ht : P.underlying t = some (.slice e)) (hi0 : P.info? e = some i)
    {A B : Option Addr} {n c d : Nat} (hs : a.eval s = .slice A n c) (hx : a.eval x = .slice B 0 d) (hnc : n ≤ c)
    (hk : ∀ v, v = Value.slice A n c → wpList P ops Q rest (a.put o.dst v) w) : wpList P ops Q (o :: rest) a w := by
  refine wpList_plain hgd fun K hK => ?_
  have hr := run_append_none (P := P) (w := w) (A := A) (B := B) (n := n) (c := c) (d := d) t o.type e i ht hi0 hnc
  unfold Oper.wp execOp
  simp only [ho, resolve, invoke, builtin, Sem.run_bind, Sem.run_pure, Result.andThen_ok, List.map_toArray, List.map_cons, List.map_nil, hs, hx, hr]
  exact hK _ _ (hk _ rfl)
end
end Go.Proofs.YtimhlnndobfehaaGreatDoor
namespace Go.Proofs.YtimhlnndobfehaaGreatDoor
open Go.RowKit
set_option linter.unusedVariables false
section
variable {P : Program} {w : World} {q : IntKind}
theorem ints_cells {lo hi : Nat} {B : Option Addr} {ys : List Int} (h : Sl 1 (vInt q) w lo hi B ys) (h0 : 0 < ys.length) : ∃ ad, B = some ad ∧ ∀ j u, (ys.map (Value.int q))[j]? = some u → w.cell? (ad.add j) = some u := by
  obtain ⟨b, off, rfl, h1, h2, hc⟩ := h h0
  refine ⟨_, rfl, fun j u hu => ?_⟩
  rw [List.getElem?_map] at hu
  cases hy : ys[j]? with
  | none => rw [hy] at hu; cases hu
  | some y =>
    rw [hy] at hu
    simp only [Option.map_some, Option.some.injEq] at hu
    subst hu
    obtain ⟨cs, _, h4, h5, _⟩ := hc j y hy
    subst h5
    have := (h4 0 _ rfl).1
    rw [Addr.add_lit]
    simpa using this
theorem wpList_append_ints {ops : Array Oper} {rest : List Oper} {o : Oper} {a : Act} {Q : Exit → Act → World → Prop} (hgd : o.guard = none) (s x : Operand) (t : TypeId)
    (ho : o.op = .call { callee := .builtin .append, args := #[s, x], argTypes := #[t, t] }) (e : TypeId) (i : TypeInfo) (bytes : Nat) (ht : P.underlying t = some (.slice e)) (hi0 : P.info? e = some i) (hz : i.zero = some (.int q 0))
    (hsize : i.size = 1) (hby : i.bytes = bytes) {base lo hi : Nat} {A B : Option Addr} {c d : Nat} {xs ys : List Int} (hs : a.eval s = .slice A xs.length c) (hx : a.eval x = .slice B ys.length d)
    (hown : w.ownsRow base e 1 (.slice A xs.length c) xs.length (xs.map (Value.int q))) (hsl : Sl 1 (vInt q) w lo hi B ys)
    (h63 : xs.length + ys.length ≤ maxLen) (hbytes : (xs.length + ys.length) * bytes ≤ 140737488355328) (hbase : base ≤ w.heap.size)
    (hk : ∀ A' c' w', w'.ownsRow base e 1 (.slice A' (xs ++ ys).length c') (xs ++ ys).length ((xs ++ ys).map (Value.int q)) → Fr (fun g => (Value.slice A xs.length c).ownBlock = some g) w w' → (∀ g, (Value.slice A' (xs ++ ys).length c').ownBlock = some g → (Value.slice A xs.length c).ownBlock = some g ∨ w.heap.size ≤ g) → wpList P ops Q rest (a.put o.dst (.slice A' (xs ++ ys).length c')) w') : wpList P ops Q (o :: rest) a w := by
  rcases Nat.eq_zero_or_pos ys.length with h0 | h0
  · have hy : ys = [] := List.eq_nil_of_length_eq_zero h0
    subst hy
    have hnc : xs.length ≤ c := by
      obtain ⟨A', c', e', h1, _⟩ := own_form hown
      injection e' with _ _ e3
      omega
    refine wpList_append_none hgd s x t ho e i ht hi0 hs (by simpa using hx) hnc fun v hv => ?_
    subst hv
    have := hk A c w (by simpa using hown) (Fr.refl _ _) (fun g hg => .inl (by rw [List.append_nil] at hg; exact hg))
    simpa using this
  · obtain ⟨ad, rfl, hnews⟩ := ints_cells hsl h0
    refine wpList_append_lies w hgd s x t ho base e i (.int q 0) 1 bytes ht hi0 hz hsize hby rfl (by decide) (.slice A xs.length c) xs.length (xs.map (Value.int q)) hs hown ad ys.length d (ys.map (Value.int q)) hx (by simp) hnews (fun u hu => by obtain ⟨y, _, rfl⟩ := List.mem_map.1 hu; rfl) h0 h63 hbytes hbase _ rfl ?_
    intro g cap w5 hown5 hgr5 hat5 _
    have e1 : xs.length + ys.length = (xs ++ ys).length := by simp
    have e2 : xs.map (Value.int q) ++ ys.map (Value.int q) = (xs ++ ys).map (Value.int q) := by simp
    rw [e1, e2] at hown5
    rw [e1]
    refine hk _ _ _ hown5 (Fr.of_grown hgr5 fun k h => h) fun k hk => ?_
    obtain rfl : g = k := Option.some.inj hk
    rcases hat5 with h | h
    · exact .inl h
    · exact .inr (by omega)
end
end Go.Proofs.YtimhlnndobfehaaGreatDoor
namespace Go.Proofs.YtimhlnndobfehaaGreatDoor
open Go.RowKit
set_option linter.unusedVariables false

/-- The contract of 'ends' at a node. -/
def EndsOk (ns : List Nd) (L : List Lt) (An Al : Option Addr) (cn cl sp b k : Nat) : Prop :=
  ∀ (i : Nat) (Z : Nat → Prop) (w : World), i ≤ L.length → (∀ g, Z g → g < w.heap.size) → Srch ns L An Al cn cl sp b Z w → Calls Tryz.prog 59 #[.pointer (some ⟨sp, 0, none⟩), .int .i64 (k : Int), .int .i64 (i : Int)] w (PlOut ns L An Al cn cl sp b Z w (endsI ns L k i))
theorem endsI_mem {ns : List Nd} {L : List Lt} {k i : Nat} (hi : i ≤ L.length) {x : Int} : x ∈ endsI ns L k i ↔ ∃ q : Nat, x = (q : Int) ∧ Lies ns L k i q := by
  unfold endsI
  rw [toI_mem]
  exact exists_congr fun q => and_congr_right fun _ => mem_ends hi
theorem endsI_len (ns : List Nd) (L : List Lt) (k i : Nat) : (endsI ns L k i).length ≤ L.length + 1 := by unfold endsI; rw [toI_len]; exact ends_len ns L k i
/-- What is owned of later than the search's map is read beside it. -/
theorem own_ints {w : World} {base : Nat} {A : Option Addr} {c : Nat} {l : List Int} (h : w.ownsRow base 3 1 (.slice A l.length c) l.length (l.map (Value.int .i64))) (hk : ∀ x ∈ l, kin .i64 x) {lo : Nat} (hlo : lo ≤ base) : Sl 1 (vInt .i64) w lo w.heap.size A l := fun hn => by
  obtain ⟨g, c', e, _, _, h1, h2⟩ := own_pos h hn
  injection e with e1 _ e2
  subst e1 e2
  refine ⟨g, 0, rfl, by omega, h2, fun i x hx => ⟨[.int .i64 x], rfl, fun j v hj => ?_, rfl, hk x (List.mem_of_getElem? hx)⟩⟩
  match j, hj with
  | 0, hj =>
    simp only [List.getElem?_cons_zero, Option.some.injEq] at hj
    subst hj
    have := own_cel h (j := i) (u := .int .i64 x) (by rw [List.getElem?_map, hx]; rfl)
    simpa using this
theorem places_kin {l : List Int} {S : Nat → Prop} {m : Nat} (hm : m ≤ 64) (h : ∀ x, x ∈ l ↔ ∃ j : Nat, x = (j : Int) ∧ S j) (hS : ∀ j, S j → j ≤ m) : ∀ x ∈ l, kin .i64 x := fun x hx => by
  obtain ⟨j, rfl, hj⟩ := (h x).1 hx
  have := hS j hj
  exact kin_mk64 (by omega)

section
variable {ns : List Nd} {L : List Lt} {An Al : Option Addr} {cn cl sp b : Nat} {Z : Nat → Prop} {w wr w' : World} {base : Nat} {v : Value} {e : TypeId} {sz n : Nat} {xs : List Value}
/-- The state of a list that is filled by a call: its own row, and a search beside it. -/
structure Fill (ns : List Nd) (L : List Lt) (An Al : Option Addr) (cn cl sp b : Nat) (Z : Nat → Prop) (W : World) (A : Option Addr) (c : Nat) (acc : List Int) (wr : World) : Prop where
  own : wr.ownsRow W.heap.size 3 1 (.slice A acc.length c) acc.length (acc.map (Value.int .i64))
  s : Srch ns L An Al cn cl sp b (Zv Z (.slice A acc.length c)) wr
  fr : Fr (fun k => k = b) W wr
  z : ∀ g, Z g → g < wr.heap.size
theorem Fill.nil (h : Srch ns L An Al cn cl sp b Z w) (hz : ∀ g, Z g → g < w.heap.size) : Fill ns L An Al cn cl sp b Z w none 0 [] w :=
  ⟨World.ownsRow_nil _ _ _ _, h.weak (fun g _ hg => hg.elim id fun h => by cases h) (fun g hg => hg.elim (h.zb g) fun h => by cases h), Fr.refl _ _, hz⟩
/-- Behind a call of the search's. -/
theorem Fill.call {A : Option Addr} {c : Nat} {acc : List Int} (h : Fill ns L An Al cn cl sp b Z w A c acc wr) (hs : Srch ns L An Al cn cl sp b (Zv Z (.slice A acc.length c)) w') (hf : Fr (fun k => k = b) wr w') : Fill ns L An Al cn cl sp b Z w A c acc w' :=
  ⟨own_fr h.own hf fun g hg e => by
      have h1 := h.s.zb g (.inr hg)
      have e : g = b := e
      omega, hs, h.fr.trans hf fun _ _ h => h, fun g hg => Nat.lt_of_lt_of_le (h.z g hg) hf.size⟩
theorem Fill.zlt {A : Option Addr} {c : Nat} {acc : List Int} (h : Fill ns L An Al cn cl sp b Z w A c acc wr) : ∀ g, Zv Z (.slice A acc.length c) g → g < wr.heap.size := fun g hg => by
  rcases hg with hg | hg
  · exact h.z g hg
  · exact (h.own.lt g hg).2
/-- Behind a growth of the list. -/
theorem Fill.grow {A A' : Option Addr} {c c' : Nat} {acc acc' : List Int} (h : Fill ns L An Al cn cl sp b Z w A c acc wr) (hb : b < w.heap.size)
    (ho : w'.ownsRow w.heap.size 3 1 (.slice A' acc'.length c') acc'.length (acc'.map (Value.int .i64))) (hf : Fr (fun g => (Value.slice A acc.length c).ownBlock = some g) wr w')
    (hn : ∀ g, (Value.slice A' acc'.length c').ownBlock = some g → (Value.slice A acc.length c).ownBlock = some g ∨ wr.heap.size ≤ g) : Fill ns L An Al cn cl sp b Z w A' c' acc' w' := by
  have hs2 : Srch ns L An Al cn cl sp b (fun g => Zv Z (.slice A acc.length c) g ∨ Zv Z (.slice A' acc'.length c') g) wr := h.s.weak (fun g hg hz => by
    rcases hz with hz | hz | hz
    · exact hz
    · exact .inl hz
    · rcases hn g hz with h1 | h1
      · exact .inr h1
      · omega) (fun g hz => by
    rcases hz with hz | hz | hz
    · exact h.s.zb g hz
    · exact h.s.zb g (.inl hz)
    · have := (ho.lt g hz).1; omega)
  have hs3 := hs2.touch hf fun g _ hg => .inl (.inr hg)
  exact ⟨ho, hs3.weak (fun g _ hz => .inr hz) (fun g hz => hs3.zb g (.inr hz)), h.fr.trans hf fun k hk hg => absurd (h.own.lt k hg).1 (by omega), fun g hg => Nat.lt_of_lt_of_le (h.z g hg) hf.size⟩
theorem own_ne_map {k et : TypeId} {bm q : Nat} {S : Lit → Bool} (h : w.ownsRow base e sz v n xs) (hm : MapB Tryz.prog k et w bm q S) : v.ownBlock ≠ some bm := fun hg => by
  obtain ⟨D, ⟨es, clock, h1, _⟩, _⟩ := hm
  rcases h.2 with ⟨rfl, _⟩ | ⟨g, cap, cur, rfl, _, hh, _⟩
  · cases hg
  · obtain rfl : g = bm := Option.some.inj hg
    rw [h1] at hh
    cases hh
/-- Behind a change of a block of Z that is not the list's. -/
theorem Fill.touch {A : Option Addr} {c : Nat} {acc : List Int} {g : Nat} (h : Fill ns L An Al cn cl sp b Z w A c acc wr) (hf : Fr (fun k => k = g) wr w') (hg : Z g) (hw : w.heap.size ≤ g) (hn : (Value.slice A acc.length c).ownBlock ≠ some g) : Fill ns L An Al cn cl sp b Z w A c acc w' :=
  ⟨own_fr h.own hf fun k hk e => hn (by have e : k = g := e; rw [← e]; exact hk), h.s.touch hf fun k _ e => .inl (by have e : k = g := e; rw [e]; exact hg),
    h.fr.trans hf fun k hk e => by have e : k = g := e; omega, fun k hk => Nat.lt_of_lt_of_le (h.z k hk) hf.size⟩
theorem Fill.weak {T : Nat → Prop} {A : Option Addr} {c : Nat} {acc : List Int} (h : Fill ns L An Al cn cl sp b Z w A c acc wr) (hT : ∀ g, T g → Z g) : Fill ns L An Al cn cl sp b T w A c acc wr :=
  ⟨h.own, h.s.weak (fun g _ hz => hz.elim (fun hz => .inl (hT g hz)) .inr) (fun g hz => h.s.zb g (hz.elim (fun hz => .inl (hT g hz)) .inr)), h.fr, fun g hg => h.z g (hT g hg)⟩
end
theorem own_blk (A : Option Addr) (n c m d : Nat) : (Value.slice A n c).ownBlock = (Value.slice A m d).ownBlock := by cases A <;> rfl
theorem nat_list {cl : List Int} {S : Nat → Prop} (h : ∀ x, x ∈ cl ↔ ∃ q : Nat, x = (q : Int) ∧ S q) : ∃ l : List Nat, toI l = cl ∧ ∀ j, j ∈ l ↔ S j := by
  have hl : toI (cl.map Int.toNat) = cl := by
    unfold toI
    rw [List.map_map]
    conv => rhs; rw [← List.map_id cl]
    refine List.map_congr_left fun x hx => ?_
    obtain ⟨q, rfl, _⟩ := (h x).1 hx
    rfl
  refine ⟨_, hl, fun j => ?_⟩
  have h1 := h (j : Int)
  rw [← hl, toI_mem] at h1
  constructor
  · intro hj
    obtain ⟨q, e, hq⟩ := h1.1 ⟨j, rfl, hj⟩
    obtain rfl : j = q := by omega
    exact hq
  · intro hj
    obtain ⟨q, e, hq⟩ := h1.2 ⟨j, rfl, hj⟩
    obtain rfl : j = q := by omega
    exact hq
theorem rising_len {l : List Nat} {m : Nat} (hp : (toI l).Pairwise (· < ·)) (h : ∀ x ∈ l, x ≤ m) : l.length ≤ m + 1 := by
  refine nodup_sub id l (m + 1) ?_ (fun x hx => Nat.lt_succ_of_le (h x hx))
  unfold toI at hp
  rw [List.pairwise_map] at hp
  exact hp.imp fun h => by simp only [id]; omega
def MEachSt (ns : List Nd) (L : List Lt) (An Al : Option Addr) (cn cl sp b k : Nat) (Z : Nat → Prop) (fl : List Nat) (W : World) (v i : Value) (wr : World) : Prop :=
  ∃ (j : Nat) (acc : List Int) (A : Option Addr) (c : Nat), v = .slice A acc.length c ∧ i = .int .i64 (j : Int) ∧ j ≤ fl.length ∧ acc.length ≤ j * 65 ∧ Hid (∀ x, x ∈ acc ↔ ∃ q : Nat, x = (q : Int) ∧ ∃ p ∈ fl.take j, Lies ns L k p q) ∧
    Fill ns L An Al cn cl sp b Z W A c acc wr
set_option maxHeartbeats 4000000 in
set_option maxRecDepth 100000 in
theorem each_any {ns : List Nd} {L : List Lt} {An Al : Option Addr} {cn cl sp b k : Nat} {Z : Nat → Prop} {w : World} (H : EndsOk ns L An Al cn cl sp b k) (h : Srch ns L An Al cn cl sp b Z w) (hZ : ∀ g, Z g → g < w.heap.size) {A : Option Addr} {c : Nat} {fl : List Nat} (hf : ∀ i ∈ fl, i ≤ L.length) (hfl : fl.length ≤ 65) (hsl : Sl 1 (vInt .i64) w (b + 1) w.heap.size A (toI fl)) :
    Calls Tryz.prog 121 #[.pointer (some ⟨sp, 0, none⟩), .int .i64 (k : Int), .slice A fl.length c] w fun e w' => ∃ (l : List Nat) (A' : Option Addr) (c' : Nat), e = .returned (.slice A' l.length c') ∧ l.length ≤ 65 ∧ (∀ j, j ∈ l ↔ ∃ p ∈ fl, Lies ns L k p j) ∧ Fill ns L An Al cn cl sp b Z w A' c' (toI l) w' := by
  obtain ⟨i1, hi1, hy0, hy1, hy2⟩ := info_parts mint_info
  have H' := Lib.hid H
  have n1 := h.n1
  have n2 := h.n2
  have hbw := h.lt
  have hst : MEachSt ns L An Al cn cl sp b k Z fl w (.slice none 0 0) (.int .i64 0) w := ⟨0, [], none, 0, rfl, rfl, by omega, by simp, (fun x => by simp), Fill.nil h hZ⟩
  have HST := Lib.hid hst
  clear hst H
  go_enter Tryz.func121, Tryz.ntmps121
  go_wp2_with fail
  go_loopw [7, 12] (fun v i wr => MEachSt ns L An Al cn cl sp b k Z fl w v i wr) (fun _ i _ => fl.length - (intOf i).toNat)
  case atStart => exact HST.out
  case round =>
    clear HST
    obtain ⟨j, acc, B, d, rfl, rfl, hj, hal, hm, hfill⟩ := hrel
    have hbs := hfill.fr.size
    by_cases hlt : j < fl.length
    · have hsl' := Sl.same (w := w) (w' := wr) (fun _ _ h => h) hsl (fun hn ad e => by
        obtain ⟨b', off, e', h1, h2, _⟩ := hsl hn
        rw [e] at e'
        injection e' with e'
        subst e'
        exact hfill.fr.block _ h2 (by have h3 : b + 1 ≤ b' := h1; show ¬ b' = b; omega))
      obtain ⟨gb, off, rfl, hb1, hb2, ⟨z0, z1⟩, _⟩ := ints_at hsl' (i := j) (by rw [toI_len]; exact hlt)
      have hgw : gb < wr.heap.size := by omega
      have hfi := hf fl[j] (List.getElem_mem hlt)
      have ei : (toI fl)[j]'(by rw [toI_len]; exact hlt) = ((fl[j] : Nat) : Int) := by unfold toI; simp
      rw [ei] at z0
      have hcall := Lib.hid (H'.out fl[j] _ wr hfi hfill.zlt hfill.s)
      have hnx : ∀ x, x ∈ acc ++ endsI ns L k fl[j] ↔ ∃ q : Nat, x = (q : Int) ∧ ∃ p ∈ fl.take (j + 1), Lies ns L k p q := fun x => by
        rw [List.mem_append, hm.out x, endsI_mem hfi, List.take_succ_eq_append_getElem hlt]
        constructor
        · rintro (⟨q, e, p, hp, hl⟩ | ⟨q, e, hl⟩)
          · exact ⟨q, e, p, List.mem_append_left _ hp, hl⟩
          · exact ⟨q, e, fl[j], List.mem_append_right _ (List.mem_singleton.2 rfl), hl⟩
        · rintro ⟨q, e, p, hp, hl⟩
          rcases List.mem_append.1 hp with hp | hp
          · exact .inl ⟨q, e, p, hp, hl⟩
          · rw [List.mem_singleton.1 hp] at hl
            exact .inr ⟨q, e, hl⟩
      have HNX := Lib.hid hnx
      have hel := endsI_len ns L k fl[j]
      generalize endsI ns L k fl[j] = E at *
      generalize fl[j] = p at *
      have j1 : (j : Int) < (fl.length : Int) := by omega
      have j2 : 0 ≤ (j : Int) := by omega
      have HFI := Lib.hid hfill
      clear hnx hm hsl' ei hfill
      go_wp2_with fail
      refine hcall.out.mono ?_
      rintro e w2 ⟨A2, c2, rfl, hsl2, hs2, hfr2⟩
      have hfill2 := HFI.out.call hs2 hfr2
      have h63 : acc.length + E.length ≤ maxLen := by unfold maxLen; omega
      have h8 : (acc.length + E.length) * 8 ≤ 140737488355328 := by omega
      have hbs2 := hfill2.fr.size
      have hown2 := hfill2.own
      have HFI2 := Lib.hid hfill2
      have hsl3 := hsl2.1
      clear hcall HFI hs2 hfr2 z0 z1 hsl2 hfill2
      go_wp2_with (at_builtin; refine wpList_append_ints rfl _ _ 45 rfl 3 i1 8 Tryz.underlying45 hi1 hy0 hy1 hy2 rfl rfl hown2 hsl3 h63 h8 hbs2 ?_)
      intro A5 c5 w5 hown5 hfr5 hat5
      simp only [← List.length_append, ← List.map_append] at hown5 hat5 ⊢
      have hfill5 := HFI2.out.grow hbw hown5 hfr5 hat5
      have hfin : MEachSt ns L An Al cn cl sp b k Z fl w (.slice A5 (acc ++ E).length c5) (.int .i64 ((j : Int) + 1)) w5 := ⟨j + 1, _, _, _, rfl, by simp, by omega, by rw [List.length_append]; omega, HNX.out, hfill5⟩
      have HFIN := Lib.hid hfin
      clear hfin hfill5 hown5 hfr5 hat5 hown2 hsl3 HFI2
      generalize (acc ++ E).length = q at *
      go_wp2_with fail
      exact ⟨HFIN.out, by simp [intOf]; omega⟩
    · obtain rfl : j = fl.length := by omega
      have j1 : ¬ (fl.length : Int) < (fl.length : Int) := by omega
      have hsort := Lib.hid (sortInt_any hfill.own (by omega))
      have HFI := Lib.hid hfill
      clear hfill
      go_wp2_with fail
      refine hsort.out.mono ?_
      rintro e w2 ⟨rfl, hfr2, hown2⟩
      have hfill2 := HFI.out.grow (acc' := srtL acc) hbw (by rw [srt_len]; exact hown2) hfr2 (fun g hg => .inl (by rw [srt_len] at hg; exact hg))
      have hcomp := Lib.hid (compactInt_any hfill2.own (by rw [srt_len]; omega))
      have HFI2 := Lib.hid hfill2
      rw [srt_len] at hcomp
      clear hfill2 hown2 hfr2 hsort HFI
      go_wp2_with fail
      refine hcomp.out.mono ?_
      rintro e w3 ⟨A3, c3, e3, rfl, hfr3, hown3⟩
      obtain ⟨l, hl, hlm⟩ := nat_list (cl := Lib.compact (srtL acc)) (S := fun q => ∃ p ∈ fl, Lies ns L k p q) fun x => by
        have h1 : x ∈ Lib.compact (srtL acc) ↔ x ∈ acc := cut_mem
        rw [h1, hm.out x, List.take_length]
      have hll : l.length ≤ 65 := by
        have := rising_len (m := L.length) (by rw [hl]; exact cut_lt acc) fun x hx => by
          obtain ⟨p, hp, hq⟩ := (hlm x).1 hx
          exact rel_max ns L _ _ _ _ (hf p hp) hq
        omega
      rw [← hl] at hown3 ⊢
      injection e3 with e4 e5 e6
      subst e4 e6
      have hfill3 := HFI2.out.grow hbw (acc' := toI l) hown3 (by rw [srt_len]; exact hfr3) (fun g hg => .inl (by rw [own_blk _ _ _ (toI l).length d]; exact hg))
      rw [toI_len]
      have HFIN := Lib.hid hfill3
      clear hfill3 hown3 hfr3 HFI2 hl
      go_wp2_with fail
      go_ret
      exact ⟨l, _, _, rfl, hll, hlm, HFIN.out⟩
end Go.Proofs.YtimhlnndobfehaaGreatDoor
