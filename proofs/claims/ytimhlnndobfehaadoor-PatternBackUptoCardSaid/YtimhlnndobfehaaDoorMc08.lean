/- A tree of nodes in its one numbering; how long that is; when two are the same. Plain Lean. Nodes and patterns in memory. A search in memory: its nodes, its letters, what it knows. Does a node take a letter; is a number a place. -/
import Derived.Test.YtimhlnndobfehaaDoorMc06
import Derived.Test.YtimhlnndobfehaaDoorMc03
import Derived.Test.YtimhlnndobfehaaDoorMc02
import Derived.Test.YtimhlnndobfehaaDoorMc07
namespace Go.Proofs.YtimhlnndobfehaaDoor

def nd0 : Nd := ⟨0, 0, 0, 0, []⟩
def kidsT (tn : Bool) (x : Nd) : List Int := if tn = true ∧ x.kind = 6 then x.kids.reverse else x.kids

/-- Subtrees one behind the other: their nodes, their numbers. -/
def subs (g : Nat → Nat → List Nd) : Nat → List Int → List Nd × List Int
  | _, [] => ([], [])
  | b, k :: r => ((g b k.toNat) ++ (subs g (b + (g b k.toNat).length) r).1, (b : Int) :: (subs g (b + (g b k.toNat).length) r).2)
/-- The node 'at' and all below it, numbered from b on. -/
def sub (ns : List Nd) (tn : Bool) : Nat → Nat → Nat → List Nd
  | 0, _, _ => []
  | f + 1, b, i => { ns.getD i nd0 with kids := (subs (sub ns tn f) (b + 1) (kidsT tn (ns.getD i nd0))).2 } :: (subs (sub ns tn f) (b + 1) (kidsT tn (ns.getD i nd0))).1
/-- How many that are. -/
def szN (ns : List Nd) : Nat → Nat → Nat
  | 0, _ => 0
  | f + 1, i => 1 + ((ns.getD i nd0).kids.map fun k => szN ns f k.toNat).sum

theorem subs_snoc (g : Nat → Nat → List Nd) : ∀ (l : List Int) (b : Nat) (k : Int), subs g b (l ++ [k]) = ((subs g b l).1 ++ g (b + (subs g b l).1.length) k.toNat, (subs g b l).2 ++ [((b + (subs g b l).1.length : Nat) : Int)])
  | [], b, k => by simp [subs]
  | x :: r, b, k => by
    have ih := subs_snoc g r (b + (g b x.toNat).length) k
    simp only [List.cons_append, subs, ih, List.length_append, List.append_assoc, Nat.add_assoc]
theorem subs_num (g : Nat → Nat → List Nd) : ∀ (l : List Int) (b : Nat), (subs g b l).2.length = l.length
  | [], _ => rfl
  | _ :: r, b => by simp only [subs, List.length_cons, subs_num g r]

theorem subs_length {g : Nat → Nat → List Nd} {h : Nat → Nat} (e : ∀ b i, (g b i).length = h i) : ∀ (l : List Int) (b : Nat), (subs g b l).1.length = (l.map fun k => h k.toNat).sum
  | [], _ => rfl
  | k :: r, b => by simp only [subs, List.length_append, subs_length e r, List.map_cons, List.sum_cons, e]
theorem sum_rev (h : Int → Nat) (l : List Int) : (l.reverse.map h).sum = (l.map h).sum := by
  rw [List.map_reverse, List.sum_reverse]
theorem kidsT_sum (tn : Bool) (x : Nd) (h : Int → Nat) : ((kidsT tn x).map h).sum = (x.kids.map h).sum := by
  unfold kidsT
  split
  · exact sum_rev h _
  · rfl
theorem kidsT_length (tn : Bool) (x : Nd) : (kidsT tn x).length = x.kids.length := by
  unfold kidsT
  split
  · exact List.length_reverse
  · rfl
theorem kidsT_mem (tn : Bool) (x : Nd) (k : Int) : k ∈ kidsT tn x ↔ k ∈ x.kids := by
  unfold kidsT
  split
  · exact List.mem_reverse
  · exact Iff.rfl
theorem sub_length (ns : List Nd) (tn : Bool) : ∀ (f b i : Nat), (sub ns tn f b i).length = szN ns f i
  | 0, _, _ => rfl
  | f + 1, b, i => by
    simp only [sub, List.length_cons, szN]
    rw [subs_length (sub_length ns tn f), kidsT_sum]
    omega

theorem inr_at {n : Int} : ∀ {ns : List Nd} {i : Int} (j : Nat), InR n i ns → j < ns.length → ∀ k ∈ (ns.getD j nd0).kids, i + j < k ∧ k < n
  | x :: r, i, 0, h, _ => fun k hk => by have := h.1 k (by simpa using hk); omega
  | x :: r, i, j + 1, h, hj => fun k hk => by
    have := inr_at (ns := r) (i := i + 1) j h.2 (by simpa using hj) k (by simpa using hk)
    omega

theorem szN_fuel {ns : List Nd} (hr : InR ns.length 0 ns) : ∀ (f g i : Nat), i < ns.length → ns.length - i ≤ f → ns.length - i ≤ g → szN ns f i = szN ns g i
  | 0, _, i, hi, hf, _ => by omega
  | _ + 1, 0, i, hi, _, hg => by omega
  | f + 1, g + 1, i, hi, hf, hg => by
    simp only [szN]
    congr 2
    refine List.map_congr_left fun k hk => ?_
    have := inr_at i hr hi k hk
    exact szN_fuel hr f g k.toNat (by omega) (by omega) (by omega)

theorem sum_flat {α : Type} (h : α → Nat) : ∀ (l : List (List α)), ((l.flatten).map h).sum = (l.map fun r => (r.map h).sum).sum
  | [] => rfl
  | r :: l => by simp only [List.flatten_cons, List.map_append, List.sum_append, List.map_cons, List.sum_cons, sum_flat h l]

theorem tree_perm {ns : List Nd} (h : IsTree ns) : (allKids ns).Perm ((List.range' 1 (ns.length - 1)).map fun j : Nat => (j : Int)) := by
  rw [List.perm_iff_count]
  intro k
  by_cases hk : 1 ≤ k ∧ k < ns.length
  · have h1 := h.once k.toNat (by omega) (by omega)
    have hkk : ((k.toNat : Nat) : Int) = k := by omega
    rw [hkk] at h1
    rw [h1]
    have hnd : ((List.range' 1 (ns.length - 1)).map fun j : Nat => (j : Int)).Nodup :=
      List.pairwise_map.2 (List.Pairwise.imp (fun {a b} hne e => hne (by omega)) (show (List.range' 1 (ns.length - 1)).Nodup from List.nodup_range' 1))
    have hm : k ∈ (List.range' 1 (ns.length - 1)).map fun j : Nat => (j : Int) := by
      rw [List.mem_map]
      exact ⟨k.toNat, by simp only [List.mem_range'_1]; omega, hkk⟩
    have h2 := List.nodup_iff_count.1 hnd k
    have h3 := List.count_pos_iff.2 hm
    omega
  · rw [List.count_eq_zero_of_not_mem (fun hm => hk (by have := inr_mem h.inr hm; omega)), List.count_eq_zero_of_not_mem]
    intro hm
    obtain ⟨j, hj, rfl⟩ := List.mem_map.1 hm
    simp only [List.mem_range'_1] at hj
    omega
theorem kids_le {ns : List Nd} (h : IsTree ns) {x : Nd} (hx : x ∈ ns) : x.kids.length ≤ ns.length := by
  have h1 := (tree_perm h).length_eq
  rw [List.length_map, List.length_range'] at h1
  have h2 : ∀ l : List Nd, x ∈ l → x.kids.length ≤ (l.flatMap (·.kids)).length := by
    intro l
    induction l with
    | nil => intro h; simp at h
    | cons y r ih =>
      intro hm
      rw [List.flatMap_cons, List.length_append]
      rcases List.mem_cons.1 hm with rfl | hm
      · omega
      · have := ih hm; omega
  have h3 := h2 ns hx
  have h4 : (ns.flatMap (·.kids)).length = ns.length - 1 := h1
  omega

theorem tree_size {ns : List Nd} (h : IsTree ns) : szN ns ns.length 0 = ns.length := by
  have hpos := h.pos
  let z : Nat → Nat := szN ns ns.length
  have hz : ∀ i, i < ns.length → z i = 1 + ((ns.getD i nd0).kids.map fun k => z k.toNat).sum := by
    intro i hi
    show szN ns ns.length i = _
    rw [szN_fuel h.inr ns.length (ns.length + 1) i hi (by omega) (by omega)]
    rfl
  have hperm := tree_perm h
  have hsum : ((List.range ns.length).map z).sum = ns.length + ((allKids ns).map fun k => z k.toNat).sum := by
    have e1 : (List.range ns.length).map z = (List.range ns.length).map fun i => 1 + ((ns.getD i nd0).kids.map fun k => z k.toNat).sum :=
      List.map_congr_left fun i hi => hz i (List.mem_range.1 hi)
    have e2 : ∀ (F : Nat → Nat) (n : Nat), ((List.range n).map fun i => 1 + F i).sum = n + ((List.range n).map F).sum := by
      intro F n
      induction n with
      | zero => rfl
      | succ n ih => rw [List.range_succ, List.map_append, List.sum_append, List.map_append, List.sum_append, ih]; simp; omega
    rw [e1, e2]
    congr 1
    have e3 : (List.range ns.length).map (fun i => ((ns.getD i nd0).kids.map fun k => z k.toNat).sum) = ns.map fun x => (x.kids.map fun k => z k.toNat).sum := by
      refine List.ext_getElem (by simp) fun i h1 h2 => ?_
      simp only [List.getElem_map, List.getElem_range, List.getD_eq_getElem?_getD]
      rw [List.getElem?_eq_getElem (by simpa using h2)]
      rfl
    rw [e3]
    show _ = (((ns.flatMap (·.kids)).map fun k => z k.toNat)).sum
    rw [List.flatMap_def, sum_flat, List.map_map]
    rfl
  have hk : ((allKids ns).map fun k => z k.toNat).sum = ((List.range' 1 (ns.length - 1)).map z).sum := by
    rw [(hperm.map fun k => z k.toNat).sum_nat, List.map_map]
    rfl
  have hrange : List.range ns.length = 0 :: List.range' 1 (ns.length - 1) := by
    rw [List.range_eq_range']
    obtain ⟨m, hm⟩ : ∃ m, ns.length = m + 1 := ⟨ns.length - 1, by omega⟩
    rw [hm, List.range'_succ]
    simp
  rw [hk, hrange, List.map_cons, List.sum_cons] at hsum
  show z 0 = _
  omega

/-- Two patterns, compared node by node. -/
def likeB (ps qs : List Nd) : Nat → Nat → Nat → Bool
  | 0, _, _ => true
  | f + 1, i, k =>
    let x := ps.getD i nd0
    let y := qs.getD k nd0
    decide (x.kind = y.kind) && decide (x.rune = y.rune) && decide (x.plus = y.plus) && decide (x.minus = y.minus) && decide (x.kids.length = y.kids.length) &&
      (x.kids.zip y.kids).all fun ab => likeB ps qs f ab.1.toNat ab.2.toNat

theorem subs_eq {g h : Nat → Nat → List Nd} {L : Nat → Nat → Bool} (e : ∀ b i k, g b i = h b k ↔ L i k = true) :
    ∀ (l m : List Int) (b : Nat), ((subs g b l).2 = (subs h b m).2 ∧ (subs g b l).1 = (subs h b m).1) ↔ (l.length = m.length ∧ (l.zip m).all (fun ab => L ab.1.toNat ab.2.toNat) = true)
  | [], [], b => by simp [subs]
  | [], k :: r, b => by simp [subs]
  | k :: r, [], b => by simp [subs]
  | k :: l, k' :: m, b => by
    have ih := subs_eq e l m
    simp only [subs, List.cons.injEq, true_and, List.length_cons, List.zip_cons_cons, List.all_cons, Bool.and_eq_true]
    constructor
    · rintro ⟨h1, h2⟩
      have hlen : (g b k.toNat).length = (h b k'.toNat).length := by
        have hn := congrArg List.length h1
        rw [subs_num, subs_num] at hn
        match l, m, hn with
        | [], [], _ =>
          simp only [subs, List.append_nil] at h2
          rw [h2]
        | x :: l2, y :: m2, _ =>
          simp only [subs, List.cons.injEq] at h1
          have := h1.1
          omega
      obtain ⟨h3, h4⟩ := List.append_inj h2 hlen
      rw [hlen] at h1 h4
      have := (ih _).1 ⟨h1, h4⟩
      exact ⟨by omega, (e b _ _).1 h3, this.2⟩
    · rintro ⟨h1, h2, h3⟩
      have h4 := (e b k.toNat k'.toNat).2 h2
      have := (ih (b + (h b k'.toNat).length)).2 ⟨by omega, h3⟩
      rw [h4]
      exact ⟨this.1, by rw [this.2]⟩

theorem sub_like (ps qs : List Nd) : ∀ (f b i k : Nat), sub ps false f b i = sub qs false f b k ↔ likeB ps qs f i k = true
  | 0, _, _, _ => by simp [sub, likeB]
  | f + 1, b, i, k => by
    have hk : ∀ x : Nd, kidsT false x = x.kids := fun x => by simp [kidsT]
    have := subs_eq (fun b i k => sub_like ps qs f b i k) (ps.getD i nd0).kids (qs.getD k nd0).kids (b + 1)
    simp only [sub, likeB, hk, List.cons.injEq, Nd.mk.injEq, Bool.and_eq_true, decide_eq_true_eq, and_assoc]
    rw [this]
end Go.Proofs.YtimhlnndobfehaaDoor
namespace Go.Proofs.YtimhlnndobfehaaDoor
open Go.ChangeShapes Go.WideShapes Go.RowKit
set_option linter.unusedVariables false

def vNd : Rep Nd := fun w lo hi cs x => ∃ c0 c1 c2 c3 c4, cs = [c0, c1, c2, c3, c4] ∧ vInt .u8 w lo hi [c0] x.kind ∧ vInt .i32 w lo hi [c1] x.rune ∧ vInt .u32 w lo hi [c2] x.plus ∧ vInt .u32 w lo hi [c3] x.minus ∧ vSl 1 (vInt .i64) w lo hi [c4] x.kids
theorem vNd_good : vNd.Good :=
  ⟨fun k ⟨c0, c1, c2, c3, c4, e, h0, h1, h2, h3, h4⟩ => ⟨c0, c1, c2, c3, c4, e, (vInt_good .u8).keep k h0, (vInt_good .i32).keep k h1, (vInt_good .u32).keep k h2, (vInt_good .u32).keep k h3, (vSl_good (vInt_good .i64)).keep k h4⟩, fun a b ⟨c0, c1, c2, c3, c4, e, h0, h1, h2, h3, h4⟩ => ⟨c0, c1, c2, c3, c4, e, (vInt_good .u8).wide a b h0, (vInt_good .i32).wide a b h1, (vInt_good .u32).wide a b h2, (vInt_good .u32).wide a b h3, (vSl_good (vInt_good .i64)).wide a b h4⟩⟩
def tNd : Ty Nd := ⟨5, vNd, fun x => (tInt .u8).m x.kind + (tInt .i32).m x.rune + (tInt .u32).m x.plus + (tInt .u32).m x.minus + (tSl 8 (tInt .i64)).m x.kids + 1, fun x => (tInt .u8).Q x.kind ∧ (tInt .i32).Q x.rune ∧ (tInt .u32).Q x.plus ∧ (tInt .u32).Q x.minus ∧ (tSl 8 (tInt .i64)).Q x.kids⟩
set_option maxRecDepth 100000 in
theorem opens_Nd {H : Type} {enc : TypeId × Value → H} {w : World} : Opens enc Tryd.prog w 44 tNd := by
  refine ⟨by kernel_rfl, vNd_good, fun {fuel cs x ps} h hf => ?_⟩
  obtain ⟨ys, n, _, hx, hlen, hyl, hfs⟩ := DataW.trod_struct Tryd.underlying44 h
  have hlen' : cs.length = 5 := hlen.trans (by kernel_rfl)
  match cs, hlen', ys, hyl with
  | [c0, c1, c2, c3, c4], _, [y0, y1, y2, y3, y4], _ =>
    simp only [Prod.mk.injEq] at hx
    obtain ⟨rfl, rfl⟩ := hx
    have g0 := hfs 0 _ rfl
    have g1 := hfs 1 _ rfl
    have g2 := hfs 2 _ rfl
    have g3 := hfs 3 _ rfl
    have g4 := hfs 4 _ rfl
    have o0 : Opens enc Tryd.prog w _ (tInt .u8) := opens_int Tryd.underlying5 (by kernel_rfl)
    have e0 : Tryd.prog.cellsOf _ = 1 := o0.size
    obtain ⟨a0, p0, _, m0, q0⟩ := o0.cells (cs := [c0]) (x := y0.1) (ps := y0.2) (by simpa [e0] using g0) (fun b o hm => hf b o (List.mem_flatMap.2 ⟨y0, by simp, hm⟩))
    have o1 : Opens enc Tryd.prog w _ (tInt .i32) := opens_int Tryd.underlying21 (by kernel_rfl)
    have e1 : Tryd.prog.cellsOf _ = 1 := o1.size
    obtain ⟨a1, p1, _, m1, q1⟩ := o1.cells (cs := [c1]) (x := y1.1) (ps := y1.2) (by simpa [e1] using g1) (fun b o hm => hf b o (List.mem_flatMap.2 ⟨y1, by simp, hm⟩))
    have o2 : Opens enc Tryd.prog w _ (tInt .u32) := opens_int Tryd.underlying41 (by kernel_rfl)
    have e2 : Tryd.prog.cellsOf _ = 1 := o2.size
    obtain ⟨a2, p2, _, m2, q2⟩ := o2.cells (cs := [c2]) (x := y2.1) (ps := y2.2) (by simpa [e2] using g2) (fun b o hm => hf b o (List.mem_flatMap.2 ⟨y2, by simp, hm⟩))
    have o3 : Opens enc Tryd.prog w _ (tInt .u32) := opens_int Tryd.underlying41 (by kernel_rfl)
    have e3 : Tryd.prog.cellsOf _ = 1 := o3.size
    obtain ⟨a3, p3, _, m3, q3⟩ := o3.cells (cs := [c3]) (x := y3.1) (ps := y3.2) (by simpa [e3] using g3) (fun b o hm => hf b o (List.mem_flatMap.2 ⟨y3, by simp, hm⟩))
    have o4 : Opens enc Tryd.prog w _ (tSl 8 (tInt .i64)) := opens_slice Tryd.underlying42 (by kernel_rfl) (by kernel_rfl) (by decide) (opens_int Tryd.underlying3 (by kernel_rfl))
    have e4 : Tryd.prog.cellsOf _ = 1 := o4.size
    obtain ⟨a4, p4, _, m4, q4⟩ := o4.cells (cs := [c4]) (x := y4.1) (ps := y4.2) (by simpa [e4] using g4) (fun b o hm => hf b o (List.mem_flatMap.2 ⟨y4, by simp, hm⟩))
    refine ⟨⟨a0, a1, a2, a3, a4⟩, ⟨c0, c1, c2, c3, c4, rfl, p0, p1, p2, p3, p4⟩, rfl, ?_, fun hq => ⟨q0 fun n hn => hq n (by simp only [DataW.weights, Tryd.underlying44]; exact weights_each 0 rfl rfl hn), q1 fun n hn => hq n (by simp only [DataW.weights, Tryd.underlying44]; exact weights_each 1 rfl rfl hn), q2 fun n hn => hq n (by simp only [DataW.weights, Tryd.underlying44]; exact weights_each 2 rfl rfl hn), q3 fun n hn => hq n (by simp only [DataW.weights, Tryd.underlying44]; exact weights_each 3 rfl rfl hn), q4 fun n hn => hq n (by simp only [DataW.weights, Tryd.underlying44]; exact weights_each 4 rfl rfl hn)⟩⟩
    simp only [tNd, List.map_cons, List.map_nil, Rows.uptoBulk, Rows.uptoBulkAll]
    omega


theorem nd_at {w : World} {lo hi k : Nat} {A : Option Addr} {ns : List Nd} (h : Sl 5 vNd w lo hi A ns) (hk : k < ns.length) :
    ∃ b off B c, A = some ⟨b, off, none⟩ ∧ lo ≤ b ∧ b < hi ∧ Cel w b (off + k * 5) (.int .u8 ns[k].kind) ∧ Cel w b (off + k * 5 + 1) (.int .i32 ns[k].rune) ∧ Cel w b (off + k * 5 + 2) (.int .u32 ns[k].plus) ∧ Cel w b (off + k * 5 + 3) (.int .u32 ns[k].minus) ∧
      Cel w b (off + k * 5 + 4) (.slice B ns[k].kids.length c) ∧ ns[k].kids.length ≤ c ∧ c ≤ maxLen ∧ Sl 1 (vInt .i64) w lo hi B ns[k].kids ∧ kin .u8 ns[k].kind ∧ kin .i32 ns[k].rune ∧ kin .u32 ns[k].plus ∧ kin .u32 ns[k].minus := by
  obtain ⟨b, off, cs, e, h1, h2, _, h4, c0, c1, c2, c3, c4, rfl, ⟨e0, k0⟩, ⟨e1, k1⟩, ⟨e2, k2⟩, ⟨e3, k3⟩, B, c, e4, hl, hm, hs⟩ := h.at_ hk
  simp only [List.cons.injEq, and_true] at e0 e1 e2 e3 e4
  subst e0 e1 e2 e3 e4
  exact ⟨b, off, B, c, e, h1, h2, h4 0 _ rfl, h4 1 _ rfl, h4 2 _ rfl, h4 3 _ rfl, h4 4 _ rfl, hl, hm, hs, k0, k1, k2, k3⟩

theorem bits_or_u32 {a b : Int} (ha : kin .u32 a) (hb : kin .u32 b) : bits .or .u32 a b = 0 ↔ a = 0 ∧ b = 0 := by
  have h1 := kin_u32 ha
  have h2 := kin_u32 hb
  obtain ⟨x, rfl⟩ := Int.eq_ofNat_of_zero_le h1.1
  obtain ⟨y, rfl⟩ := Int.eq_ofNat_of_zero_le h2.1
  have hx : x < 2 ^ 32 := by omega
  have hy : y < 2 ^ 32 := by omega
  have hor : x ||| y < 2 ^ 32 := Nat.or_lt_two_pow hx hy
  have e : bits .or .u32 (x : Int) (y : Int) = ((x ||| y : Nat) : Int) := by
    show IntKind.u32.wrap ((BitVec.ofInt 32 (x : Int) ||| BitVec.ofInt 32 (y : Int)).toNat : Int) = _
    rw [BitVec.toNat_or, BitVec.ofInt_natCast, BitVec.ofInt_natCast, BitVec.toNat_ofNat, BitVec.toNat_ofNat, Nat.mod_eq_of_lt hx, Nat.mod_eq_of_lt hy]
    exact IntWalk.u32_in _ (by omega)
  rw [e]
  constructor
  · intro h
    have h0 : x ||| y = 0 := by omega
    rw [Nat.or_eq_zero_iff] at h0
    omega
  · rintro ⟨h3, h4⟩
    have : x = 0 := by omega
    have : y = 0 := by omega
    subst x y
    rfl

/-- A pattern: its nodes. -/
def vPat : Rep (List Nd) := vSl 5 vNd
theorem vPat_good : vPat.Good := vSl_good vNd_good
def tPat : Ty (List Nd) := ⟨1, vPat, fun l => (tSl 40 tNd).m l + 1, (tSl 40 tNd).Q⟩
set_option maxRecDepth 100000 in
theorem opens_Pat {H : Type} {enc : TypeId × Value → H} {w : World} : Opens enc Tryd.prog w 28 tPat := by
  refine ⟨by kernel_rfl, vPat_good, fun {fuel cs x ps} h hf => ?_⟩
  obtain ⟨ys, n, _, hx, hlen, hyl, hfs⟩ := DataW.trod_struct Tryd.underlying28 h
  have hlen' : cs.length = 1 := hlen.trans (by kernel_rfl)
  match cs, hlen', ys, hyl with
  | [c0], _, [y0], _ =>
    simp only [Prod.mk.injEq] at hx
    obtain ⟨rfl, rfl⟩ := hx
    have g0 := hfs 0 _ rfl
    have o0 : Opens enc Tryd.prog w 26 (tSl 40 tNd) := opens_slice Tryd.underlying26 (by kernel_rfl) (by kernel_rfl) (by decide) opens_Nd
    have e0 : Tryd.prog.cellsOf _ = 1 := o0.size
    obtain ⟨a0, p0, _, m0, q0⟩ := o0.cells (cs := [c0]) (x := y0.1) (ps := y0.2) (by simpa [e0] using g0) (fun b o hm => hf b o (List.mem_flatMap.2 ⟨y0, by simp, hm⟩))
    refine ⟨a0, p0, rfl, ?_, fun hq => q0 fun n hn => hq n (by simp only [DataW.weights, Tryd.underlying28]; exact weights_each 0 rfl rfl hn)⟩
    simp only [tPat, List.map_cons, List.map_nil, Rows.uptoBulk, Rows.uptoBulkAll]
    omega
end Go.Proofs.YtimhlnndobfehaaDoor
namespace Go.Proofs.YtimhlnndobfehaaDoor
open Go.RowKit Go.Maps
set_option linter.unusedVariables false

def toI (l : List Nat) : List Int := l.map fun (n : Nat) => (n : Int)
theorem toI_len (l : List Nat) : (toI l).length = l.length := by unfold toI; simp
theorem toI_lt {l : List Nat} (h : l.Pairwise (· < ·)) : (toI l).Pairwise (· < ·) := by unfold toI; rw [List.pairwise_map]; exact h.imp fun h => by omega
theorem toI_mem {l : List Nat} {x : Int} : x ∈ toI l ↔ ∃ n : Nat, x = (n : Int) ∧ n ∈ l := by
  unfold toI
  rw [List.mem_map]
  exact ⟨fun ⟨n, h, e⟩ => ⟨n, e.symm, h⟩, fun ⟨n, e, h⟩ => ⟨n, h, e.symm⟩⟩
/-- The places of a node from a place, as integers. -/
def endsI (ns : List Nd) (L : List Lt) (k i : Nat) : List Int := toI (endsL ns L k i)
/-- What has just these members, sorted and each once. -/
theorem cut_ends {ns : List Nd} {L : List Lt} {k i : Nat} (hi : i ≤ L.length) {l : List Int} (h : ∀ x, x ∈ l ↔ ∃ j : Nat, x = (j : Int) ∧ Lies ns L k i j) : cutL l = endsI ns L k i :=
  rising_eqI (cut_lt l) (toI_lt (ends_sorted ns L k i)) fun x => by
    rw [cut_mem, h x]
    unfold endsI
    rw [toI_mem]
    exact exists_congr fun j => and_congr_right fun _ => (mem_ends hi).symm

section
variable {α : Type} {sz : Nat} {V : Rep α} {w w' : World} {lo hi : Nat} {A : Option Addr} {xs : List α}
/-- Data in a slice's own block stand while the block stands. -/
theorem Sl.same (hV : ∀ cs x, V w lo hi cs x → V w' lo hi cs x) (h : Sl sz V w lo hi A xs) (hb : 0 < xs.length → ∀ ad, A = some ad → w'.heap[ad.block]? = w.heap[ad.block]?) : Sl sz V w' lo hi A xs := fun hn => by
  obtain ⟨b, off, rfl, h1, h2, hc⟩ := h hn
  have hbb := hb hn _ rfl
  refine ⟨b, off, rfl, h1, h2, fun i x hx => ?_⟩
  obtain ⟨cs, h3, h4, h5⟩ := hc i x hx
  exact ⟨cs, h3, fun j v hj => ⟨(World.cell?_of_block (a := ⟨b, off + i * sz + j, none⟩) hbb).trans (h4 j v hj).1, (World.frozen?_of_block (a := ⟨b, off + i * sz + j, none⟩) hbb).trans (h4 j v hj).2⟩, hV _ _ h5⟩
end
/-- Integers that are read, later than block b, in no block of Z. -/
def SlZ (Z : Nat → Prop) (b : Nat) (w : World) (A : Option Addr) (l : List Int) : Prop :=
  Sl 1 (vInt .i64) w (b + 1) w.heap.size A l ∧ (0 < l.length → ∀ ad, A = some ad → ¬ Z ad.block)
theorem SlZ.fr {Z T : Nat → Prop} {b : Nat} {w w' : World} {A : Option Addr} {l : List Int} (h : SlZ Z b w A l) (hf : Fr T w w') (hT : ∀ g, g < w.heap.size → b < g → T g → Z g) : SlZ Z b w' A l :=
  ⟨(Sl.same (w := w) (w' := w') (fun _ _ h => h) h.1 (fun hn ad e => by
    obtain ⟨b', off, e', h1, h2, _⟩ := h.1 hn
    rw [e] at e'
    injection e' with e'
    subst e'
    exact hf.block _ h2 fun ht => h.2 hn _ e (hT _ h2 h1 ht))).wide (vInt_good _) (Nat.le_refl _) hf.size, h.2⟩
theorem SlZ.weak {Z T : Nat → Prop} {b : Nat} {w : World} {A : Option Addr} {l : List Int} (h : SlZ Z b w A l) (hT : ∀ g, g < w.heap.size → b < g → T g → Z g) : SlZ T b w A l :=
  ⟨h.1, fun hn ad e ht => by
    obtain ⟨b', off, e', h1, h2, _⟩ := h.1 hn
    have e2 := e
    rw [e] at e'
    injection e' with e'
    subst e'
    exact h.2 hn _ e2 (hT _ h2 h1 ht)⟩
/-- What is known: at some nodes and places the places where they end. -/
def Known (ns : List Nd) (L : List Lt) (Z : Nat → Prop) (b : Nat) (w : World) : Prop :=
  ∃ F, MapV Tryd.prog 128 w b F ∧ ∀ kl v, F kl = some v → ∃ k i A c, kl = K2 k i ∧ k < ns.length ∧ i ≤ L.length ∧ v = .slice A (endsI ns L k i).length c ∧ SlZ Z b w A (endsI ns L k i)
/-- A search: its struct in block sp, what is known in block b; blocks of Z are none of its. -/
structure Srch (ns : List Nd) (L : List Lt) (An Al : Option Addr) (cn cl sp b : Nat) (Z : Nat → Prop) (w : World) : Prop where
  row : Row w sp 103 [.slice An ns.length cn, .slice Al L.length cl, .map (some b)]
  nodes : Sl 5 vNd w 0 b An ns
  lets : Sl 3 vLt w (b + 1) w.heap.size Al L
  letz : 0 < L.length → ∀ ad, Al = some ad → ¬ Z ad.block
  known : Known ns L Z b w
  sp_ : b < sp
  spz : ¬ Z sp
  zb : ∀ g, Z g → b < g
  n1 : ns.length ≤ 256
  n2 : L.length ≤ 64
  kids : Kids ns

section
variable {ns : List Nd} {L : List Lt} {An Al : Option Addr} {cn cl sp b : Nat} {w w' : World} {Z T : Nat → Prop}
theorem Known.lt (h : Known ns L Z b w) : b < w.heap.size := let ⟨_, h1, _⟩ := h; h1.lt
theorem Known.fr (h : Known ns L Z b w) (hf : Fr T w w') (hT : ∀ g, g < w.heap.size → b < g → T g → Z g) (hb : ¬ T b) : Known ns L Z b w' := by
  obtain ⟨F, h1, h2⟩ := h
  refine ⟨F, h1.same (hf.block b h1.lt hb), fun kl v hv => ?_⟩
  obtain ⟨k, i, A, c, e1, e2, e3, e4, e5⟩ := h2 kl v hv
  exact ⟨k, i, A, c, e1, e2, e3, e4, e5.fr hf hT⟩
theorem Known.weak (h : Known ns L Z b w) (hT : ∀ g, g < w.heap.size → b < g → T g → Z g) : Known ns L T b w := by
  obtain ⟨F, h1, h2⟩ := h
  refine ⟨F, h1, fun kl v hv => ?_⟩
  obtain ⟨k, i, A, c, e1, e2, e3, e4, e5⟩ := h2 kl v hv
  exact ⟨k, i, A, c, e1, e2, e3, e4, e5.weak hT⟩
theorem Srch.lt (h : Srch ns L An Al cn cl sp b Z w) : b < w.heap.size := h.known.lt
/-- Only blocks of Z, and what is known, have turned. -/
theorem Srch.fr (h : Srch ns L An Al cn cl sp b Z w) (hf : Fr T w w') (hT : ∀ g, g < w.heap.size → T g → Z g ∨ g = b) (hk : Known ns L Z b w') : Srch ns L An Al cn cl sp b Z w' :=
  ⟨(hf.block sp h.row.lt (fun ht => by
      rcases hT _ h.row.lt ht with hz | e
      · exact h.spz hz
      · have := h.sp_; omega)).trans h.row,
    h.nodes.keep vNd_good (fun k _ h2 => hf.block k (by have := h.lt; omega) (fun ht => by
      rcases hT _ (by have := h.lt; omega) ht with hz | e
      · have := h.zb _ hz; omega
      · omega)),
    (Sl.same (w := w) (w' := w') (fun _ _ h => h) h.lets (fun hn ad e => by
      obtain ⟨b', off, e', h1, h2, _⟩ := h.lets hn
      have e2 := e
      rw [e] at e'
      injection e' with e'
      subst e'
      exact hf.block _ h2 fun ht => by
        rcases hT _ h2 ht with hz | e3
        · exact h.letz hn _ e2 hz
        · omega)).wide vLt_good (Nat.le_refl _) hf.size,
    h.letz, hk, h.sp_, h.spz, h.zb, h.n1, h.n2, h.kids⟩
theorem Srch.touch (h : Srch ns L An Al cn cl sp b Z w) (hf : Fr T w w') (hT : ∀ g, g < w.heap.size → T g → Z g) : Srch ns L An Al cn cl sp b Z w' :=
  h.fr hf (fun g h1 h2 => .inl (hT g h1 h2)) (h.known.fr hf (fun g h1 _ h2 => hT g h1 h2) fun ht => by have := h.zb _ (hT _ h.lt ht); omega)
theorem Srch.below (h : Srch ns L An Al cn cl sp b Z w) (hb : Below w.heap.size w w') : Srch ns L An Al cn cl sp b Z w' := h.touch (T := fun _ => False) (Fr.of_below hb) fun _ _ h => h.elim
theorem Srch.drewN (h : Srch ns L An Al cn cl sp b Z w) (n : Nat) : Srch ns L An Al cn cl sp b Z (w.drewN n) := h.below (below_drewN (Below.refl _ _) n)
/-- Other blocks that are none of its: fewer, or such as are not there yet. -/
theorem Srch.weak (h : Srch ns L An Al cn cl sp b Z w) (hT : ∀ g, g < w.heap.size → T g → Z g) (hb : ∀ g, T g → b < g) : Srch ns L An Al cn cl sp b T w :=
  ⟨h.row, h.nodes, h.lets, fun hn ad e ht => by
    obtain ⟨b', off, e', h1, h2, _⟩ := h.lets hn
    have e2 := e
    rw [e] at e'
    injection e' with e'
    subst e'
    exact h.letz hn _ e2 (hT _ h2 ht), h.known.weak fun g h1 _ h2 => hT g h1 h2, h.sp_, fun ht => h.spz (hT _ h.row.lt ht), hb, h.n1, h.n2, h.kids⟩
end

/-- A list of places as an answer that is read. -/
def PlOut (ns : List Nd) (L : List Lt) (An Al : Option Addr) (cn cl sp b : Nat) (Z : Nat → Prop) (w : World) (l : List Int) (e : Ending) (w' : World) : Prop :=
  ∃ A c, e = .returned (.slice A l.length c) ∧ SlZ Z b w' A l ∧ Srch ns L An Al cn cl sp b Z w' ∧ Fr (fun k => k = b) w w'
/-- Blocks of Z, and the slice's own. -/
def Zv (Z : Nat → Prop) (v : Value) (k : Nat) : Prop := Z k ∨ v.ownBlock = some k
/-- A list of places as an answer that the call owns: its members are the places. -/
def OwnOut (ns : List Nd) (L : List Lt) (An Al : Option Addr) (cn cl sp b : Nat) (Z : Nat → Prop) (w : World) (S : Nat → Prop) (e : Ending) (w' : World) : Prop :=
  ∃ (A : Option Addr) (c : Nat) (l : List Int), e = .returned (.slice A l.length c) ∧ w'.ownsRow w.heap.size 3 1 (.slice A l.length c) l.length (l.map (Value.int .i64)) ∧ (∀ x, x ∈ l ↔ ∃ j : Nat, x = (j : Int) ∧ S j) ∧ l.length ≤ 70000 ∧ Srch ns L An Al cn cl sp b (Zv Z (.slice A l.length c)) w' ∧ Fr (fun k => k = b) w w'
end Go.Proofs.YtimhlnndobfehaaDoor
namespace Go.Proofs.YtimhlnndobfehaaDoor
open Go.RowKit
set_option linter.unusedVariables false

theorem mint_info : (Tryd.prog.info? 3).map (fun i => (i.zero, i.size, i.bytes)) = some (some (.int .i64 0), 1, 8) := by kernel_rfl
set_option maxHeartbeats 4000000 in
theorem takes_any (x : Nd) (l : Lt) (u : Value) (w : World) (h0 : kin .u8 x.kind) (h1 : kin .i32 x.rune) (h2 : kin .u32 x.plus) (h3 : kin .u32 x.minus) (hl : LtOk l) :
    Calls Tryd.prog 90 #[.agg #[.int .u8 x.kind, .int .i32 x.rune, .int .u32 x.plus, .int .u32 x.minus, u], .agg #[.int .i32 l.rune, .int .u32 (l.plus : Int), .int .u32 (l.minus : Int)]] w fun e w' => e = .returned (.bool (takesB x l)) ∧ Below w.heap.size w w' := by
  obtain ⟨l0, l1, l2⟩ := hl
  have k2 := kin_u32 h2
  have k3 := kin_u32 h3
  obtain ⟨kd, rn, pl, mi, ks⟩ := x
  simp only at *
  obtain ⟨p, rfl⟩ := Int.eq_ofNat_of_zero_le k2.1
  obtain ⟨m, rfl⟩ := Int.eq_ofNat_of_zero_le k3.1
  have HT : Hid (takesB ⟨kd, rn, p, m, ks⟩ l = if kd = 2 then decide (rn = l.rune) else if kd = 3 then likeL l p m else decide (kd = 4)) := rfl
  obtain ⟨q, b1, b2, b3⟩ := bits_andNot (x := p) (by omega) l1
  obtain ⟨r, d1, d2, d3⟩ := bits_andNot (x := m) (by omega) l2
  have HL : Hid (likeL l p m = (decide (l.plus &&& p = p) && decide (l.minus &&& m = m))) := rfl
  obtain ⟨xr, xp, xm⟩ := l
  simp only at *
  by_cases e2 : kd = 2
  · subst e2
    have HF : Hid (takesB ⟨2, rn, p, m, ks⟩ ⟨xr, xp, xm⟩ = (rn == xr)) := by show _ = _; rw [HT.out, if_pos rfl]; rfl
    clear HT HL
    go_enter Tryd.func90, Tryd.ntmps90
    go_wp2_with fail
    go_ret
    exact ⟨retb_of (by rw [HF.out]), by go_grown⟩
  by_cases e3 : kd = 3
  · subst e3
    have HF : Hid (takesB ⟨3, rn, p, m, ks⟩ ⟨xr, xp, xm⟩ = (decide (xp &&& p = p) && decide (xm &&& m = m))) := by show _ = _; rw [HT.out, if_neg (by decide), if_pos rfl]; exact HL.out
    clear HT HL
    cases hq : decide (xp &&& p = p) with
    | true =>
      rw [hq] at b2
      cases hr : decide (xm &&& m = m) with
      | true =>
        rw [hr] at d2
        have HG : Hid (takesB ⟨3, rn, p, m, ks⟩ ⟨xr, xp, xm⟩ = true) := by show _ = _; rw [HF.out, hq, hr]; rfl
        clear hq hr HF
        go_enter Tryd.func90, Tryd.ntmps90
        go_wp2_with fail
        go_ret
        exact ⟨retb_of (by rw [HG.out]), by go_grown⟩
      | false =>
        rw [hr] at d2
        have HG : Hid (takesB ⟨3, rn, p, m, ks⟩ ⟨xr, xp, xm⟩ = false) := by show _ = _; rw [HF.out, hq, hr]; rfl
        clear hq hr HF
        go_enter Tryd.func90, Tryd.ntmps90
        go_wp2_with fail
        go_ret
        exact ⟨retb_of (by rw [HG.out]), by go_grown⟩
    | false =>
      rw [hq] at b2
      have HG : Hid (takesB ⟨3, rn, p, m, ks⟩ ⟨xr, xp, xm⟩ = false) := by show _ = _; rw [HF.out, hq]; rfl
      clear hq HF
      go_enter Tryd.func90, Tryd.ntmps90
      go_wp2_with fail
      go_ret
      exact ⟨retb_of (by rw [HG.out]), by go_grown⟩
  have HF : Hid (takesB ⟨kd, rn, p, m, ks⟩ ⟨xr, xp, xm⟩ = (kd == 4)) := by show _ = _; rw [HT.out, if_neg e2, if_neg e3]; rfl
  have f2 := beq_eq_false_iff_ne.2 e2
  have f3 := beq_eq_false_iff_ne.2 e3
  clear HT HL e2 e3
  go_enter Tryd.func90, Tryd.ntmps90
  go_wp2_with fail
  go_ret
  exact ⟨retb_of (by rw [HF.out]), by go_grown⟩
def placeB (L : List Lt) (n : Int) : Bool := decide (0 ≤ n ∧ n ≤ L.length)
theorem place_any {ns : List Nd} {L : List Lt} {An Al : Option Addr} {cn cl sp b : Nat} {Z : Nat → Prop} {w : World} (h : Srch ns L An Al cn cl sp b Z w) (n : Int) :
    Calls Tryd.prog 54 #[.pointer (some ⟨sp, 0, none⟩), .int .i64 n] w fun e w' => e = .returned (.bool (placeB L n)) ∧ w' = w := by
  obtain ⟨c1, f1⟩ := h.row.cel (i := 1) rfl
  have hlt := h.row.lt
  by_cases h0 : 0 ≤ n
  · by_cases h1 : n ≤ L.length
    · have HF : Hid (placeB L n = true) := by show _ = _; unfold placeB; simp [h0, h1]
      clear h
      go_enter Tryd.func54, Tryd.ntmps54
      go_wp2_with fail
      go_ret
      exact ⟨retb_of (by rw [HF.out]), rfl⟩
    · have HF : Hid (placeB L n = false) := by show _ = _; unfold placeB; simp [h0, h1]
      clear h
      go_enter Tryd.func54, Tryd.ntmps54
      go_wp2_with fail
      go_ret
      exact ⟨retb_of (by rw [HF.out]), rfl⟩
  · have HF : Hid (placeB L n = false) := by show _ = _; unfold placeB; simp [h0]
    clear h
    go_enter Tryd.func54, Tryd.ntmps54
    go_wp2_with fail
    go_ret
    exact ⟨retb_of (by rw [HF.out]), rfl⟩
end Go.Proofs.YtimhlnndobfehaaDoor
