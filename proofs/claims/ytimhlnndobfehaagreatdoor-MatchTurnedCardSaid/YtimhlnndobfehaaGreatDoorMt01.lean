/- A turned tree is a tree; it lies in the turned letters where the tree lies in the letters, counted from the other end. Plain Lean. What ends and what begins, and what is whole: plain. -/
import Derived.Test.YtimhlnndobfehaaGreatDoorMd05
import Derived.Test.YtimhlnndobfehaaGreatDoorMd27
namespace Go.Proofs.YtimhlnndobfehaaGreatDoor
set_option linter.unusedVariables false

theorem inr_append {n : Int} : ∀ {l m : List Nd} {i : Int}, InR n i l → InR n (i + l.length) m → InR n i (l ++ m)
  | [], m, i, _, h => by simpa using h
  | x :: l, m, i, h, k => ⟨h.1, inr_append h.2 (by rw [show i + 1 + (l.length : Int) = i + ((x :: l).length : Nat) by simp; omega]; exact k)⟩
theorem range_split (b p q : Nat) : (List.range' b (p + q)) = List.range' b p ++ List.range' (b + p) q := by
  rw [List.range'_append_1]
/-- What is known of the nodes of a subtree, numbered from b on. -/
structure SubOk (n b : Nat) (l : List Nd) : Prop where
  pos : 1 ≤ l.length
  perm : ((b : Int) :: allKids l).Perm ((List.range' b l.length).map fun j : Nat => (j : Int))
  inr : b + l.length ≤ n → InR n b l
structure SubsOk (n b : Nat) (cs : List Int) (l : List Nd) : Prop where
  perm : (cs ++ allKids l).Perm ((List.range' b l.length).map fun j : Nat => (j : Int))
  inr : b + l.length ≤ n → InR n b l
theorem allKids_append (l m : List Nd) : allKids (l ++ m) = allKids l ++ allKids m := by unfold allKids; simp
theorem subs_ok {n : Nat} {g : Nat → Nat → List Nd} : ∀ (l : List Int) (b : Nat), (∀ k ∈ l, ∀ b, SubOk n b (g b k.toNat)) → SubsOk n b (subs g b l).2 (subs g b l).1
  | [], b, _ => ⟨by simp [subs, allKids], fun _ => trivial⟩
  | k :: r, b, h => by
    have h1 := h k (by simp) b
    have h2 := subs_ok r (b + (g b k.toNat).length) fun k hk => h k (by simp [hk])
    simp only [subs]
    refine ⟨?_, fun hb => ?_⟩
    · rw [allKids_append, List.length_append, range_split, List.map_append]
      refine List.Perm.trans ?_ (h1.perm.append h2.perm)
      rw [List.cons_append, List.cons_append]
      refine List.Perm.cons _ ?_
      rw [← List.append_assoc, ← List.append_assoc]
      exact List.perm_append_comm.append_right _
    · rw [List.length_append] at hb
      exact inr_append (h1.inr (by omega)) (by
        have := h2.inr (by omega)
        rwa [Int.natCast_add] at this)
theorem sub_ok {ns : List Nd} {n : Nat} (hr : InR ns.length 0 ns) (tn : Bool) : ∀ (f b i : Nat), i < ns.length → ns.length - i ≤ f → SubOk n b (sub ns tn f b i)
  | 0, _, i, hi, hf => by omega
  | f + 1, b, i, hi, hf => by
    have hk := subs_ok (n := n) (g := sub ns tn f) (kidsT tn (ns.getD i nd0)) (b + 1) fun k hk b => by
      have := inr_at i hr hi k ((kidsT_mem _ _ _).1 hk)
      exact sub_ok hr tn f b k.toNat (by omega) (by omega)
    have hm : ∀ c ∈ (subs (sub ns tn f) (b + 1) (kidsT tn (ns.getD i nd0))).2, (b : Int) < c ∧ c < b + 1 + (subs (sub ns tn f) (b + 1) (kidsT tn (ns.getD i nd0))).1.length := fun c hc => by
      have := hk.perm.subset (List.mem_append_left _ hc)
      obtain ⟨j, hj, rfl⟩ := List.mem_map.1 this
      simp only [List.mem_range'_1] at hj
      omega
    unfold sub
    refine ⟨by simp, ?_, fun hb => ⟨fun c hc => ?_, ?_⟩⟩
    · rw [List.length_cons, List.range'_succ, List.map_cons]
      exact List.Perm.cons _ hk.perm
    · have := hm c hc
      simp only [List.length_cons] at hb
      omega
    · simp only [List.length_cons] at hb
      have := hk.inr (by omega)
      rwa [Int.natCast_add] at this
theorem nodeOk_kids {x : Nd} {l : List Int} (h : l.length = x.kids.length) : nodeOk { x with kids := l } = nodeOk x := by
  unfold nodeOk
  simp only [h]
theorem subs_nodes {g : Nat → Nat → List Nd} : ∀ (l : List Int) (b : Nat), (∀ k ∈ l, ∀ b, ∀ x ∈ g b k.toNat, nodeOk x = true) → ∀ x ∈ (subs g b l).1, nodeOk x = true
  | [], b, _, x, hx => by simp [subs] at hx
  | k :: r, b, h, x, hx => by
    simp only [subs] at hx
    rcases List.mem_append.1 hx with hx | hx
    · exact h k (by simp) b x hx
    · exact subs_nodes r _ (fun k hk => h k (by simp [hk])) x hx
theorem sub_nodes {ns : List Nd} (hr : InR ns.length 0 ns) (ho : ∀ x ∈ ns, nodeOk x = true) (tn : Bool) : ∀ (f b i : Nat), i < ns.length → ∀ x ∈ sub ns tn f b i, nodeOk x = true
  | 0, _, _, _, x, hx => by simp [sub] at hx
  | f + 1, b, i, hi, x, hx => by
    unfold sub at hx
    rcases List.mem_cons.1 hx with rfl | hx
    · rw [nodeOk_kids (by rw [subs_num, kidsT_length])]
      refine ho _ ?_
      rw [List.getD_eq_getElem?_getD, List.getElem?_eq_getElem hi]
      exact List.getElem_mem hi
    · exact subs_nodes _ _ (fun k hk b x hx => by
        have := inr_at i hr hi k ((kidsT_mem _ _ _).1 hk)
        exact sub_nodes hr ho tn f b k.toNat (by omega) x hx) x hx
theorem sub_tree {ns : List Nd} (h : IsTree ns) (tn : Bool) : IsTree (sub ns tn ns.length 0 0) ∧ (sub ns tn ns.length 0 0).length = ns.length := by
  have hpos := h.pos
  have hl : (sub ns tn ns.length 0 0).length = ns.length := by rw [sub_length, tree_size h]
  have hs := sub_ok (n := ns.length) h.inr tn ns.length 0 0 (by omega) (by omega)
  refine ⟨⟨by omega, by have := h.max; omega, sub_nodes h.inr h.ok tn _ _ _ (by omega), ?_, fun j h1 h2 => ?_⟩, hl⟩
  · rw [hl]
    exact hs.inr (by omega)
  · have hp := hs.perm.count_eq (j : Int)
    rw [List.count_cons] at hp
    have h0 : ((((0 : Nat) : Int) == (j : Int)) = true) = False := by simp; omega
    rw [if_neg (by rw [h0]; exact id)] at hp
    have hnd : ((List.range' 0 (sub ns tn ns.length 0 0).length).map fun j : Nat => (j : Int)).Nodup :=
      List.pairwise_map.2 (List.Pairwise.imp (fun {a b} hne e => hne (by omega)) (show (List.range' 0 (sub ns tn ns.length 0 0).length).Nodup from List.nodup_range' 1))
    have hm : (j : Int) ∈ (List.range' 0 (sub ns tn ns.length 0 0).length).map fun j : Nat => (j : Int) := List.mem_map.2 ⟨j, by simp only [List.mem_range'_1]; omega, rfl⟩
    have h3 := List.nodup_iff_count.1 hnd (j : Int)
    have h4 := List.count_pos_iff.2 hm
    omega

/-- The nodes l stand in Q from b on. -/
def AtQ (Q : List Nd) (b : Nat) (l : List Nd) : Prop := ∀ j x, l[j]? = some x → Q[b + j]? = some x
theorem AtQ.left {Q : List Nd} {b : Nat} {l m : List Nd} (h : AtQ Q b (l ++ m)) : AtQ Q b l := fun j x hx => h j x (by rw [List.getElem?_append_left (List.getElem?_eq_some_iff.1 hx).1]; exact hx)
theorem AtQ.right {Q : List Nd} {b : Nat} {l m : List Nd} (h : AtQ Q b (l ++ m)) : AtQ Q (b + l.length) m := fun j x hx => by
  rw [Nat.add_assoc]
  exact h (l.length + j) x (by rw [List.getElem?_append_right (by omega), Nat.add_sub_cancel_left]; exact hx)
/-- A pair of kids' lists: each of the first stands for the one of the second. -/
inductive Pairs (R : Int → Int → Prop) : List Int → List Int → Prop
  | nil : Pairs R [] []
  | cons {c k : Int} {cs ks : List Int} : R c k → Pairs R cs ks → Pairs R (c :: cs) (k :: ks)
theorem subs_pairs {Q : List Nd} {g : Nat → Nat → List Nd} : ∀ (l : List Int) (b : Nat), AtQ Q b (subs g b l).1 → Pairs (fun c k => AtQ Q c.toNat (g c.toNat k.toNat)) (subs g b l).2 l
  | [], _, _ => .nil
  | k :: r, b, h => by
    simp only [subs] at h ⊢
    exact .cons h.left (subs_pairs r _ h.right)
theorem Pairs.imp {R S : Int → Int → Prop} : ∀ {cs ks : List Int}, Pairs R cs ks → (∀ c k, k ∈ ks → R c k → S c k) → Pairs S cs ks
  | _, _, .nil, _ => .nil
  | _, _, .cons h t, hi => .cons (hi _ _ (by simp) h) (t.imp fun c k hk => hi c k (by simp [hk]))
theorem SeqR.snoc {R : Nat → Nat → Nat → Prop} : ∀ {l : List Int} {k : Int} {i j : Nat}, SeqR R (l ++ [k]) i j ↔ ∃ m, SeqR R l i m ∧ R k.toNat m j
  | [], k, i, j => by
    simp only [List.nil_append, SeqR]
    constructor
    · rintro ⟨m, h, rfl⟩; exact ⟨i, rfl, h⟩
    · rintro ⟨m, rfl, h⟩; exact ⟨j, h, rfl⟩
  | c :: r, k, i, j => by
    simp only [List.cons_append, SeqR, SeqR.snoc]
    constructor
    · rintro ⟨m, h, p, h1, h2⟩; exact ⟨p, ⟨m, h, h1⟩, h2⟩
    · rintro ⟨p, ⟨m, h, h1⟩, h2⟩; exact ⟨m, h, p, h1, h2⟩
theorem seq_flip {n : Nat} {R' R : Nat → Nat → Nat → Prop} (hx' : ∀ c i j, i ≤ n → R' c i j → j ≤ n) (hx : ∀ c i j, i ≤ n → R c i j → j ≤ n) :
    ∀ {cs ks : List Int}, Pairs (fun c k => ∀ p q, p ≤ n → q ≤ n → (R' c.toNat p q ↔ R k.toNat (n - q) (n - p))) cs ks → ∀ p q, p ≤ n → q ≤ n → (SeqR R' cs p q ↔ SeqR R ks.reverse (n - q) (n - p))
  | _, _, .nil, p, q, hp, hq => by simp only [SeqR, List.reverse_nil]; omega
  | _, _, .cons (c := c) (k := k) h t, p, q, hp, hq => by
    rw [List.reverse_cons, SeqR.snoc]
    constructor
    · rintro ⟨m, h1, h2⟩
      have hm := hx' _ _ _ hp h1
      exact ⟨n - m, (seq_flip hx' hx t m q hm hq).1 h2, (h p m hp hm).1 h1⟩
    · rintro ⟨m, h1, h2⟩
      have hm : m ≤ n := SeqR.max (hx) (by omega) h1
      have e : n - (n - m) = m := by omega
      exact ⟨n - m, (h p (n - m) hp (by omega)).2 (by rw [e]; exact h2), (seq_flip hx' hx t (n - m) q (by omega) hq).2 (by rw [e]; exact h1)⟩
theorem star_head {R : Nat → Nat → Prop} {i m j : Nat} (h : R i m) (s : Star R m j) : Star R i j := by
  induction s with
  | refl => exact .tail (.refl _) h
  | tail _ h2 ih => exact .tail ih h2
theorem star_flip {n : Nat} {R' R : Nat → Nat → Prop} (hx' : ∀ i j, i ≤ n → R' i j → j ≤ n) (h : ∀ p q, p ≤ n → q ≤ n → R' p q → R (n - q) (n - p)) {p q : Nat} (hp : p ≤ n) (s : Star R' p q) : Star R (n - q) (n - p) := by
  induction s with
  | refl => exact .refl _
  | tail s1 h2 ih =>
    have hm := Star.max hx' hp s1
    exact star_head (h _ _ hm (hx' _ _ hm h2) h2) ih
theorem head_pair {R : Int → Int → Prop} {cs ks : List Int} (h : Pairs R cs ks) : (cs.head? = none ∧ ks.head? = none) ∨ ∃ c k, cs.head? = some c ∧ ks.head? = some k ∧ R c k := by
  cases h with
  | nil => exact .inl ⟨rfl, rfl⟩
  | cons h _ => exact .inr ⟨_, _, rfl, rfl, h⟩
theorem mem_pair {R : Int → Int → Prop} : ∀ {cs ks : List Int}, Pairs R cs ks → (∀ c ∈ cs, ∃ k ∈ ks, R c k) ∧ (∀ k ∈ ks, ∃ c ∈ cs, R c k)
  | _, _, .nil => ⟨by simp, by simp⟩
  | _, _, .cons (c := c) (k := k) h t => by
    obtain ⟨h1, h2⟩ := mem_pair t
    refine ⟨fun x hx => ?_, fun x hx => ?_⟩
    · rcases List.mem_cons.1 hx with rfl | hx
      · exact ⟨k, by simp, h⟩
      · obtain ⟨y, hy, h3⟩ := h1 x hx; exact ⟨y, by simp [hy], h3⟩
    · rcases List.mem_cons.1 hx with rfl | hx
      · exact ⟨c, by simp, h⟩
      · obtain ⟨y, hy, h3⟩ := h2 x hx; exact ⟨y, by simp [hy], h3⟩
theorem turned_rel {ns Q : List Nd} {L : List Lt} (hk : Kids ns) : ∀ (f b i : Nat), i < ns.length → AtQ Q b (sub ns true f b i) → ∀ p q, p ≤ L.length → q ≤ L.length → (Rel Q L.reverse f b p q ↔ Rel ns L f i (L.length - q) (L.length - p))
  | 0, _, _, _, _, _, _, _, _ => Iff.rfl
  | f + 1, b, i, hi, hQ, p, q, hp, hq => by
    have hxi : ns[i]? = some ns[i] := List.getElem?_eq_getElem hi
    have hg : ns.getD i nd0 = ns[i] := by rw [List.getD_eq_getElem?_getD, hxi]; rfl
    unfold sub at hQ
    rw [hg] at hQ
    have hkx := hk i _ hxi
    generalize ns[i] = x at *
    have h0 := hQ 0 _ rfl
    rw [Nat.add_zero] at h0
    have hs : AtQ Q (b + 1) (subs (sub ns true f) (b + 1) (kidsT true x)).1 := fun j y hy => by
      rw [Nat.add_assoc, Nat.add_comm 1 j]
      exact hQ (j + 1) y hy
    have hpr := (subs_pairs _ _ hs).imp (S := fun c k => ∀ p q, p ≤ L.length → q ≤ L.length → (Rel Q L.reverse f c.toNat p q ↔ Rel ns L f k.toNat (L.length - q) (L.length - p))) fun c k hkm hc => by
      have := hkx k ((kidsT_mem _ _ _).1 hkm)
      exact turned_rel hk f c.toNat k.toNat (by omega) hc
    generalize (subs (sub ns true f) (b + 1) (kidsT true x)).2 = cs at *
    clear hs hQ
    have hx' : ∀ c i j, i ≤ L.length → Rel Q L.reverse f c i j → j ≤ L.length := fun c i j h1 h2 => by
      have := rel_max Q L.reverse f c i j (by rw [List.length_reverse]; exact h1) h2
      rwa [List.length_reverse] at this
    have hx := rel_max ns L f
    unfold Rel
    rw [h0, hxi]
    simp only
    unfold Body
    by_cases k1 : x.kind = 1
    · simp only [k1, if_true]; omega
    simp only [if_neg k1]
    by_cases k5 : x.kind = 5
    · simp only [k5, if_true, List.length_reverse]; omega
    simp only [if_neg k5]
    by_cases k6 : x.kind = 6
    · simp only [k6, if_true]
      have e : kidsT true x = x.kids.reverse := by unfold kidsT; rw [if_pos ⟨rfl, k6⟩]
      rw [e] at hpr
      have := seq_flip hx' hx hpr p q hp hq
      rwa [List.reverse_reverse] at this
    simp only [if_neg k6]
    have e : kidsT true x = x.kids := by unfold kidsT; rw [if_neg (fun h => k6 h.2)]
    rw [e] at hpr
    by_cases k7 : x.kind = 7
    · simp only [k7, if_true]
      obtain ⟨h1, h2⟩ := mem_pair hpr
      constructor
      · rintro ⟨c, hc, h⟩
        obtain ⟨k, hkm, hck⟩ := h1 c hc
        exact ⟨k, hkm, (hck p q hp hq).1 h⟩
      · rintro ⟨k, hkm, h⟩
        obtain ⟨c, hc, hck⟩ := h2 k hkm
        exact ⟨c, hc, (hck p q hp hq).2 h⟩
    simp only [if_neg k7]
    by_cases k9 : x.kind = 9
    · simp only [k9, if_true]
      refine or_congr (by omega) ?_
      rcases head_pair hpr with ⟨h1, h2⟩ | ⟨c, k, h1, h2, h3⟩
      · simp [h1, h2]
      · simp only [h1, h2, Option.some.injEq, exists_eq_left']
        exact h3 p q hp hq
    simp only [if_neg k9]
    by_cases k8 : x.kind = 8
    · simp only [k8, if_true]
      refine or_congr (by omega) ?_
      rcases head_pair hpr with ⟨h1, h2⟩ | ⟨c, k, h1, h2, h3⟩
      · simp [h1, h2]
      · simp only [h1, h2, Option.some.injEq, exists_eq_left']
        refine ⟨star_flip (hx' _) (fun u v hu hv => (h3 u v hu hv).1) hp, fun h => ?_⟩
        have := star_flip (n := L.length) (R' := Rel ns L f k.toNat) (R := Rel Q L.reverse f c.toNat) (hx _) (fun u v hu hv h => by
          refine (h3 _ _ (by omega) (by omega)).2 ?_
          rw [show L.length - (L.length - u) = u by omega, show L.length - (L.length - v) = v by omega]
          exact h) (by omega) h
        rwa [show L.length - (L.length - p) = p by omega, show L.length - (L.length - q) = q by omega] at this
    simp only [if_neg k8]
    have ht : ∀ l, takesB { x with kids := cs } l = takesB x l := fun l => rfl
    constructor
    · rintro ⟨rfl, l, hl, h⟩
      refine ⟨by omega, l, ?_, h⟩
      rw [List.getElem?_reverse (by omega)] at hl
      rw [← hl]
      congr 1
      omega
    · rintro ⟨h1, l, hl, h⟩
      have hlt := (List.getElem?_eq_some_iff.1 hl).1
      refine ⟨by omega, l, ?_, h⟩
      rw [List.getElem?_reverse (by omega), ← hl]
      congr 1
      omega
/-- The turned pattern in the turned letters. -/
theorem turned_lies {ns : List Nd} {L : List Lt} (h : IsTree ns) {i j : Nat} (hi : i ≤ L.length) (hj : j ≤ L.length) : Lies (sub ns true ns.length 0 0) L.reverse 0 (L.length - j) (L.length - i) ↔ Lies ns L 0 i j := by
  unfold Lies
  rw [(sub_tree h true).2, turned_rel h.kids ns.length 0 0 h.pos (fun k x hx => by rw [Nat.zero_add]; exact hx) _ _ (by omega) (by omega)]
  rw [show L.length - (L.length - i) = i by omega, show L.length - (L.length - j) = j by omega]
end Go.Proofs.YtimhlnndobfehaaGreatDoor
namespace Go.Proofs.YtimhlnndobfehaaGreatDoor
open Go.RowKit
set_option linter.unusedVariables false

theorem mem_toI {l : List Nat} {x : Int} : x ∈ toI l ↔ ∃ k : Nat, k ∈ l ∧ x = (k : Int) := by
  unfold toI
  rw [List.mem_map]
  constructor
  · rintro ⟨k, h, rfl⟩; exact ⟨k, h, rfl⟩
  · rintro ⟨k, h, rfl⟩; exact ⟨k, h, rfl⟩
theorem mem_toI_nat {l : List Nat} {k : Nat} : (k : Int) ∈ toI l ↔ k ∈ l := by
  rw [mem_toI]
  constructor
  · rintro ⟨j, h, e⟩; have : k = j := by omega
    rw [this]; exact h
  · exact fun h => ⟨k, h, rfl⟩
theorem toI_sorted {l : List Nat} (h : l.Pairwise (· < ·)) : (toI l).Pairwise (· < ·) := by
  unfold toI
  rw [List.pairwise_map]
  exact h.imp fun h => by omega
theorem matW_length (a : Al) (s : ByteArray) : (matW a s).length = (lettersS a s).1.length := by
  unfold matW
  rw [matL_len]
theorem ends_ok {a : Al} {ns : List Nd} {s : ByteArray} (hb : begE a ns s = 0) {i : Nat} (hi : i ≤ (matW a s).length) : endsS a ns s (i : Int) = (toI (endsL ns (matW a s) 0 i), 0) := by
  have hp : placeB (matW a s) (i : Int) = true := by unfold placeB; rw [decide_eq_true_eq]; omega
  unfold endsS
  rw [if_neg (by simp [hb]), if_pos hp]
  rfl
theorem begins_ok {a : Al} {ns : List Nd} {s : ByteArray} (hb : begE a ns s = 0) {i : Nat} (hi : i ≤ (matW a s).length) : beginsS a ns s (i : Int) = (toI (begL ns (matW a s) i), 0) := by
  have hp : placeB (matW a s) (i : Int) = true := by unfold placeB; rw [decide_eq_true_eq]; omega
  unfold beginsS
  rw [if_neg (by simp [hb]), if_pos hp]
  rfl
/-- What the law asks of each place. -/
structure BothAt (E B : Int → List Int × Int) (W : Bool) (n i : Nat) : Prop where
  e : (E (i : Int)).2 = 0
  el : (E (i : Int)).1.length ≤ n + 1
  em : ∀ x ∈ (E (i : Int)).1, ∃ k : Nat, x = (k : Int) ∧ i ≤ k ∧ k ≤ n ∧ (B x).2 = 0 ∧ (B x).1.length ≤ n + 1 ∧ (i : Int) ∈ (B x).1
  es : (E (i : Int)).1.Pairwise (· < ·)
  b : (B (i : Int)).2 = 0
  bl : (B (i : Int)).1.length ≤ n + 1
  bm : ∀ x ∈ (B (i : Int)).1, ∃ k : Nat, x = (k : Int) ∧ k ≤ i ∧ (E x).2 = 0 ∧ (E x).1.length ≤ n + 1 ∧ (i : Int) ∈ (E x).1
  w : i = 0 → W = decide ((n : Int) ∈ (E (i : Int)).1)
theorem BothAt.ex {E B : Int → List Int × Int} {W : Bool} {n i : Nat} (h : BothAt E B W n i) {E1 : List Int} (he : E (i : Int) = (E1, 0)) {k : Nat} (hk : k < E1.length) :
    ∃ q : Nat, E1[k] = (q : Int) ∧ i ≤ q ∧ q ≤ n ∧ (B (q : Int)).2 = 0 ∧ (B (q : Int)).1.length ≤ n + 1 ∧ (i : Int) ∈ (B (q : Int)).1 ∧ (∀ j : Nat, k = j + 1 → ∃ z : Nat, E1[j]? = some (z : Int) ∧ z < q) := by
  have h1 := h.em
  have h2 := h.es
  rw [he] at h1 h2
  obtain ⟨q, e, h3, h4, h5, h6, h7⟩ := h1 _ (List.getElem_mem hk)
  refine ⟨q, e, h3, h4, e ▸ h5, e ▸ h6, e ▸ h7, ?_⟩
  rintro j rfl
  obtain ⟨z, ez, _⟩ := h1 _ (List.getElem_mem (show j < E1.length by omega))
  have h8 := List.pairwise_iff_getElem.1 h2 j (j + 1) (show j < E1.length by omega) hk (by omega)
  simp only at h8
  rw [e, ez] at h8
  exact ⟨z, by rw [List.getElem?_eq_getElem (by omega)]; exact congrArg some ez, by omega⟩
theorem BothAt.bx {E B : Int → List Int × Int} {W : Bool} {n i : Nat} (h : BothAt E B W n i) {B1 : List Int} (he : B (i : Int) = (B1, 0)) {k : Nat} (hk : k < B1.length) :
    ∃ q : Nat, B1[k] = (q : Int) ∧ q ≤ i ∧ (E (q : Int)).2 = 0 ∧ (E (q : Int)).1.length ≤ n + 1 ∧ (i : Int) ∈ (E (q : Int)).1 := by
  have h1 := h.bm
  rw [he] at h1
  obtain ⟨q, e, h3, h4, h5, h6⟩ := h1 _ (List.getElem_mem hk)
  exact ⟨q, e, h3, e ▸ h4, e ▸ h5, e ▸ h6⟩
theorem BothAt.eb {E B : Int → List Int × Int} {W : Bool} {n i : Nat} (h : BothAt E B W n i) (hn : n ≤ 64) : ∀ x ∈ (E (i : Int)).1, ∃ k : Nat, x = (k : Int) ∧ k ≤ 64 := fun x hx => by
  obtain ⟨k, e, _, h2, _⟩ := h.em x hx
  exact ⟨k, e, by omega⟩
theorem BothAt.bb {E B : Int → List Int × Int} {W : Bool} {n i : Nat} (h : BothAt E B W n i) (hn : n ≤ 64) (hi : i ≤ n) : ∀ x ∈ (B (i : Int)).1, ∃ k : Nat, x = (k : Int) ∧ k ≤ 64 := fun x hx => by
  obtain ⟨k, e, h2, _⟩ := h.bm x hx
  exact ⟨k, e, by omega⟩
theorem whole_no {a : Al} {ns : List Nd} {s : ByteArray} (h : (wholeS a ns s).2 ≠ 0) : (wholeS a ns s).1 = false := by
  unfold wholeS at *
  by_cases hb : begE a ns s = 0
  · rw [if_neg (by simp [hb])] at h; exact absurd rfl h
  · rw [if_pos hb]
theorem whole_zero {a : Al} {ns : List Nd} {s : ByteArray} (h : (wholeS a ns s).2 = 0) : begE a ns s = 0 := by
  unfold wholeS at h
  by_cases hb : begE a ns s = 0
  · exact hb
  · rw [if_pos hb] at h; exact h
theorem both_at {a : Al} {ns : List Nd} {s : ByteArray} (h : (wholeS a ns s).2 = 0) : (lettersS a s).2 = 0 ∧ (lettersS a s).1.length ≤ 64 ∧ ∀ i, i ≤ (lettersS a s).1.length → BothAt (endsS a ns s) (beginsS a ns s) (wholeS a ns s).1 (lettersS a s).1.length i := by
  have hb := whole_zero h
  have hl := (beg_zero hb).2
  have hn := matW_len hl
  have hwl := matW_length a s
  refine ⟨hl, by omega, fun i hi => ?_⟩
  rw [← hwl] at hi ⊢
  have he := ends_ok hb hi
  have hbg := begins_ok hb hi
  refine ⟨by rw [he], by rw [he, toI_len]; exact ends_len _ _ _ _, ?_, by rw [he]; exact toI_sorted (ends_sorted _ _ _ _), by rw [hbg], by rw [hbg, toI_len]; have := beg_len ns (matW a s) i; omega, ?_, ?_⟩
  · intro x hx
    rw [he] at hx
    obtain ⟨k, hk, rfl⟩ := mem_toI.1 hx
    have h1 := ends_ge hi hk
    have h2 := ends_le hk
    have h3 := begins_ok hb h2
    exact ⟨k, rfl, h1, h2, by rw [h3], by rw [h3, toI_len]; have := beg_len ns (matW a s) k; omega, by rw [h3]; exact mem_toI_nat.2 ((mem_beg h2).2 ⟨h1, (mem_ends hi).1 hk⟩)⟩
  · intro x hx
    rw [hbg] at hx
    obtain ⟨k, hk, rfl⟩ := mem_toI.1 hx
    obtain ⟨h1, h2⟩ := (mem_beg hi).1 hk
    have h3 := ends_ok hb (show k ≤ (matW a s).length by omega)
    exact ⟨k, rfl, h1, by rw [h3], by rw [h3, toI_len]; exact ends_len _ _ _ _, by rw [h3]; exact mem_toI_nat.2 ((mem_ends (by omega)).2 h2)⟩
  · rintro rfl
    rw [he]
    unfold wholeS
    rw [if_neg (by simp [hb])]
    rfl
end Go.Proofs.YtimhlnndobfehaaGreatDoor
