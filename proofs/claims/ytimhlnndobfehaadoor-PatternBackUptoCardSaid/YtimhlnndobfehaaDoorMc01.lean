/- Words for memory: what lies in cells, by blocks between lo and hi; it stays while these blocks stay. Rows of cells that hold data: what is read of a slice as a list of cells; what a call owns; append. -/
import Derived.WalkKit
import Derived.ProofKit
import Derived.OpenShut
import Derived.JoinedCond
import Derived.Handy
import Derived.Lib.Hide
import Derived.Deep.QuietTactic
import Derived.BigQuiet
import Derived.WalkLawsBesides
import Derived.WalkSpells
namespace Go.Proofs.YtimhlnndobfehaaDoor
open Go.RowKit
set_option linter.unusedVariables false

/-- Blocks from lo on and below hi are as they were. -/
def Kp (lo hi : Nat) (w w' : World) : Prop := ∀ k, lo ≤ k → k < hi → w'.heap[k]? = w.heap[k]?

theorem Kp.of_below {lo hi : Nat} {w w' : World} (h : Below hi w w') : Kp lo hi w w' := fun k _ hk => h.block k hk
theorem Kp.refl (lo hi : Nat) (w : World) : Kp lo hi w w := fun _ _ _ => rfl
theorem Kp.trans {lo hi : Nat} {a b c : World} (h : Kp lo hi a b) (k : Kp lo hi b c) : Kp lo hi a c := fun i h1 h2 => (k i h1 h2).trans (h i h1 h2)
theorem Kp.mono {lo hi lo' hi' : Nat} {w w' : World} (h : Kp lo hi w w') (h1 : lo ≤ lo') (h2 : hi' ≤ hi) : Kp lo' hi' w w' := fun k a b => h k (by omega) (by omega)

theorem Kp.cell {lo hi : Nat} {w w' : World} (h : Kp lo hi w w') {b o : Nat} (h1 : lo ≤ b) (h2 : b < hi) : w'.cell? ⟨b, o, none⟩ = w.cell? ⟨b, o, none⟩ :=
  World.cell?_of_block (a := ⟨b, o, none⟩) (h b h1 h2)
theorem Kp.frozen {lo hi : Nat} {w w' : World} (h : Kp lo hi w w') {b o : Nat} (h1 : lo ≤ b) (h2 : b < hi) : w'.frozen? ⟨b, o, none⟩ = w.frozen? ⟨b, o, none⟩ :=
  World.frozen?_of_block (a := ⟨b, o, none⟩) (h b h1 h2)

/-- A cell that may be written holds v. -/
def Cel (w : World) (b o : Nat) (v : Value) : Prop := w.cell? ⟨b, o, none⟩ = some v ∧ w.frozen? ⟨b, o, none⟩ = false
theorem Cel.keep {lo hi : Nat} {w w' : World} (k : Kp lo hi w w') {b o : Nat} {v : Value} (h1 : lo ≤ b) (h2 : b < hi) (h : Cel w b o v) : Cel w' b o v :=
  ⟨(k.cell h1 h2).trans h.1, (k.frozen h1 h2).trans h.2⟩

/-- How a datum lies in a list of cells: the world, the bounds of the blocks that it reaches, the cells. -/
abbrev Rep (α : Type) := World → Nat → Nat → List Value → α → Prop

structure Rep.Good {α : Type} (V : Rep α) : Prop where
  keep : ∀ {w w' : World} {lo hi : Nat} {cs : List Value} {x : α}, Kp lo hi w w' → V w lo hi cs x → V w' lo hi cs x
  wide : ∀ {w : World} {lo hi lo' hi' : Nat} {cs : List Value} {x : α}, lo' ≤ lo → hi ≤ hi' → V w lo hi cs x → V w lo' hi' cs x

def kin (k : IntKind) (n : Int) : Prop := (Lit.int k n).wf = true
def vInt (k : IntKind) : Rep Int := fun _ _ _ cs n => cs = [.int k n] ∧ kin k n
def vBool : Rep Bool := fun _ _ _ cs x => cs = [.bool x]
def vStr : Rep ByteArray := fun _ _ _ cs s => cs = [.string s] ∧ s.size ≤ maxLen
theorem vInt_good (k : IntKind) : (vInt k).Good := ⟨fun _ h => h, fun _ _ h => h⟩
theorem vBool_good : vBool.Good := ⟨fun _ h => h, fun _ _ h => h⟩
theorem vStr_good : vStr.Good := ⟨fun _ h => h, fun _ _ h => h⟩

/-- The cells cs lie in block b from o on, and may be written. -/
def Cels (w : World) (b o : Nat) (cs : List Value) : Prop := ∀ j v, cs[j]? = some v → Cel w b (o + j) v
theorem Cels.keep {lo hi : Nat} {w w' : World} (k : Kp lo hi w w') {b o : Nat} {cs : List Value} (h1 : lo ≤ b) (h2 : b < hi) (h : Cels w b o cs) : Cels w' b o cs :=
  fun j v hj => (h j v hj).keep k h1 h2

/-- A slice's address A and elements xs (each of sz cells, by V): blocks from lo on and below hi. -/
def Sl {α : Type} (sz : Nat) (V : Rep α) (w : World) (lo hi : Nat) (A : Option Addr) (xs : List α) : Prop :=
  0 < xs.length → ∃ b off, A = some ⟨b, off, none⟩ ∧ lo ≤ b ∧ b < hi ∧ ∀ i x, xs[i]? = some x → ∃ cs, cs.length = sz ∧ Cels w b (off + i * sz) cs ∧ V w lo hi cs x

section
variable {α : Type} {sz : Nat} {V : Rep α} {w w' : World} {lo hi : Nat} {A : Option Addr} {xs : List α}
theorem Sl.nil (A : Option Addr) : Sl sz V w lo hi A [] := fun h => absurd h (by simp)
theorem Sl.keep (g : V.Good) (k : Kp lo hi w w') (h : Sl sz V w lo hi A xs) : Sl sz V w' lo hi A xs := fun hn => by
  obtain ⟨b, off, e, h1, h2, hc⟩ := h hn
  refine ⟨b, off, e, h1, h2, fun i x hx => ?_⟩
  obtain ⟨cs, h3, h4, h5⟩ := hc i x hx
  exact ⟨cs, h3, h4.keep k h1 h2, g.keep k h5⟩
theorem Sl.wide {lo' hi' : Nat} (g : V.Good) (h1 : lo' ≤ lo) (h2 : hi ≤ hi') (h : Sl sz V w lo hi A xs) : Sl sz V w lo' hi' A xs := fun hn => by
  obtain ⟨b, off, e, h3, h4, hc⟩ := h hn
  refine ⟨b, off, e, by omega, by omega, fun i x hx => ?_⟩
  obtain ⟨cs, h3, h4, h5⟩ := hc i x hx
  exact ⟨cs, h3, h4, g.wide h1 h2 h5⟩
theorem Sl.below {hi' : Nat} (g : V.Good) (hb : Below hi' w w') (h2 : hi ≤ hi') (h : Sl sz V w lo hi A xs) : Sl sz V w' lo hi A xs :=
  h.keep g ((Kp.of_below hb).mono (Nat.le_refl _) h2)
theorem Sl.drewN (h : Sl sz V w lo hi A xs) (g : V.Good) (n : Nat) : Sl sz V (w.drewN n) lo hi A xs := Sl.keep (w := w) g (fun _ _ _ => rfl) h
/-- The element with the number i. -/
theorem Sl.at_ {i : Nat} (h : Sl sz V w lo hi A xs) (hi' : i < xs.length) : ∃ b off cs, A = some ⟨b, off, none⟩ ∧ lo ≤ b ∧ b < hi ∧ cs.length = sz ∧ Cels w b (off + i * sz) cs ∧ V w lo hi cs xs[i] := by
  obtain ⟨b, off, e, h1, h2, hc⟩ := h (by omega)
  obtain ⟨cs, h3, h4, h5⟩ := hc i _ (List.getElem?_eq_getElem hi')
  exact ⟨b, off, cs, e, h1, h2, h3, h4, h5⟩
end

/-- A cell that is a slice with elements by V. -/
def vSl {α : Type} (sz : Nat) (V : Rep α) : Rep (List α) := fun w lo hi cs xs => ∃ A c, cs = [.slice A xs.length c] ∧ xs.length ≤ c ∧ c ≤ maxLen ∧ Sl sz V w lo hi A xs
theorem vSl_good {α : Type} {sz : Nat} {V : Rep α} (g : V.Good) : (vSl sz V).Good :=
  ⟨fun k ⟨A, c, hc, hn, hm, hs⟩ => ⟨A, c, hc, hn, hm, hs.keep g k⟩, fun h1 h2 ⟨A, c, hc, hn, hm, hs⟩ => ⟨A, c, hc, hn, hm, hs.wide g h1 h2⟩⟩

theorem below_drewN {B : Nat} {a w : World} (h : Below B a w) (n : Nat) : Below B a (w.drewN n) := ⟨h.os, h.tape, h.output, h.size, h.block⟩
theorem below_iter {B : Nat} {a w : World} (h : Below B a w) (hB : B ≤ w.heap.size) (s : ByteArray) (p : Nat) : Below B a (w.iter s p) := h.alloc hB _
theorem calls_flip {P : Program} {f : FuncId} {args : Array Value} {w : World} {v : Value} (h : Calls P f args w fun e w' => e = .returned v ∧ w' = w) : Calls P f args w fun e w' => e = .returned v ∧ w = w' :=
  h.mono fun _ _ ⟨a, b⟩ => ⟨a, b.symm⟩
theorem ret_of {k : IntKind} {a b : Int} (h : a = b) : Ending.returned (.int k a) = .returned (.int k b) := by rw [h]
theorem retb_of {a b : Bool} (h : a = b) : Ending.returned (.bool a) = .returned (.bool b) := by rw [h]
theorem bcell {B : Nat} {W w1 : World} (hb : Below B W w1) : (∀ b o, b < B → w1.cell? ⟨b, o, none⟩ = W.cell? ⟨b, o, none⟩) ∧ (∀ b o, b < B → w1.frozen? ⟨b, o, none⟩ = W.frozen? ⟨b, o, none⟩) :=
  ⟨fun b o h => hb.cell (p := ⟨b, o, none⟩) h, fun b o h => hb.frozen (p := ⟨b, o, none⟩) h⟩
end Go.Proofs.YtimhlnndobfehaaDoor
namespace Go.Proofs.YtimhlnndobfehaaDoor
open Go.RowKit
set_option linter.unusedVariables false

def slot (sz : Nat) (news : List Value) (i : Nat) : List Value := (news.drop (i * sz)).take sz

/-- The cells news hold the data xs, each in sz of them. -/
def Fits {α : Type} (sz : Nat) (V : Rep α) (w : World) (lo hi : Nat) (news : List Value) (xs : List α) : Prop :=
  news.length = xs.length * sz ∧ ∀ i x, xs[i]? = some x → V w lo hi (slot sz news i) x

section
variable {α : Type} {sz : Nat} {V : Rep α} {w w' : World} {lo hi : Nat} {A : Option Addr} {xs : List α} {news : List Value}
theorem Fits.nil : Fits sz V w lo hi [] [] := ⟨by simp, by simp⟩
theorem Fits.keep (g : V.Good) (k : Kp lo hi w w') (h : Fits sz V w lo hi news xs) : Fits sz V w' lo hi news xs := ⟨h.1, fun i x hx => g.keep k (h.2 i x hx)⟩
theorem Fits.wide {lo' hi' : Nat} (g : V.Good) (h1 : lo' ≤ lo) (h2 : hi ≤ hi') (h : Fits sz V w lo hi news xs) : Fits sz V w lo' hi' news xs := ⟨h.1, fun i x hx => g.wide h1 h2 (h.2 i x hx)⟩
theorem Fits.append {ys : List α} {more : List Value} (h : Fits sz V w lo hi news xs) (k : Fits sz V w lo hi more ys) : Fits sz V w lo hi (news ++ more) (xs ++ ys) := by
  refine ⟨by rw [List.length_append, List.length_append, h.1, k.1, Nat.add_mul], fun i x hx => ?_⟩
  by_cases hi' : i < xs.length
  · rw [List.getElem?_append_left hi'] at hx
    have e : slot sz (news ++ more) i = slot sz news i := by
      have hle : i * sz + sz ≤ news.length := by rw [h.1, ← Nat.succ_mul]; exact Nat.mul_le_mul_right _ hi'
      unfold slot
      rw [List.drop_append_of_le_length (by omega), List.take_append_of_le_length (by rw [List.length_drop]; omega)]
    rw [e]
    exact h.2 i x hx
  · rw [List.getElem?_append_right (by omega)] at hx
    have e : slot sz (news ++ more) i = slot sz more (i - xs.length) := by
      unfold slot
      have : i * sz = news.length + (i - xs.length) * sz := by rw [h.1, ← Nat.add_mul]; congr 1; omega
      rw [this, List.drop_append, List.drop_eq_nil_of_le (by omega), List.nil_append]
      congr 2
      omega
    rw [e]
    exact k.2 _ x hx
theorem Fits.one {cs : List Value} {x : α} (hl : cs.length = sz) (h : V w lo hi cs x) : Fits sz V w lo hi cs [x] := by
  refine ⟨by simp [hl], fun i y hy => ?_⟩
  match i, hy with
  | 0, hy =>
    simp at hy
    subst hy
    unfold slot
    rw [Nat.zero_mul, List.drop_zero, List.take_of_length_le (by omega)]
    exact h
theorem Fits.snoc {cs : List Value} {x : α} (h : Fits sz V w lo hi news xs) (hl : cs.length = sz) (k : V w lo hi cs x) : Fits sz V w lo hi (news ++ cs) (xs ++ [x]) := h.append (Fits.one hl k)

/-- A slice's cells, all of them. -/
theorem Sl.cells (h : Sl sz V w lo hi A xs) : ∃ news, Fits sz V w lo hi news xs ∧ ∀ ad, A = some ad → ∀ j u, news[j]? = some u → w.cell? (ad.add j) = some u := by
  rcases Nat.eq_zero_or_pos xs.length with h0 | h0
  · have : xs = [] := List.eq_nil_of_length_eq_zero h0
    subst this
    exact ⟨[], Fits.nil, fun _ _ j u hu => by simp at hu⟩
  · obtain ⟨b, off, rfl, h1, h2, hc⟩ := h h0
    suffices key : ∀ n, n ≤ xs.length → ∃ news, Fits sz V w lo hi news (xs.take n) ∧ ∀ j u, news[j]? = some u → w.cell? ⟨b, off + j, none⟩ = some u by
      obtain ⟨news, hf, hcell⟩ := key xs.length (Nat.le_refl _)
      rw [List.take_of_length_le (Nat.le_refl _)] at hf
      refine ⟨news, hf, fun ad had j u hu => ?_⟩
      injection had with had
      subst had
      rw [Addr.add_lit]
      exact hcell j u hu
    intro n
    induction n with
    | zero => exact fun _ => ⟨[], by rw [List.take_zero]; exact Fits.nil, fun j u hu => by simp at hu⟩
    | succ n ih =>
      intro hn
      obtain ⟨news, hf, hcell⟩ := ih (by omega)
      have hx : xs[n]? = some xs[n] := List.getElem?_eq_getElem (by omega)
      obtain ⟨cs, hl, hcs, hv⟩ := hc n _ hx
      refine ⟨news ++ cs, ?_, fun j u hu => ?_⟩
      · rw [List.take_succ_eq_append_getElem (by omega)]
        exact hf.snoc hl hv
      · have hnl : news.length = n * sz := by rw [hf.1, List.length_take, Nat.min_eq_left (by omega)]
        by_cases hj : j < news.length
        · rw [List.getElem?_append_left hj] at hu
          exact hcell j u hu
        · rw [List.getElem?_append_right (by omega)] at hu
          have := (hcs _ _ hu).1
          rwa [show off + n * sz + (j - news.length) = off + j by omega] at this

/-- What an owned row holds is a slice's data. -/
theorem own_sl {base : Nat} {e : TypeId} {v : Value} (hown : w.ownsRow base e sz v xs.length news) (hf : Fits sz V w lo hi news xs) (g : V.Good) (h1 : lo ≤ base) (h2 : hi ≤ w.heap.size) :
    ∃ A c, v = .slice A xs.length c ∧ xs.length ≤ c ∧ c ≤ maxLen ∧ Sl sz V w lo w.heap.size A xs := by
  rcases hown.2 with ⟨rfl, h0⟩ | ⟨gb, cap, cur, rfl, hb, hg, hnc, hcm, hcs, htake⟩
  · have : xs = [] := List.eq_nil_of_length_eq_zero h0
    subst this
    exact ⟨none, 0, rfl, Nat.le_refl _, by unfold maxLen; omega, Sl.nil _⟩
  · have hlt : gb < w.heap.size := (Array.getElem?_eq_some_iff.1 hg).1
    refine ⟨some ⟨gb, 0, none⟩, cap, rfl, hnc, hcm, fun _ => ⟨gb, 0, rfl, by omega, hlt, fun i x hx => ⟨slot sz news i, ?_, ?_, g.wide (Nat.le_refl _) h2 (hf.2 i x hx)⟩⟩⟩
    · have hi' : i < xs.length := (List.getElem?_eq_some_iff.1 hx).1
      have : i * sz + sz ≤ news.length := by rw [hf.1, ← Nat.succ_mul]; exact Nat.mul_le_mul_right _ hi'
      unfold slot
      rw [List.length_take, List.length_drop]
      omega
    · intro j u hu
      have hcell := hown.cells (g := gb) rfl (i * sz + j) u (by
        unfold slot at hu
        rw [List.getElem?_take] at hu
        split at hu
        · rwa [List.getElem?_drop] at hu
        · cases hu)
      rw [Addr.add_lit] at hcell
      refine ⟨by rw [show 0 + i * sz + j = 0 + (i * sz + j) by omega]; exact hcell, ?_⟩
      unfold World.frozen?
      rw [hg]
      simp
end

section
variable {P : Program} {α : Type} {sz : Nat} {V : Rep α} (w : World)
/-- append(nil, xs...): a copy. -/
theorem run_append_copy {lo hi : Nat} {A : Option Addr} {c : Nat} {xs : List α} (t ty e : TypeId) (i : TypeInfo) (z : Value) (bytes : Nat) (ht : P.underlying t = some (.slice e)) (hi0 : P.info? e = some i) (hz : i.zero = some z)
    (hsize : i.size = sz) (hby : i.bytes = bytes) (hzs : z.cells.size = sz) (hsz : 0 < sz) (h : Sl sz V w lo hi A xs) (hlo : lo ≤ w.heap.size) (hhi : hi ≤ w.heap.size) (g : V.Good)
    (h1 : ∀ cs x, V w lo hi cs x → ∀ u ∈ cs, u.oneCell' = true) (h63 : xs.length ≤ maxLen) (hbytes : xs.length * bytes ≤ 140737488355328) :
    ∃ A' c' w', (Builtin.append_ #[t, t] ty #[.slice none 0 0, .slice A xs.length c]).run P w = .ok (.slice A' xs.length c') w' ∧ Below w.heap.size w w' ∧ xs.length ≤ c' ∧ c' ≤ maxLen ∧ Sl sz V w' lo w'.heap.size A' xs ∧
      (∃ news, w'.ownsRow w.heap.size e sz (.slice A' xs.length c') xs.length news ∧ Fits sz V w' lo hi news xs) := by
  obtain ⟨news, hf, hcells⟩ := h.cells
  have hone : ∀ u ∈ news, u.oneCell' = true := by
    intro u hu
    obtain ⟨j, hj, rfl⟩ := List.getElem_of_mem hu
    have hjl : j / sz < xs.length := Nat.div_lt_of_lt_mul (by rw [Nat.mul_comm]; rw [hf.1] at hj; exact hj)
    refine h1 _ _ (hf.2 (j / sz) _ (List.getElem?_eq_getElem hjl)) _ ?_
    unfold slot
    rw [List.mem_take_iff_getElem]
    have hm : j % sz < sz := Nat.mod_lt _ hsz
    have hd := Nat.div_add_mod j sz
    rw [Nat.mul_comm] at hd
    refine ⟨j % sz, by rw [List.length_drop]; omega, ?_⟩
    rw [List.getElem_drop]
    congr 1
  rcases A with _ | ad
  · have h0 : xs = [] := by
      rcases Nat.eq_zero_or_pos xs.length with h0 | h0
      · exact List.eq_nil_of_length_eq_zero h0
      · obtain ⟨_, _, e, _⟩ := h h0
        cases e
    subst h0
    refine ⟨none, 0, w, ?_, Below.refl _ _, Nat.le_refl _, by unfold maxLen; omega, Sl.nil _, [], World.ownsRow_nil _ _ _ _, Fits.nil⟩
    simp [Builtin.append_, run_underlying ht, sizeOf, typeInfo, hi0, Builtin.lenOf, Builtin.firstCells]
  · obtain ⟨v', w', hr, hown, hg, _⟩ := run_append_own (P := P) w w.heap.size t ty e i z sz bytes ht hi0 hz hsize hby hzs hsz (.slice none 0 0) 0 [] (World.ownsRow_nil _ _ _ _) ad xs.length c news hf.1 (hcells ad rfl) hone (by omega) (by rw [Nat.zero_add]; exact hbytes) (Nat.le_refl _)
    have hb : Below w.heap.size w w' := (Below.refl _ _).grown hg (Nat.le_refl _) (by simp [Value.ownBlock])
    rw [Nat.zero_add, List.nil_append] at hown
    have hf' : Fits sz V w' lo hi news xs := hf.keep g ((Kp.of_below hb).mono (Nat.le_refl _) hhi)
    obtain ⟨A', c', rfl, h2, h3, h4⟩ := own_sl hown hf' g hlo (by have := hb.size; omega)
    exact ⟨A', c', w', hr, hb, h2, h3, h4, news, hown, hf'⟩

theorem wpList_append_copy {ops : Array Oper} {rest : List Oper} {o : Oper} {a : Act} {Q : Exit → Act → World → Prop} (hgd : o.guard = none) (s x : Operand) (t : TypeId)
    (ho : o.op = .call { callee := .builtin .append, args := #[s, x], argTypes := #[t, t] })
    {lo hi : Nat} {A : Option Addr} {c : Nat} {xs : List α} (e : TypeId) (i : TypeInfo) (z : Value) (bytes : Nat) (ht : P.underlying t = some (.slice e)) (hi0 : P.info? e = some i) (hz : i.zero = some z)
    (hsize : i.size = sz) (hby : i.bytes = bytes) (hzs : z.cells.size = sz) (hsz : 0 < sz) (hs : a.eval s = .slice none 0 0) (hx : a.eval x = .slice A xs.length c)
    (h : Sl sz V w lo hi A xs) (hlo : lo ≤ w.heap.size) (hhi : hi ≤ w.heap.size) (g : V.Good)
    (h1 : ∀ cs x, V w lo hi cs x → ∀ u ∈ cs, u.oneCell' = true) (h63 : xs.length ≤ maxLen) (hbytes : xs.length * bytes ≤ 140737488355328)
    (hk : ∀ A' c' w', Below w.heap.size w w' → xs.length ≤ c' → c' ≤ maxLen → Sl sz V w' lo w'.heap.size A' xs → (∃ news, w'.ownsRow w.heap.size e sz (.slice A' xs.length c') xs.length news ∧ Fits sz V w' lo hi news xs) →
      wpList P ops Q rest (a.put o.dst (.slice A' xs.length c')) w') : wpList P ops Q (o :: rest) a w := by
  refine wpList_plain hgd fun K hK => ?_
  obtain ⟨A', c', w', hr, h2, h3, h4, h5, h6⟩ := run_append_copy (P := P) (c := c) w t o.type e i z bytes ht hi0 hz hsize hby hzs hsz h hlo hhi g h1 h63 hbytes
  unfold Oper.wp execOp
  simp only [ho, resolve, invoke, builtin, Sem.run_bind, Sem.run_pure, Result.andThen_ok, List.map_toArray, List.map_cons, List.map_nil, hs, hx, hr]
  exact hK _ _ (hk A' c' w' h2 h3 h4 h5 h6)
end
end Go.Proofs.YtimhlnndobfehaaDoor
