/- Texts of this claim, joined: The machine is right, operation by operation (4): memory. -/
import Derived.Below
import Derived.Laws.Cells
import Derived.Laws.IdiomCopy
import Derived.MapKept
import Derived.Laws.StructEq
import Derived.Lib.SliceRun
import Derived.Laws.Tables
/- An abstract machine: values without addresses, what they stand for in memory. -/
namespace Go.Proofs.YtkpfkadjmijmlaaGreatDoor.M
open Go.RowKit
set_option linter.unusedVariables false
set_option linter.unusedSimpArgs false

/-- Values: a list stands for a slice whose cells stay; ptr is a variable's address; pel an element's of a list; sl a slice of an array that may change; nils a nil slice that is known to be one (in what is stored next alone). -/
inductive AVal where
  | int (k : IntKind) (n : Int)
  | bool (b : Bool)
  | str (s : ByteArray)
  | agg (cs : List AVal)
  | lst (xs : List AVal)
  | tup (vs : List AVal)
  | ptr (id off : Nat)
  | pel (e : AVal) (off : Nat)
  | map (id : Nat)
  | sl (id off len sz : Nat) (ag : Bool)
  | clo (f : FuncId) (fs cs : List AVal)
  | nilp | nilf | nilm | nils | bad
  deriving Inhabited

def AVal.one : AVal → Bool
  | .agg _ | .tup _ | .bad => false
  | _ => true
def AVal.flat : AVal → List AVal
  | .agg cs => cs
  | v => [v]
def flats (xs : List AVal) : List AVal := xs.flatMap AVal.flat
abbrev Cell := AVal × Bool
inductive ABlk where
  | cells (cs : List Cell)
  | map (es : List (AVal × AVal))
  deriving Inhabited
abbrev Heap := List (Nat × ABlk)
def hget : Heap → Nat → Option ABlk
  | [], _ => none
  | (i, b) :: h, id => if id = i then some b else hget h id
def hset : Heap → Nat → ABlk → Heap
  | [], _, _ => []
  | (i, b) :: h, id, v => if id = i then (i, v) :: h else (i, b) :: hset h id v

def hdel (h : Heap) (id : Nat) : Heap := h.filter fun p => p.1 != id
def hlow (n : Nat) (h : Heap) : Heap := h.filter fun p => decide (p.1 < n)

structure Cx where
  ι : Nat → Nat
  I : Nat → Nat → Prop
  nx : Nat
  w : World

/-- v stands for cv. -/
inductive RV (C : Cx) : AVal → Value → Prop where
  | int (k : IntKind) (n : Int) : RV C (.int k n) (.int k n)
  | bool (b : Bool) : RV C (.bool b) (.bool b)
  | str (s : ByteArray) : RV C (.str s) (.string s)
  | agg (cs : List AVal) (vs : List Value) (hl : vs.length = cs.length) (h1 : ∀ a, a ∈ cs → a.one = true) (h : ∀ (i : Nat) a v, cs[i]? = some a → vs[i]? = some v → RV C a v) : RV C (.agg cs) (.agg vs.toArray)
  | lst (xs : List AVal) (A : Option Addr) (c sz : Nat) (cu : Nat → Value) (hc : xs.length ≤ c) (hz : xs ≠ [] → 0 < sz) (hs : ∀ x, x ∈ xs → x.flat.length = sz) (h1 : ∀ u, u ∈ flats xs → u.one = true)
      (hm : ∀ (i : Nat) u, (flats xs)[i]? = some u → ∃ b o, A = some ⟨b, o, none⟩ ∧ C.I b (o + i) ∧ C.w.cell? ⟨b, o + i, none⟩ = some (cu i)) (h : ∀ (i : Nat) u, (flats xs)[i]? = some u → RV C u (cu i)) : RV C (.lst xs) (.slice A xs.length c)
  | tup (cs : List AVal) (vs : List Value) (hl : vs.length = cs.length) (h : ∀ (i : Nat) a v, cs[i]? = some a → vs[i]? = some v → RV C a v) : RV C (.tup cs) (.tuple vs.toArray)
  | ptr (id off : Nat) (h : id < C.nx) : RV C (.ptr id off) (.pointer (some ⟨C.ι id, off, none⟩))
  | pel (e : AVal) (off b o : Nat) (cu : Nat → Value) (h1 : ∀ u, u ∈ e.flat → u.one = true) (hm : ∀ (i : Nat) u, e.flat[i]? = some u → C.I b (o + i) ∧ C.w.cell? ⟨b, o + i, none⟩ = some (cu i)) (h : ∀ (i : Nat) u, e.flat[i]? = some u → RV C u (cu i)) :
      RV C (.pel e off) (.pointer (some ⟨b, o + off, none⟩))
  | map (id : Nat) (h : id < C.nx) : RV C (.map id) (.map (some (C.ι id)))
  | sl (id off len sz c : Nat) (ag : Bool) (h : id < C.nx) (hc : len ≤ c) (hx : ∀ o, o < off + c * sz → ∃ u, C.w.cell? ⟨C.ι id, o, none⟩ = some u) : RV C (.sl id off len sz ag) (.slice (some ⟨C.ι id, off, none⟩) len c)
  | clo (f : FuncId) (fs cs : List AVal) (fv cv : List Value) (hf : fv.length = fs.length) (hl : cv.length = cs.length) (h : ∀ (i : Nat) a v, fs[i]? = some a → fv[i]? = some v → RV C a v) (h' : ∀ (i : Nat) a v, cs[i]? = some a → cv[i]? = some v → RV C a v) :
      RV C (.clo f fs cs) (.func (.func f) fv.toArray cv.toArray)
  | nilp : RV C .nilp (.pointer none)
  | nilf : RV C .nilf .nilFunc
  | nilm : RV C .nilm (.map none)
  | nils : RV C .nils (.slice none 0 0)
  | bad (v : Value) : RV C .bad v

structure Cx.Le (C D : Cx) : Prop where
  nx : C.nx ≤ D.nx
  map : ∀ i, i < C.nx → D.ι i = C.ι i
  imm : ∀ b o, C.I b o → D.I b o
  cell : ∀ b o, C.I b o → D.w.cell? ⟨b, o, none⟩ = C.w.cell? ⟨b, o, none⟩
  ex : ∀ b o u, C.w.cell? ⟨b, o, none⟩ = some u → ∃ u', D.w.cell? ⟨b, o, none⟩ = some u'
theorem Cx.Le.refl (C : Cx) : C.Le C := ⟨Nat.le_refl _, fun _ _ => rfl, fun _ _ h => h, fun _ _ _ => rfl, fun _ _ u h => ⟨u, h⟩⟩
theorem Cx.Le.trans {A B C : Cx} (h : A.Le B) (k : B.Le C) : A.Le C :=
  ⟨Nat.le_trans h.nx k.nx, fun i hi => (k.map i (Nat.lt_of_lt_of_le hi h.nx)).trans (h.map i hi), fun b o hb => k.imm b o (h.imm b o hb), fun b o hb => (k.cell b o (h.imm b o hb)).trans (h.cell b o hb), fun b o u hu => let ⟨u', hu'⟩ := h.ex b o u hu; k.ex b o u' hu'⟩

theorem RV.mono {C D : Cx} (hle : C.Le D) {v : AVal} {cv : Value} (h : RV C v cv) : RV D v cv := by
  induction h with
  | int k n => exact .int k n
  | bool b => exact .bool b
  | str s => exact .str s
  | agg cs vs hl h1 h ih => exact .agg cs vs hl h1 ih
  | lst xs A c sz cu hc hz hs h1 hm h ih =>
    refine .lst xs A c sz cu hc hz hs h1 (fun i u hu => ?_) ih
    obtain ⟨b, o, e, hi, hcell⟩ := hm i u hu
    exact ⟨b, o, e, hle.imm _ _ hi, (hle.cell _ _ hi).trans hcell⟩
  | tup cs vs hl h ih => exact .tup cs vs hl ih
  | ptr id off hid => rw [← hle.map id hid]; exact .ptr id off (Nat.lt_of_lt_of_le hid hle.nx)
  | pel e off b o cu h1 hm h ih =>
    refine .pel e off b o cu h1 (fun i u hu => ?_) ih
    obtain ⟨hi, hcell⟩ := hm i u hu
    exact ⟨hle.imm _ _ hi, (hle.cell _ _ hi).trans hcell⟩
  | map id hid => rw [← hle.map id hid]; exact .map id (Nat.lt_of_lt_of_le hid hle.nx)
  | sl id off len sz c ag hid hc hx =>
    rw [← hle.map id hid]
    refine .sl id off len sz c ag (Nat.lt_of_lt_of_le hid hle.nx) hc fun o ho => ?_
    obtain ⟨u, hu⟩ := hx o ho
    rw [hle.map id hid]
    exact hle.ex _ _ u hu
  | clo f fs cs fv cv hf hl h h' ih ih' => exact .clo f fs cs fv cv hf hl ih ih'
  | nilp => exact .nilp
  | nilf => exact .nilf
  | nilm => exact .nilm
  | nils => exact .nils
  | bad v => exact .bad v

def AVal.nilL : AVal → Bool
  | .lst [] => true
  | _ => false
theorem nilL_eq {v : AVal} (h : v.nilL = true) : v = .lst [] := by
  unfold AVal.nilL at h
  split at h
  · rfl
  · cases h
/-- The free room behind a list. -/
def Tail (v : AVal) (cv : Value) (b o : Nat) : Prop := ∃ xs a n c x r, v = .lst xs ∧ cv = .slice (some a) n c ∧ xs = x :: r ∧ b = a.block ∧ a.off + (flats xs).length ≤ o ∧ o < a.off + c * x.flat.length

structure St where
  tm : List Cell
  nx : Nat
  hp : Heap

/-- What is owned: a variable's list with the room behind it. -/
def Owned (C : Cx) (hp : Heap) (tm : List Cell) (ct : Array Value) : Nat × Nat → AVal → Value → Prop
  | (0, t), v, cv => tm[t]? = some (v, true) ∧ ct[t]? = some cv
  | (id + 1, i), v, cv => ∃ cs vs ty, hget hp id = some (.cells cs) ∧ cs[i]? = some (v, true) ∧ C.w.heap[C.ι id]? = some (.cells vs ty (0, 0)) ∧ vs[i]? = some cv

structure OwnOk (C : Cx) (B : Nat) (F : Nat → Nat → Prop) (hp : Heap) (v : AVal) (cv : Value) : Prop where
  form : ∃ xs A n c, v = .lst xs ∧ cv = .slice A n c ∧ (xs = [] → c = 0)
  cells : ∀ b o, Tail v cv b o → B ≤ b ∧ ¬ C.I b o ∧ ¬ F b o ∧ (∀ id, (hget hp id).isSome = true → b ≠ C.ι id) ∧ (∃ u, C.w.cell? ⟨b, o, none⟩ = some u) ∧ C.w.frozen? ⟨b, o, none⟩ = false

/-- A map's entries, in the order in which they came. -/
def MapRel (C : Cx) (id : Nat) (es : List (AVal × AVal)) : Prop := ∃ (ents : Array MapEntry) (clk : Nat), C.w.heap[C.ι id]? = some (.map ents clk) ∧ ents.size = es.length ∧ MapKept.Stamped ents clk ∧ ∀ (i : Nat) (p : AVal × AVal), es[i]? = some p → ∃ x, ents[i]? = some x ∧ RV C p.1 x.key ∧ RV C p.2 x.val
theorem MapRel.mono {C D : Cx} {id : Nat} {es : List (AVal × AVal)} (h : MapRel C id es) (le : C.Le D) (e : D.w.heap[D.ι id]? = C.w.heap[C.ι id]?) : MapRel D id es := by
  obtain ⟨ents, clk, h1, h2, hst, h3⟩ := h
  refine ⟨ents, clk, e.trans h1, h2, hst, fun i p hp => ?_⟩
  obtain ⟨x, q1, q2, q3⟩ := h3 i p hp
  exact ⟨x, q1, q2.mono le, q3.mono le⟩
structure HOk (C : Cx) (B : Nat) (F : Nat → Nat → Prop) (w0 : World) (hp : Heap) : Prop where
  below : Below B w0 C.w
  base : B ≤ w0.heap.size
  ids : ∀ id, (hget hp id).isSome = true → id < C.nx
  blk : ∀ id cs, hget hp id = some (.cells cs) → ∃ vs ty, C.w.heap[C.ι id]? = some (.cells vs ty (0, 0)) ∧ cs.length ≤ vs.size ∧ ∀ (i : Nat) (c : Cell), cs[i]? = some c → c.1.one = true ∧ ∃ v, vs[i]? = some v ∧ RV C c.1 v
  inj : ∀ i j, (hget hp i).isSome = true → (hget hp j).isSome = true → C.ι i = C.ι j → i = j
  out : ∀ i, (hget hp i).isSome = true → B ≤ C.ι i ∧ C.ι i < C.w.heap.size ∧ ∀ o, ¬ C.I (C.ι i) o ∧ ¬ F (C.ι i) o
  imm : ∀ b o, C.I b o → ∃ u, C.w.cell? ⟨b, o, none⟩ = some u
  far : ∀ b o, F b o → (∃ u, C.w.cell? ⟨b, o, none⟩ = some u) ∧ C.w.frozen? ⟨b, o, none⟩ = false ∧ ¬ C.I b o
  mapb : ∀ id es, hget hp id = some (.map es) → MapRel C id es

structure WRel (C : Cx) (B : Nat) (F : Nat → Nat → Prop) (w0 : World) (hp : Heap) (tm : List Cell) (ct : Array Value) : Prop where
  heap : HOk C B F w0 hp
  size : ct.size = tm.length
  tmp : ∀ (t : Nat) (c : Cell), tm[t]? = some c → ∃ v, ct[t]? = some v ∧ RV C c.1 v
  own : ∀ k v cv, Owned C hp tm ct k v cv → OwnOk C B F hp v cv
  sep : ∀ k1 k2 v1 c1 v2 c2, Owned C hp tm ct k1 v1 c1 → Owned C hp tm ct k2 v2 c2 → k1 ≠ k2 → ∀ b o, Tail v1 c1 b o → ¬ Tail v2 c2 b o

/-- The slots change: what is owned was owned, under another key perhaps. -/
theorem WRel.slots {C : Cx} {B : Nat} {F : Nat → Nat → Prop} {w0 : World} {hp : Heap} {tm tm' : List Cell} {ct ct' : Array Value} (h : WRel C B F w0 hp tm ct) (hs : ct'.size = tm'.length)
    (ht : ∀ (t : Nat) (c : Cell), tm'[t]? = some c → ∃ v, ct'[t]? = some v ∧ RV C c.1 v) (g : Nat → Nat) (hg : ∀ t v cv, tm'[t]? = some (v, true) → ct'[t]? = some cv → tm[g t]? = some (v, true) ∧ ct[g t]? = some cv)
    (hi : ∀ t t' v v' , tm'[t]? = some (v, true) → tm'[t']? = some (v', true) → g t = g t' → t = t') : WRel C B F w0 hp tm' ct' := by
  have key : ∀ k v cv, Owned C hp tm' ct' k v cv → Owned C hp tm ct (match k with | (0, t) => (0, g t) | k => k) v cv := by
    intro k v cv ho
    obtain ⟨i, t⟩ := k
    cases i with
    | zero => exact hg t v cv ho.1 ho.2
    | succ i => exact ho
  refine ⟨h.heap, hs, ht, fun k v cv ho => h.own _ v cv (key k v cv ho), fun k1 k2 v1 c1 v2 c2 h1 h2 hne => h.sep _ _ v1 c1 v2 c2 (key _ _ _ h1) (key _ _ _ h2) ?_⟩
  obtain ⟨i, t⟩ := k1
  obtain ⟨i', t'⟩ := k2
  intro e
  apply hne
  cases i with
  | zero =>
    cases i' with
    | zero =>
      have e' : g t = g t' := by simpa using e
      rw [hi t t' v1 v2 h1.1 h2.1 e']
    | succ i' => simp at e
  | succ i =>
    cases i' with
    | zero => simp at e
    | succ i' => exact e
end Go.Proofs.YtkpfkadjmijmlaaGreatDoor.M
/- The machine's state and the world: new blocks, stores. -/
namespace Go.Proofs.YtkpfkadjmijmlaaGreatDoor.M
open Go.RowKit
set_option linter.unusedVariables false
set_option linter.unusedSimpArgs false

theorem cell_lt {w : World} {b o : Nat} {u : Value} (h : w.cell? ⟨b, o, none⟩ = some u) : b < w.heap.size := World.block_lt_of_cell? w _ h
theorem hget_hset (h : Heap) (id : Nat) (v : ABlk) (j : Nat) : hget (hset h id v) j = if j = id then (if (hget h id).isSome = true then some v else none) else hget h j := by
  induction h with
  | nil => simp [hset, hget]
  | cons p h ih =>
    obtain ⟨i, b⟩ := p
    by_cases e : id = i
    · subst e
      by_cases ej : j = id
      · subst ej; simp [hset, hget]
      · simp [hset, hget, ej]
    · by_cases ej : j = i
      · subst ej
        simp [hset, hget, e]
        intro h'; exact absurd h'.symm e
      · simp only [hset, hget, if_neg e, if_neg ej]
        rw [ih]

section
variable {C D : Cx} {B : Nat} {F : Nat → Nat → Prop} {w0 : World} {hp : Heap} {tm : List Cell} {ct : Array Value}

/-- All blocks that were there stay as they were; lists may have been made in new ones. -/
structure Grow (C D : Cx) : Prop where
  below : Below C.w.heap.size C.w D.w
  nx : C.nx ≤ D.nx
  map : ∀ i, i < C.nx → D.ι i = C.ι i
  imm : ∀ b o, C.I b o → D.I b o
  new : ∀ b o, D.I b o → C.I b o ∨ C.w.heap.size ≤ b
  newc : ∀ b o, D.I b o → C.w.heap.size ≤ b → ∃ u, D.w.cell? ⟨b, o, none⟩ = some u

theorem Grow.cell (h : Grow C D) {b o : Nat} (hb : b < C.w.heap.size) : D.w.cell? ⟨b, o, none⟩ = C.w.cell? ⟨b, o, none⟩ := h.below.cell (p := ⟨b, o, none⟩) hb
theorem Grow.frozen (h : Grow C D) {b o : Nat} (hb : b < C.w.heap.size) : D.w.frozen? ⟨b, o, none⟩ = C.w.frozen? ⟨b, o, none⟩ := h.below.frozen (p := ⟨b, o, none⟩) hb
theorem HOk.le (h : HOk C B F w0 hp) (g : Grow C D) : C.Le D := by
  refine ⟨g.nx, g.map, g.imm, fun b o hb => ?_, fun b o u hu => ⟨u, (g.cell (cell_lt hu)).trans hu⟩⟩
  obtain ⟨u, hu⟩ := h.imm b o hb
  exact g.cell (cell_lt hu)
theorem HOk.grow (h : HOk C B F w0 hp) (g : Grow C D) : HOk D B F w0 hp := by
  have le := h.le g
  have hB : B ≤ C.w.heap.size := Nat.le_trans h.base h.below.size
  have hι : ∀ i, (hget hp i).isSome = true → D.ι i = C.ι i := fun i hi => g.map i (h.ids i hi)
  refine ⟨h.below.trans (g.below.mono hB), h.base, fun i hi => Nat.lt_of_lt_of_le (h.ids i hi) g.nx, fun id cs hc => ?_, fun i j hi hj e => ?_, fun i hi => ?_, fun b o hb => ?_, fun b o hb => ?_, fun id es hg => (h.mapb id es hg).mono le (by
    have hs : (hget hp id).isSome = true := by rw [hg]; rfl
    rw [hι id hs, g.below.block _ (h.out id hs).2.1])⟩
  · obtain ⟨vs, ty, h1, h2, h3⟩ := h.blk id cs hc
    have hs : (hget hp id).isSome = true := by rw [hc]; rfl
    refine ⟨vs, ty, ?_, h2, fun i c hi => ?_⟩
    · rw [hι id hs, g.below.block _ (h.out id hs).2.1]; exact h1
    · obtain ⟨h4, v, h5, h6⟩ := h3 i c hi
      exact ⟨h4, v, h5, h6.mono le⟩
  · rw [hι i hi, hι j hj] at e
    exact h.inj i j hi hj e
  · obtain ⟨h1, h2, h3⟩ := h.out i hi
    rw [hι i hi]
    refine ⟨h1, Nat.lt_of_lt_of_le h2 g.below.size, fun o => ⟨fun hI => ?_, (h3 o).2⟩⟩
    rcases g.new _ _ hI with h4 | h4
    · exact (h3 o).1 h4
    · omega
  · rcases g.new _ _ hb with h4 | h4
    · obtain ⟨u, hu⟩ := h.imm b o h4
      exact ⟨u, (g.cell (cell_lt hu)).trans hu⟩
    · exact g.newc b o hb h4
  · obtain ⟨⟨u, hu⟩, h1, h2⟩ := h.far b o hb
    refine ⟨⟨u, (g.cell (cell_lt hu)).trans hu⟩, (g.frozen (cell_lt hu)).trans h1, fun hI => ?_⟩
    rcases g.new _ _ hI with h4 | h4
    · exact h2 h4
    · have := cell_lt hu; omega
theorem OwnOk.grow {v : AVal} {cv : Value} (k : OwnOk C B F hp v cv) (h : HOk C B F w0 hp) (g : Grow C D) : OwnOk D B F hp v cv := by
  refine ⟨k.form, fun b o ht => ?_⟩
  obtain ⟨h1, h2, h3, h4, ⟨u, h5⟩, h6⟩ := k.cells b o ht
  have hlt := cell_lt h5
  refine ⟨h1, fun hI => ?_, h3, fun id hid => ?_, ⟨u, (g.cell hlt).trans h5⟩, (g.frozen hlt).trans h6⟩
  · rcases g.new _ _ hI with h7 | h7
    · exact h2 h7
    · omega
  · rw [g.map id (h.ids id hid)]; exact h4 id hid
theorem Owned.back (h : HOk C B F w0 hp) (g : Grow C D) {k : Nat × Nat} {v : AVal} {cv : Value} (ho : Owned D hp tm ct k v cv) : Owned C hp tm ct k v cv := by
  obtain ⟨i, t⟩ := k
  cases i with
  | zero => exact ho
  | succ id =>
    obtain ⟨cs, vs, ty, h1, h2, h3, h4⟩ := ho
    have hs : (hget hp id).isSome = true := by rw [h1]; rfl
    rw [g.map id (h.ids id hs), g.below.block _ (h.out id hs).2.1] at h3
    exact ⟨cs, vs, ty, h1, h2, h3, h4⟩
theorem WRel.grow (h : WRel C B F w0 hp tm ct) (g : Grow C D) : WRel D B F w0 hp tm ct :=
  ⟨h.heap.grow g, h.size, fun t c ht => let ⟨v, h1, h2⟩ := h.tmp t c ht; ⟨v, h1, h2.mono (h.heap.le g)⟩,
    fun k v cv ho => (h.own k v cv (ho.back h.heap g)).grow h.heap g, fun k1 k2 v1 c1 v2 c2 h1 h2 => h.sep k1 k2 v1 c1 v2 c2 (h1.back h.heap g) (h2.back h.heap g)⟩

/-- A slot is written. -/
theorem WRel.put (h : WRel C B F w0 hp tm ct) (d : Nat) {v : AVal} {cv : Value} (hv : RV C v cv) : WRel C B F w0 hp (tm.set d (v, false)) (ct.setIfInBounds d cv) := by
  refine h.slots (by simp [h.size]) (fun t c ht => ?_) id (fun t v' cv' ht hc => ?_) (fun t t' _ _ _ _ e => e)
  · rw [List.getElem?_set] at ht
    by_cases e : d = t
    · subst e
      rw [if_pos rfl] at ht
      split at ht
      · rename_i hl
        injection ht with ht; subst ht
        exact ⟨cv, by simp [Array.getElem?_setIfInBounds, h.size, hl], hv⟩
      · cases ht
    · rw [if_neg e] at ht
      obtain ⟨v', h1, h2⟩ := h.tmp t c ht
      exact ⟨v', by rw [Array.getElem?_setIfInBounds, if_neg e]; exact h1, h2⟩
  · rw [List.getElem?_set] at ht
    by_cases e : d = t
    · subst e
      rw [if_pos rfl] at ht
      split at ht <;> simp at ht
    · rw [if_neg e] at ht
      rw [Array.getElem?_setIfInBounds, if_neg e] at hc
      exact ⟨ht, hc⟩
/-- A slot is written that owns: the value owned is new, or another slot's that gives it up. -/
theorem WRel.puts (h : WRel C B F w0 hp tm ct) (d s : Nat) {v : AVal} {cv : Value} (hs : tm[s]? = some (v, true)) (hcs : ct[s]? = some cv) : WRel C B F w0 hp ((tm.set s (v, false)).set d (v, true)) (ct.setIfInBounds d cv) := by
  obtain ⟨cv', h1, hv⟩ := h.tmp s _ hs
  rw [hcs] at h1; injection h1 with h1; subst h1
  have hsl : s < tm.length := (List.getElem?_eq_some_iff.1 hs).1
  have get : ∀ t c, ((tm.set s (v, false)).set d (v, true))[t]? = some c → (t = d ∧ c = (v, true)) ∨ (t ≠ d ∧ t = s ∧ c = (v, false)) ∨ (t ≠ d ∧ t ≠ s ∧ tm[t]? = some c) := by
    intro t c ht
    rw [List.getElem?_set] at ht
    by_cases e : d = t
    · subst e
      rw [if_pos rfl] at ht
      split at ht
      · injection ht with ht; exact .inl ⟨rfl, ht.symm⟩
      · cases ht
    · rw [if_neg e, List.getElem?_set] at ht
      by_cases e' : s = t
      · subst e'
        rw [if_pos rfl, if_pos hsl] at ht
        injection ht with ht
        exact .inr (.inl ⟨fun h => e h.symm, rfl, ht.symm⟩)
      · rw [if_neg e'] at ht
        exact .inr (.inr ⟨fun h => e h.symm, fun h => e' h.symm, ht⟩)
  have getc : ∀ (t : Nat), t ≠ d → (ct.setIfInBounds d cv)[t]? = ct[t]? := fun t ht => by rw [Array.getElem?_setIfInBounds, if_neg (fun e => ht e.symm)]
  have getd : ∀ c, ((tm.set s (v, false)).set d (v, true))[d]? = some c → (ct.setIfInBounds d cv)[d]? = some cv := by
    intro c hc
    have hl := (List.getElem?_eq_some_iff.1 hc).1
    simp at hl
    simp [Array.getElem?_setIfInBounds, h.size, hl]
  refine h.slots (by simp [h.size]) (fun t c ht => ?_) (fun t => if t = d then s else t) (fun t v' cv' ht hc => ?_) (fun t t' v1 v2 ht ht' e => ?_)
  · rcases get t c ht with ⟨rfl, rfl⟩ | ⟨hd, rfl, rfl⟩ | ⟨hd, hne, hc⟩
    · exact ⟨cv, getd _ ht, hv⟩
    · exact ⟨cv, by rw [getc _ hd]; exact hcs, hv⟩
    · obtain ⟨v', h1, h2⟩ := h.tmp t c hc
      exact ⟨v', by rw [getc _ hd]; exact h1, h2⟩
  · rcases get t _ ht with ⟨rfl, e⟩ | ⟨hd, rfl, e⟩ | ⟨hd, hne, h3⟩
    · simp at e; subst e
      rw [getd _ ht] at hc
      injection hc with hc; subst hc
      simp [hs, hcs]
    · simp at e
    · rw [if_neg hd]
      exact ⟨h3, by rw [getc _ hd] at hc; exact hc⟩
  · rcases get t _ ht with ⟨rfl, _⟩ | ⟨hd, rfl, e1⟩ | ⟨hd, hne, h3⟩
    · rcases get t' _ ht' with ⟨rfl, _⟩ | ⟨hd', rfl, e2⟩ | ⟨hd', hne', h3'⟩
      · rfl
      · simp at e2
      · rw [if_pos rfl, if_neg hd'] at e; exact absurd e.symm hne'
    · simp at e1
    · rcases get t' _ ht' with ⟨rfl, _⟩ | ⟨hd', rfl, e2⟩ | ⟨hd', hne', h3'⟩
      · rw [if_neg hd, if_pos rfl] at e; exact absurd e hne
      · simp at e2
      · rw [if_neg hd, if_neg hd'] at e; exact e
end
end Go.Proofs.YtkpfkadjmijmlaaGreatDoor.M
/- The machine's state and the world: variables and literals are made, variables are written. -/
namespace Go.Proofs.YtkpfkadjmijmlaaGreatDoor.M
open Go.RowKit
set_option linter.unusedVariables false
set_option linter.unusedSimpArgs false

theorem alloc_at (w : World) (o : Obj) : (w.alloc o).heap[w.heap.size]? = some o := by
  show (w.heap.push o)[w.heap.size]? = _
  simp
theorem below_alloc' (w : World) (o : Obj) : Below w.heap.size w (w.alloc o) := (Below.refl _ _).alloc (Nat.le_refl _) o
section
variable {C : Cx} {B : Nat} {F : Nat → Nat → Prop} {w0 : World} {hp : Heap} {tm : List Cell} {ct : Array Value}

/-- Nothing is owned but what is bare: nil. -/
def Bare (c : Cell) (v : Value) : Prop := c.2 = true → c.1 = .lst [] ∧ v = .slice none 0 0

def Cx.track (C : Cx) (vs : Array Value) (ty : TypeId) : Cx := { ι := fun i => if i = C.nx then C.w.heap.size else C.ι i, I := C.I, nx := C.nx + 1, w := C.w.alloc (.cells vs ty (0, 0)) }
theorem HOk.grow_track (h : HOk C B F w0 hp) (vs : Array Value) (ty : TypeId) : Grow C (C.track vs ty) :=
  ⟨below_alloc' _ _, Nat.le_succ _, fun i hi => by simp [Cx.track]; omega, fun _ _ h => h, fun _ _ h => .inl h, fun b o hI hb => by
    obtain ⟨u, hu⟩ := h.imm b o hI
    have := cell_lt hu
    omega⟩
/-- A new variable. -/
theorem WRel.track (h : WRel C B F w0 hp tm ct) (cs : List Cell) (vs : Array Value) (ty : TypeId) (hl : cs.length ≤ vs.size)
    (hc : ∀ (i : Nat) (c : Cell), cs[i]? = some c → c.1.one = true ∧ ∃ v, vs[i]? = some v ∧ RV C c.1 v ∧ Bare c v) :
    WRel (C.track vs ty) B F w0 ((C.nx, .cells cs) :: hp) tm ct ∧ RV (C.track vs ty) (.ptr C.nx 0) (.pointer (some ⟨C.w.heap.size, 0, none⟩)) := by
  have g := h.heap.grow_track vs ty
  have le := h.heap.le g
  have hD := h.grow g
  have hB : B ≤ C.w.heap.size := Nat.le_trans h.heap.base h.heap.below.size
  have hιn : (C.track vs ty).ι C.nx = C.w.heap.size := by simp [Cx.track]
  have hιo : ∀ i, (hget hp i).isSome = true → (C.track vs ty).ι i = C.ι i := fun i hi => g.map i (h.heap.ids i hi)
  have hno : hget hp C.nx = none := by
    cases e : hget hp C.nx with
    | none => rfl
    | some b => exact absurd (h.heap.ids C.nx (by rw [e]; rfl)) (Nat.lt_irrefl _)
  have hgn : hget ((C.nx, ABlk.cells cs) :: hp) C.nx = some (.cells cs) := by simp [hget]
  have hgo : ∀ i, i ≠ C.nx → hget ((C.nx, ABlk.cells cs) :: hp) i = hget hp i := fun i hi => by simp [hget, hi]
  have hlt : ∀ i, (hget hp i).isSome = true → i ≠ C.nx := fun i hi e => by subst e; rw [hno] at hi; cases hi
  have hnew : (C.track vs ty).w.heap[C.w.heap.size]? = some (.cells vs ty (0, 0)) := alloc_at _ _
  have hown : ∀ k v cv, Owned (C.track vs ty) ((C.nx, .cells cs) :: hp) tm ct k v cv → (v = .lst [] ∧ cv = .slice none 0 0) ∨ Owned C hp tm ct k v cv := by
    intro k v cv ho
    obtain ⟨i, t⟩ := k
    cases i with
    | zero => exact .inr ho
    | succ id =>
      obtain ⟨cs', vs', ty', h1, h2, h3, h4⟩ := ho
      by_cases e : id = C.nx
      · subst e
        rw [hgn] at h1; injection h1 with h1; injection h1 with h1; subst h1
        rw [hιn, hnew] at h3; injection h3 with h3; injection h3 with h3 h3'; subst h3
        obtain ⟨_, v', h5, _, h7⟩ := hc t _ h2
        rw [h4] at h5; injection h5 with h5; subst h5
        exact .inl (h7 rfl)
      · rw [hgo id e] at h1
        exact .inr (Owned.back h.heap g (k := (id + 1, t)) ⟨cs', vs', ty', h1, h2, h3, h4⟩)
  have hbare : ∀ v cv, v = AVal.lst [] ∧ cv = .slice none 0 0 → ∀ b o, ¬ Tail v cv b o := by
    rintro v cv ⟨rfl, rfl⟩ b o ⟨xs, a, n, c, x, r, h1, h2, _⟩
    simp at h2
  refine ⟨⟨⟨hD.heap.below, hD.heap.base, fun i hi => ?_, fun id cs' hg' => ?_, fun i j hi hj e => ?_, fun i hi => ?_, hD.heap.imm, hD.heap.far, fun id es hg => (by
    by_cases e : id = C.nx
    · subst e; rw [hgn] at hg; cases hg
    · rw [hgo id e] at hg; exact hD.heap.mapb id es hg)⟩, h.size, hD.tmp, fun k v cv ho => ?_, fun k1 k2 v1 c1 v2 c2 h1 h2 hne b o ht => ?_⟩, ?_⟩
  · by_cases e : i = C.nx
    · subst e; exact Nat.lt_succ_self _
    · rw [hgo i e] at hi; exact Nat.lt_succ_of_lt (h.heap.ids i hi)
  · by_cases e : id = C.nx
    · subst e
      rw [hgn] at hg'; injection hg' with hg'; injection hg' with hg'; subst hg'
      refine ⟨vs, ty, by rw [hιn]; exact hnew, hl, fun i c hi => ?_⟩
      obtain ⟨h1, v, h2, h3, _⟩ := hc i c hi
      exact ⟨h1, v, h2, h3.mono le⟩
    · rw [hgo id e] at hg'; exact hD.heap.blk id cs' hg'
  · by_cases ei : i = C.nx
    · by_cases ej : j = C.nx
      · rw [ei, ej]
      · rw [hgo j ej] at hj
        rw [ei, hιn, hιo j hj] at e
        have := (h.heap.out j hj).2.1
        omega
    · rw [hgo i ei] at hi
      by_cases ej : j = C.nx
      · rw [ej, hιn, hιo i hi] at e
        have := (h.heap.out i hi).2.1
        omega
      · rw [hgo j ej] at hj
        exact hD.heap.inj i j hi hj e
  · by_cases e : i = C.nx
    · subst e
      rw [hιn]
      refine ⟨hB, by simp [Cx.track], fun o => ⟨fun hI => ?_, fun hF => ?_⟩⟩
      · obtain ⟨u, hu⟩ := h.heap.imm _ _ hI
        exact absurd (cell_lt hu) (Nat.lt_irrefl _)
      · obtain ⟨⟨u, hu⟩, _⟩ := h.heap.far _ _ hF
        exact absurd (cell_lt hu) (Nat.lt_irrefl _)
    · rw [hgo i e] at hi; exact hD.heap.out i hi
  · rcases hown k v cv ho with e | ho'
    · exact ⟨⟨[], none, 0, 0, e.1, e.2, fun _ => rfl⟩, fun b o ht => absurd ht (hbare v cv e b o)⟩
    · have k1 := (h.own k v cv ho').grow h.heap g
      refine ⟨k1.form, fun b o ht => ?_⟩
      obtain ⟨h1, h2, h3, h4, h5, h6⟩ := k1.cells b o ht
      refine ⟨h1, h2, h3, fun id hid => ?_, h5, h6⟩
      by_cases e : id = C.nx
      · subst e
        rw [hιn]
        obtain ⟨_, _, _, _, ⟨u, hu⟩, _⟩ := (h.own k v cv ho').cells b o ht
        have := cell_lt hu
        omega
      · rw [hgo id e] at hid; exact h4 id hid
  · rcases hown k1 v1 c1 h1 with e | h1'
    · exact absurd ht (hbare _ _ e b o)
    · rcases hown k2 v2 c2 h2 with e | h2'
      · exact hbare _ _ e b o
      · exact h.sep k1 k2 v1 c1 v2 c2 h1' h2' hne b o ht
  · have := RV.ptr (C := C.track vs ty) C.nx 0 (Nat.lt_succ_self _)
    rwa [hιn] at this

def Cx.lit (C : Cx) (vs : Array Value) (ty : TypeId) : Cx := { ι := C.ι, I := fun b o => C.I b o ∨ (b = C.w.heap.size ∧ o < vs.size), nx := C.nx, w := C.w.alloc (.cells vs ty (0, 0)) }
theorem cell_new (w : World) (vs : Array Value) (ty : TypeId) (o : Nat) : (w.alloc (.cells vs ty (0, 0))).cell? ⟨w.heap.size, o, none⟩ = vs[o]? := by
  have := alloc_at w (.cells vs ty (0, 0))
  simp only [World.cell?, this]
  simp
theorem grow_lit (C : Cx) (vs : Array Value) (ty : TypeId) (hI : ∀ b o, C.I b o → ∃ u, C.w.cell? ⟨b, o, none⟩ = some u) : Grow C (C.lit vs ty) :=
  ⟨below_alloc' _ _, Nat.le_refl _, fun _ _ => rfl, fun _ _ h => .inl h, fun b o h => h.imp id fun h => by rw [h.1]; exact Nat.le_refl _, fun b o h hb => by
    rcases h with h | ⟨rfl, ho⟩
    · obtain ⟨u, hu⟩ := hI b o h
      have := cell_lt hu
      omega
    · exact ⟨vs[o], by rw [show (C.lit vs ty).w = C.w.alloc (.cells vs ty (0, 0)) from rfl, cell_new]; simp [ho]⟩⟩
/-- A new list: all cells of a new block. -/
theorem RV.lit (hI : ∀ b o, C.I b o → ∃ u, C.w.cell? ⟨b, o, none⟩ = some u) (xs : List AVal) (sz : Nat) (vs : Array Value) (ty : TypeId) (hz : xs ≠ [] → 0 < sz) (hs : ∀ x, x ∈ xs → x.flat.length = sz) (h1 : ∀ u, u ∈ flats xs → u.one = true)
    (hv : ∀ (i : Nat) u, (flats xs)[i]? = some u → ∃ v, vs[i]? = some v ∧ RV C u v) (c : Nat) (hc : xs.length ≤ c) : RV (C.lit vs ty) (.lst xs) (.slice (some ⟨C.w.heap.size, 0, none⟩) xs.length c) := by
  have g := grow_lit C vs ty hI
  have le : C.Le (C.lit vs ty) := ⟨g.nx, g.map, g.imm, fun b o hb => by obtain ⟨u, hu⟩ := hI b o hb; exact g.cell (cell_lt hu), fun b o u hu => ⟨u, (g.cell (cell_lt hu)).trans hu⟩⟩
  refine .lst xs _ c sz (fun i => vs.getD i undef) hc hz hs h1 (fun i u hu => ?_) (fun i u hu => ?_)
  · obtain ⟨v, h2, h3⟩ := hv i u hu
    have hi : i < vs.size := (Array.getElem?_eq_some_iff.1 h2).1
    refine ⟨_, 0, rfl, .inr ⟨rfl, by omega⟩, ?_⟩
    rw [show (C.lit vs ty).w = C.w.alloc (.cells vs ty (0, 0)) from rfl, cell_new]
    simp [hi, Array.getD]
  · obtain ⟨v, h2, h3⟩ := hv i u hu
    have hi : i < vs.size := (Array.getElem?_eq_some_iff.1 h2).1
    have : vs.getD i undef = v := by
      have := (Array.getElem?_eq_some_iff.1 h2).2
      simp [Array.getD, hi, this]
    rw [this]
    exact h3.mono le
theorem flats_len {xs : List AVal} {sz : Nat} (hs : ∀ x, x ∈ xs → x.flat.length = sz) : (flats xs).length = xs.length * sz := by
  induction xs with
  | nil => simp [flats]
  | cons x r ih =>
    have h1 := ih fun y hy => hs y (List.mem_cons_of_mem _ hy)
    have h2 := hs x (List.mem_cons_self ..)
    simp only [flats, List.flatMap_cons, List.length_append, List.length_cons] at h1 ⊢
    rw [h1, h2, Nat.add_mul, Nat.one_mul, Nat.add_comm]
/-- No room is left: c is the length. -/
theorem no_tail {xs : List AVal} {sz : Nat} (hs : ∀ x, x ∈ xs → x.flat.length = sz) (A : Option Addr) (b o : Nat) : ¬ Tail (.lst xs) (.slice A xs.length xs.length) b o := by
  rintro ⟨xs', a, n, c, x, r, h1, h2, h3, h4, h5, h6⟩
  injection h1 with h1
  subst h1
  injection h2 with _ _ h7
  subst h7
  rw [flats_len hs] at h5
  rw [hs x (by rw [h3]; exact List.mem_cons_self ..)] at h6
  omega
theorem WRel.puto (h : WRel C B F w0 hp tm ct) (d : Nat) {v : AVal} {cv : Value} (hv : RV C v cv) (ho : OwnOk C B F hp v cv)
    (hd : ∀ k v' cv', Owned C hp tm ct k v' cv' → k ≠ (0, d) → ∀ b o, Tail v cv b o → ¬ Tail v' cv' b o) : WRel C B F w0 hp (tm.set d (v, true)) (ct.setIfInBounds d cv) := by
  have get : ∀ t c, (tm.set d (v, true))[t]? = some c → (t = d ∧ c = (v, true) ∧ (ct.setIfInBounds d cv)[t]? = some cv) ∨ (t ≠ d ∧ tm[t]? = some c ∧ (ct.setIfInBounds d cv)[t]? = ct[t]?) := by
    intro t c ht
    rw [List.getElem?_set] at ht
    by_cases e : d = t
    · subst e
      rw [if_pos rfl] at ht
      split at ht
      · rename_i hl
        injection ht with ht
        exact .inl ⟨rfl, ht.symm, by simp [Array.getElem?_setIfInBounds, h.size, hl]⟩
      · cases ht
    · rw [if_neg e] at ht
      exact .inr ⟨fun h => e h.symm, ht, by rw [Array.getElem?_setIfInBounds, if_neg e]⟩
  have own : ∀ k v' cv', Owned C hp (tm.set d (v, true)) (ct.setIfInBounds d cv) k v' cv' → (k = (0, d) ∧ v' = v ∧ cv' = cv) ∨ (k ≠ (0, d) ∧ Owned C hp tm ct k v' cv') := by
    intro k v' cv' ho'
    obtain ⟨i, t⟩ := k
    cases i with
    | zero =>
      rcases get t _ ho'.1 with ⟨rfl, e, e'⟩ | ⟨e, e1, e2⟩
      · have h2 := ho'.2
        rw [e'] at h2
        injection h2 with h2
        simp at e
        exact .inl ⟨rfl, e, h2.symm⟩
      · have h2 := ho'.2
        rw [e2] at h2
        exact .inr ⟨by simp; exact e, e1, h2⟩
    | succ id => exact .inr ⟨by simp, ho'⟩
  refine ⟨h.heap, by simp [h.size], fun t c ht => ?_, fun k v' cv' ho' => ?_, fun k1 k2 v1 c1 v2 c2 h1 h2 hne b o ht ht' => ?_⟩
  · rcases get t c ht with ⟨rfl, rfl, e⟩ | ⟨e, e1, e2⟩
    · exact ⟨cv, e, hv⟩
    · obtain ⟨v', h1, h2⟩ := h.tmp t c e1
      exact ⟨v', by rw [e2]; exact h1, h2⟩
  · rcases own k v' cv' ho' with ⟨_, rfl, rfl⟩ | ⟨_, h1⟩
    · exact ho
    · exact h.own k v' cv' h1
  · rcases own k1 v1 c1 h1 with ⟨e1, rfl, rfl⟩ | ⟨e1, h1'⟩
    · rcases own k2 v2 c2 h2 with ⟨e2, rfl, rfl⟩ | ⟨e2, h2'⟩
      · exact hne (e1.trans e2.symm)
      · exact hd k2 v2 c2 h2' e2 b o ht ht'
    · rcases own k2 v2 c2 h2 with ⟨e2, rfl, rfl⟩ | ⟨e2, h2'⟩
      · exact hd k1 v1 c1 h1' e1 b o ht' ht
      · exact h.sep k1 k2 v1 c1 v2 c2 h1' h2' hne b o ht ht'
/-- A slot gives up what it owns. -/
theorem WRel.drop (h : WRel C B F w0 hp tm ct) (s : Nat) {v : AVal} {fl : Bool} (hs : tm[s]? = some (v, fl)) : WRel C B F w0 hp (tm.set s (v, false)) ct := by
  refine h.slots (by simp [h.size]) (fun t c ht => ?_) id (fun t v' cv' ht hc => ?_) (fun t t' _ _ _ _ e => e)
  · rw [List.getElem?_set] at ht
    by_cases e : s = t
    · subst e
      rw [if_pos rfl] at ht
      split at ht
      · injection ht with ht
        obtain ⟨v', h1, h2⟩ := h.tmp s _ hs
        exact ⟨v', h1, by rw [← ht]; exact h2⟩
      · cases ht
    · rw [if_neg e] at ht; exact h.tmp t c ht
  · rw [List.getElem?_set] at ht
    by_cases e : s = t
    · subst e
      rw [if_pos rfl] at ht
      split at ht <;> simp at ht
    · rw [if_neg e] at ht; exact ⟨ht, hc⟩
end
end Go.Proofs.YtkpfkadjmijmlaaGreatDoor.M
/- The machine's state and the world: stores; what is owned changes its place. -/
namespace Go.Proofs.YtkpfkadjmijmlaaGreatDoor.M
open Go.RowKit
set_option linter.unusedVariables false
set_option linter.unusedSimpArgs false

def setsA (c : Array Value) : Nat → List Value → Array Value
  | _, [] => c
  | i, v :: l => setsA (c.setIfInBounds i v) (i + 1) l
theorem setsA_size (l : List Value) : ∀ (c : Array Value) (i : Nat), (setsA c i l).size = c.size := by
  induction l with
  | nil => intro c i; rfl
  | cons v l ih => intro c i; rw [setsA, ih, Array.size_setIfInBounds]
theorem setsA_get (l : List Value) : ∀ (c : Array Value) (i j : Nat), (setsA c i l)[j]? = if i ≤ j ∧ j < i + l.length ∧ j < c.size then l[j - i]? else c[j]? := by
  induction l with
  | nil => intro c i j; simp [setsA]; omega
  | cons v l ih =>
    intro c i j
    rw [setsA, ih, Array.getElem?_setIfInBounds, Array.size_setIfInBounds, List.length_cons]
    by_cases h1 : i + 1 ≤ j ∧ j < i + 1 + l.length ∧ j < c.size
    · rw [if_pos h1, if_pos ⟨by omega, by omega, h1.2.2⟩, show j - i = (j - (i + 1)) + 1 by omega, List.getElem?_cons_succ]
    · rw [if_neg h1]
      by_cases h2 : i = j
      · subst h2
        by_cases h3 : i < c.size
        · rw [if_pos rfl, if_pos h3, if_pos ⟨by omega, by omega, h3⟩]; simp
        · rw [if_pos rfl, if_neg h3, if_neg (by omega), Array.getElem?_eq_none (by omega)]
      · rw [if_neg h2, if_neg (by omega)]
def setCs (cs : List Cell) : Nat → List Cell → List Cell
  | _, [] => cs
  | i, c :: l => setCs (cs.set i c) (i + 1) l
theorem setCs_len (l : List Cell) : ∀ (cs : List Cell) (i : Nat), (setCs cs i l).length = cs.length := by
  induction l with
  | nil => intro c i; rfl
  | cons v l ih => intro c i; rw [setCs, ih, List.length_set]
theorem setCs_get (l : List Cell) : ∀ (c : List Cell) (i j : Nat), (setCs c i l)[j]? = if i ≤ j ∧ j < i + l.length ∧ j < c.length then l[j - i]? else c[j]? := by
  induction l with
  | nil => intro c i j; simp [setCs]; omega
  | cons v l ih =>
    intro c i j
    rw [setCs, ih, List.getElem?_set, List.length_set, List.length_cons]
    by_cases h1 : i + 1 ≤ j ∧ j < i + 1 + l.length ∧ j < c.length
    · rw [if_pos h1, if_pos ⟨by omega, by omega, h1.2.2⟩, show j - i = (j - (i + 1)) + 1 by omega, List.getElem?_cons_succ]
    · rw [if_neg h1]
      by_cases h2 : i = j
      · subst h2
        by_cases h3 : i < c.length
        · rw [if_pos rfl, if_pos h3, if_pos ⟨by omega, by omega, h3⟩]; simp
        · rw [if_pos rfl, if_neg h3, if_neg (by omega), List.getElem?_eq_none (by omega)]
      · rw [if_neg h2, if_neg (by omega)]
theorem setCell_block (w : World) (b o : Nat) (v : Value) {cur : Array Value} {ty : TypeId} {fr : Nat × Nat} (h : w.heap[b]? = some (.cells cur ty fr)) : (w.setCell ⟨b, o, none⟩ v).heap[b]? = some (.cells (cur.setIfInBounds o v) ty fr) := by
  simp [World.setCell, Array.getElem?_modify, h]
theorem setCells_block (b : Nat) : ∀ (vs : List Value) (o : Nat) (w : World) {cur : Array Value} {ty : TypeId} {fr : Nat × Nat}, w.heap[b]? = some (.cells cur ty fr) → (w.setCells b o vs).heap[b]? = some (.cells (setsA cur o vs) ty fr)
  | [], _, _, _, _, _, h => h
  | v :: r, o, w, _, _, _, h => setCells_block b r (o + 1) _ (setCell_block w b o v h)
theorem setCells_other (b k : Nat) (hk : k ≠ b) : ∀ (vs : List Value) (o : Nat) (w : World), (w.setCells b o vs).heap[k]? = w.heap[k]?
  | [], _, _ => rfl
  | v :: r, o, w => (setCells_other b k hk r (o + 1) _).trans (Below.heap_setCell w ⟨b, o, none⟩ v k hk)
theorem setCells_size (b : Nat) : ∀ (vs : List Value) (o : Nat) (w : World), (w.setCells b o vs).heap.size = w.heap.size
  | [], _, _ => rfl
  | v :: r, o, w => by rw [World.setCells, setCells_size b r (o + 1)]; simp [World.setCell]
theorem below_setCells {B : Nat} {a : World} (b : Nat) (hb : B ≤ b) : ∀ (vs : List Value) (o : Nat) (w : World), Below B a w → Below B a (w.setCells b o vs)
  | [], _, _, h => h
  | v :: r, o, w, h => below_setCells b hb r (o + 1) _ (h.setCell (p := ⟨b, o, none⟩) hb v)

section
variable {C : Cx} {B : Nat} {F : Nat → Nat → Prop} {w0 : World} {hp hp' : Heap} {tm tm' : List Cell} {ct ct' : Array Value}

/-- The places of what is owned change, the world stays. -/
theorem WRel.rekey (h : WRel C B F w0 hp tm ct) (hsome : ∀ id, (hget hp' id).isSome = (hget hp id).isSome)
    (hblk : ∀ id cs, hget hp' id = some (.cells cs) → ∃ vs ty, C.w.heap[C.ι id]? = some (.cells vs ty (0, 0)) ∧ cs.length ≤ vs.size ∧ ∀ (i : Nat) (c : Cell), cs[i]? = some c → c.1.one = true ∧ ∃ v, vs[i]? = some v ∧ RV C c.1 v)
    (hmap : ∀ id es, hget hp' id = some (.map es) → hget hp id = some (.map es)) (hs : ct'.size = tm'.length) (ht : ∀ (t : Nat) (c : Cell), tm'[t]? = some c → ∃ v, ct'[t]? = some v ∧ RV C c.1 v)
    (g : Nat × Nat → Nat × Nat) (hg : ∀ k v cv, Owned C hp' tm' ct' k v cv → Owned C hp tm ct (g k) v cv)
    (hi : ∀ k k' v cv v' cv', Owned C hp' tm' ct' k v cv → Owned C hp' tm' ct' k' v' cv' → g k = g k' → k = k') : WRel C B F w0 hp' tm' ct' :=
  ⟨⟨h.heap.below, h.heap.base, fun id hid => h.heap.ids id (by rw [← hsome]; exact hid), hblk, fun i j a b => h.heap.inj i j (by rw [← hsome]; exact a) (by rw [← hsome]; exact b), fun i a => h.heap.out i (by rw [← hsome]; exact a), h.heap.imm, h.heap.far, fun id es hg => h.heap.mapb id es (hmap id es hg)⟩,
    hs, ht, fun k v cv ho => let q := h.own _ v cv (hg k v cv ho); ⟨q.form, fun b o t => let ⟨a1, a2, a3, a4, a5, a6⟩ := q.cells b o t; ⟨a1, a2, a3, fun id hid => a4 id (by rw [← hsome]; exact hid), a5, a6⟩⟩,
    fun k1 k2 v1 c1 v2 c2 h1 h2 hne => h.sep _ _ v1 c1 v2 c2 (hg _ _ _ h1) (hg _ _ _ h2) fun e => hne (hi _ _ _ _ _ _ h1 h2 e)⟩

theorem cell_setCells_ex (b off : Nat) (vs : List Value) (w : World) {b' o : Nat} {u : Value} (h : w.cell? ⟨b', o, none⟩ = some u) : ∃ u', (w.setCells b off vs).cell? ⟨b', o, none⟩ = some u' := by
  by_cases e : b' = b
  · subst e
    have h0 := h
    simp only [World.cell?] at h
    split at h
    · rename_i cur ty fr hb
      have hb' := setCells_block b' vs off w hb
      (try simp only at h)
      have ho : o < cur.size := (Array.getElem?_eq_some_iff.1 h).1
      refine ⟨(setsA cur off vs)[o]'(by rw [setsA_size]; exact ho), ?_⟩
      simp only [World.cell?, hb']
      exact Array.getElem?_eq_getElem _
    all_goals cases h
  · exact ⟨u, (World.cell?_of_block (setCells_other _ _ e _ _ _)).trans h⟩
def Cx.stores (C : Cx) (id off : Nat) (vs : List Value) : Cx := { C with w := C.w.setCells (C.ι id) off vs }
theorem HOk.le_stores (h : HOk C B F w0 hp) {id : Nat} (hid : (hget hp id).isSome = true) (off : Nat) (vs : List Value) : C.Le (C.stores id off vs) :=
  ⟨Nat.le_refl _, fun _ _ => rfl, fun _ _ h => h, fun b o hb => World.cell?_of_block (by
    show (C.w.setCells (C.ι id) off vs).heap[b]? = _
    refine setCells_other _ _ (fun e => ?_) _ _ _
    subst e
    exact ((h.out id hid).2.2 o).1 hb), fun b o u hu => cell_setCells_ex _ _ _ _ hu⟩
/-- Cells of a variable are written. -/
theorem WRel.store (h : WRel C B F w0 hp tm ct) {id : Nat} {cs : List Cell} (hid : hget hp id = some (.cells cs)) (off : Nat) (new : List Cell) (vs : List Value) (hl : vs.length = new.length) (hoff : off + new.length ≤ cs.length)
    (hc : ∀ (i : Nat) (c : Cell), new[i]? = some c → c.1.one = true ∧ ∃ v, vs[i]? = some v ∧ RV C c.1 v ∧ Bare c v) : WRel (C.stores id off vs) B F w0 (hset hp id (.cells (setCs cs off new))) tm ct := by
  have hs : (hget hp id).isSome = true := by rw [hid]; rfl
  have le := h.heap.le_stores hs off vs
  have hget' : ∀ j, hget (hset hp id (.cells (setCs cs off new))) j = if j = id then some (.cells (setCs cs off new)) else hget hp j := fun j => by rw [hget_hset]; simp [hs]
  have hsome : ∀ j, (hget (hset hp id (.cells (setCs cs off new))) j).isSome = (hget hp j).isSome := fun j => by
    rw [hget']
    split
    · rename_i e; subst e; rw [hs]; rfl
    · rfl
  obtain ⟨vs0, ty, hb, hsz, hcells⟩ := h.heap.blk id cs hid
  have hB := h.heap.out id hs
  have hother : ∀ k, k ≠ C.ι id → (C.stores id off vs).w.heap[k]? = C.w.heap[k]? := fun k hk => setCells_other _ _ hk _ _ _
  have hsame : (C.stores id off vs).w.heap[C.ι id]? = some (.cells (setsA vs0 off vs) ty (0, 0)) := setCells_block _ _ _ _ hb
  have hcell : ∀ b o, b ≠ C.ι id → (C.stores id off vs).w.cell? ⟨b, o, none⟩ = C.w.cell? ⟨b, o, none⟩ := fun b o hk => World.cell?_of_block (hother b hk)
  have hfroz : ∀ b o, b ≠ C.ι id → (C.stores id off vs).w.frozen? ⟨b, o, none⟩ = C.w.frozen? ⟨b, o, none⟩ := fun b o hk => World.frozen?_of_block (hother b hk)
  have hown : ∀ k v cv, Owned (C.stores id off vs) (hset hp id (.cells (setCs cs off new))) tm ct k v cv → (v = .lst [] ∧ cv = .slice none 0 0) ∨ Owned C hp tm ct k v cv := by
    intro k v cv ho
    obtain ⟨i, t⟩ := k
    cases i with
    | zero => exact .inr ho
    | succ j =>
      obtain ⟨cs', vs', ty', h1, h2, h3, h4⟩ := ho
      rw [hget'] at h1
      by_cases e : j = id
      · subst e
        rw [if_pos rfl] at h1; injection h1 with h1; injection h1 with h1; subst h1
        have h3' : (C.stores j off vs).w.heap[C.ι j]? = some (.cells vs' ty' (0, 0)) := h3
        rw [hsame] at h3'; injection h3' with h3'; injection h3' with h3' _; subst h3'
        rw [setCs_get] at h2
        rw [setsA_get] at h4
        split at h2
        · rename_i hin
          rw [if_pos (by omega)] at h4
          obtain ⟨_, v', h5, _, h7⟩ := hc _ _ h2
          rw [h4] at h5; injection h5 with h5; subst h5
          exact .inl (h7 rfl)
        · rename_i hin
          rw [if_neg (by omega)] at h4
          exact .inr ⟨cs, vs0, ty, hid, h2, hb, h4⟩
      · rw [if_neg e] at h1
        have hj : (hget hp j).isSome = true := by rw [h1]; rfl
        have h3' : (C.stores id off vs).w.heap[C.ι j]? = some (.cells vs' ty' (0, 0)) := h3
        rw [hother _ (fun q => e (h.heap.inj j id hj hs q))] at h3'
        exact .inr ⟨cs', vs', ty', h1, h2, h3', h4⟩
  have hbare : ∀ v cv, v = AVal.lst [] ∧ cv = .slice none 0 0 → ∀ b o, ¬ Tail v cv b o := by
    rintro v cv ⟨rfl, rfl⟩ b o ⟨xs, a, n, c, x, r, h1, h2, _⟩
    simp at h2
  refine ⟨⟨below_setCells _ hB.1 _ _ _ h.heap.below, h.heap.base, fun j hj => h.heap.ids j (by rw [← hsome]; exact hj), fun j cs' hj => ?_, fun i j a b => h.heap.inj i j (by rw [← hsome]; exact a) (by rw [← hsome]; exact b), fun i a => ?_, fun b o hb' => ?_, fun b o hb' => ?_, fun j es hg => (by
    rw [hget'] at hg
    split at hg
    · cases hg
    · rename_i e
      have hj : (hget hp j).isSome = true := by rw [hg]; rfl
      exact (h.heap.mapb j es hg).mono le (hother _ (fun q => e (h.heap.inj j id hj hs q))))⟩, h.size, fun t c ht => ?_, fun k v cv ho => ?_, fun k1 k2 v1 c1 v2 c2 h1 h2 hne b o ht => ?_⟩
  · rw [hget'] at hj
    by_cases e : j = id
    · subst e
      rw [if_pos rfl] at hj; injection hj with hj; injection hj with hj; subst hj
      refine ⟨_, ty, hsame, by rw [setsA_size, setCs_len]; exact hsz, fun i c hi => ?_⟩
      rw [setCs_get] at hi
      rw [setsA_get]
      split at hi
      · rename_i hin
        rw [if_pos (by omega)]
        obtain ⟨q1, v, q2, q3, _⟩ := hc _ _ hi
        exact ⟨q1, v, q2, q3.mono le⟩
      · rename_i hin
        rw [if_neg (by omega)]
        obtain ⟨q1, v, q2, q3⟩ := hcells _ _ hi
        exact ⟨q1, v, q2, q3.mono le⟩
    · rw [if_neg e] at hj
      have hj' : (hget hp j).isSome = true := by rw [hj]; rfl
      obtain ⟨vs', ty', q1, q2, q3⟩ := h.heap.blk j cs' hj
      refine ⟨vs', ty', (hother _ (fun q => e (h.heap.inj j id hj' hs q))).trans q1, q2, fun i c hi => ?_⟩
      obtain ⟨r1, v, r2, r3⟩ := q3 i c hi
      exact ⟨r1, v, r2, r3.mono le⟩
  · obtain ⟨q1, q2, q3⟩ := h.heap.out i (by rw [← hsome]; exact a)
    exact ⟨q1, by show _ < (C.w.setCells _ _ _).heap.size; rw [setCells_size]; exact q2, q3⟩
  · obtain ⟨u, hu⟩ := h.heap.imm b o hb'
    exact ⟨u, (hcell b o (fun e => (hB.2.2 o).1 (e ▸ hb'))).trans hu⟩
  · obtain ⟨⟨u, hu⟩, q0, q⟩ := h.heap.far b o hb'
    have hne : b ≠ C.ι id := fun e => (hB.2.2 o).2 (e ▸ hb')
    exact ⟨⟨u, (hcell b o hne).trans hu⟩, (hfroz b o hne).trans q0, q⟩
  · obtain ⟨v, q1, q2⟩ := h.tmp t c ht
    exact ⟨v, q1, q2.mono le⟩
  · rcases hown k v cv ho with e | ho'
    · exact ⟨⟨[], none, 0, 0, e.1, e.2, fun _ => rfl⟩, fun b o ht => absurd ht (hbare v cv e b o)⟩
    · have q := h.own k v cv ho'
      refine ⟨q.form, fun b o t => ?_⟩
      obtain ⟨a1, a2, a3, a4, ⟨u, a5⟩, a6⟩ := q.cells b o t
      have hne := a4 id hs
      exact ⟨a1, a2, a3, fun j hj => a4 j (by rw [← hsome]; exact hj), ⟨u, (hcell b o hne).trans a5⟩, (hfroz b o hne).trans a6⟩
  · rcases hown k1 v1 c1 h1 with e | h1'
    · exact absurd ht (hbare _ _ e b o)
    · rcases hown k2 v2 c2 h2 with e | h2'
      · exact hbare _ _ e b o
      · exact h.sep k1 k2 v1 c1 v2 c2 h1' h2' hne b o ht
/-- A slot gives what it owns to a cell that holds the same. -/
theorem WRel.give (h : WRel C B F w0 hp tm ct) {s : Nat} {v : AVal} {cv : Value} (hs : tm[s]? = some (v, true)) (hcs : ct[s]? = some cv) {id off : Nat} {cs : List Cell} (hid : hget hp id = some (.cells cs)) (hoff : cs[off]? = some (v, false))
    (hsame : ∀ vs ty, C.w.heap[C.ι id]? = some (.cells vs ty (0, 0)) → vs[off]? = some cv) : WRel C B F w0 (hset hp id (.cells (cs.set off (v, true)))) (tm.set s (v, false)) ct := by
  have hss : (hget hp id).isSome = true := by rw [hid]; rfl
  have hget' : ∀ j, hget (hset hp id (.cells (cs.set off (v, true)))) j = if j = id then some (.cells (cs.set off (v, true))) else hget hp j := fun j => by rw [hget_hset]; simp [hss]
  have own : ∀ k v' cv', Owned C (hset hp id (.cells (cs.set off (v, true)))) (tm.set s (v, false)) ct k v' cv' → (k = (id + 1, off) ∧ Owned C hp tm ct (0, s) v' cv') ∨ (k ≠ (id + 1, off) ∧ k ≠ (0, s) ∧ Owned C hp tm ct k v' cv') := by
    intro k v' cv' ho
    obtain ⟨i, t⟩ := k
    cases i with
    | zero =>
      obtain ⟨h1, h2⟩ := ho
      rw [List.getElem?_set] at h1
      by_cases e : s = t
      · subst e
        rw [if_pos rfl] at h1
        split at h1 <;> simp at h1
      · rw [if_neg e] at h1
        exact .inr ⟨by simp, by simp; exact fun q => e q.symm, h1, h2⟩
    | succ j =>
      obtain ⟨cs', vs', ty', h1, h2, h3, h4⟩ := ho
      rw [hget'] at h1
      by_cases e : j = id
      · subst e
        rw [if_pos rfl] at h1; injection h1 with h1; injection h1 with h1; subst h1
        rw [List.getElem?_set] at h2
        by_cases e' : off = t
        · subst e'
          rw [if_pos rfl] at h2
          split at h2
          · injection h2 with h2
            simp at h2; subst h2
            have := hsame _ _ h3
            rw [this] at h4; injection h4 with h4; subst h4
            exact .inl ⟨rfl, hs, hcs⟩
          · cases h2
        · rw [if_neg e'] at h2
          exact .inr ⟨by simp; exact fun q => e' q.symm, by simp, cs, vs', ty', hid, h2, h3, h4⟩
      · rw [if_neg e] at h1
        exact .inr ⟨by simp; intro q; exact absurd q e, by simp, cs', vs', ty', h1, h2, h3, h4⟩
  refine h.rekey (fun j => ?_) (fun j cs' hj => ?_) (fun j es hj => (by
    rw [hget'] at hj
    split at hj
    · cases hj
    · exact hj)) (by simp [h.size]) (fun t c ht => ?_) (fun k => if k = (id + 1, off) then (0, s) else k) (fun k v' cv' ho => ?_) (fun k k' v1 c1 v2 c2 h1 h2 e => ?_)
  · rw [hget']
    split
    · rename_i e; subst e; rw [hss]; rfl
    · rfl
  · rw [hget'] at hj
    by_cases e : j = id
    · subst e
      rw [if_pos rfl] at hj; injection hj with hj; injection hj with hj; subst hj
      obtain ⟨vs', ty', q1, q2, q3⟩ := h.heap.blk j cs hid
      refine ⟨vs', ty', q1, by simpa using q2, fun i c hi => ?_⟩
      rw [List.getElem?_set] at hi
      by_cases e' : off = i
      · subst e'
        rw [if_pos rfl] at hi
        split at hi
        · injection hi with hi; subst hi
          have := q3 _ _ hoff
          exact this
        · cases hi
      · rw [if_neg e'] at hi; exact q3 i c hi
    · rw [if_neg e] at hj; exact h.heap.blk j cs' hj
  · rw [List.getElem?_set] at ht
    by_cases e : s = t
    · subst e
      rw [if_pos rfl] at ht
      split at ht
      · injection ht with ht; subst ht
        have := h.tmp s _ hs
        exact this
      · cases ht
    · rw [if_neg e] at ht; exact h.tmp t c ht
  · rcases own k v' cv' ho with ⟨rfl, q⟩ | ⟨q1, _, q3⟩
    · rw [if_pos rfl]; exact q
    · rw [if_neg q1]; exact q3
  · rcases own k v1 c1 h1 with ⟨rfl, _⟩ | ⟨q1, q2, _⟩
    · rcases own k' v2 c2 h2 with ⟨rfl, _⟩ | ⟨r1, r2, _⟩
      · rfl
      · rw [if_pos rfl, if_neg r1] at e; exact absurd e.symm r2
    · rcases own k' v2 c2 h2 with ⟨rfl, _⟩ | ⟨r1, r2, _⟩
      · rw [if_neg q1, if_pos rfl] at e; exact absurd e q2
      · rw [if_neg q1, if_neg r1] at e; exact e
/-- A slot takes what a cell owns. -/
theorem WRel.take (h : WRel C B F w0 hp tm ct) {d : Nat} {v : AVal} {cv : Value} {id off : Nat} {cs : List Cell} (hid : hget hp id = some (.cells cs)) (hoff : cs[off]? = some (v, true))
    (hsame : ∀ vs ty, C.w.heap[C.ι id]? = some (.cells vs ty (0, 0)) → vs[off]? = some cv) : WRel C B F w0 (hset hp id (.cells (cs.set off (v, false)))) (tm.set d (v, true)) (ct.setIfInBounds d cv) := by
  have hss : (hget hp id).isSome = true := by rw [hid]; rfl
  have hget' : ∀ j, hget (hset hp id (.cells (cs.set off (v, false)))) j = if j = id then some (.cells (cs.set off (v, false))) else hget hp j := fun j => by rw [hget_hset]; simp [hss]
  obtain ⟨vs, ty, q1, q2, q3⟩ := h.heap.blk id cs hid
  have hvo := hsame vs ty q1
  obtain ⟨_, v0, q4, q5⟩ := q3 off _ hoff
  rw [hvo] at q4; injection q4 with q4; subst q4
  have howc : Owned C hp tm ct (id + 1, off) v cv := ⟨cs, vs, ty, hid, hoff, q1, hvo⟩
  have hd : ∀ c, (tm.set d (v, true))[d]? = some c → (ct.setIfInBounds d cv)[d]? = some cv := fun c hc => by
    have hl := (List.getElem?_eq_some_iff.1 hc).1
    simp at hl
    simp [Array.getElem?_setIfInBounds, h.size, hl]
  have own : ∀ k v' cv', Owned C (hset hp id (.cells (cs.set off (v, false)))) (tm.set d (v, true)) (ct.setIfInBounds d cv) k v' cv' → (k = (0, d) ∧ Owned C hp tm ct (id + 1, off) v' cv') ∨ (k ≠ (0, d) ∧ k ≠ (id + 1, off) ∧ Owned C hp tm ct k v' cv') := by
    intro k v' cv' ho
    obtain ⟨i, t⟩ := k
    cases i with
    | zero =>
      obtain ⟨h1, h2⟩ := ho
      by_cases e : d = t
      · subst e
        rw [hd _ h1] at h2; injection h2 with h2; subst h2
        rw [List.getElem?_set, if_pos rfl] at h1
        split at h1
        · injection h1 with h1
          simp at h1; subst h1
          exact .inl ⟨rfl, howc⟩
        · cases h1
      · rw [List.getElem?_set, if_neg e] at h1
        rw [Array.getElem?_setIfInBounds, if_neg e] at h2
        exact .inr ⟨by simp; exact fun q => e q.symm, by simp, h1, h2⟩
    | succ j =>
      obtain ⟨cs', vs', ty', h1, h2, h3, h4⟩ := ho
      rw [hget'] at h1
      by_cases e : j = id
      · subst e
        rw [if_pos rfl] at h1; injection h1 with h1; injection h1 with h1; subst h1
        rw [List.getElem?_set] at h2
        by_cases e' : off = t
        · subst e'
          rw [if_pos rfl] at h2
          split at h2 <;> simp at h2
        · rw [if_neg e'] at h2
          exact .inr ⟨by simp, by simp; exact fun q => e' q.symm, cs, vs', ty', hid, h2, h3, h4⟩
      · rw [if_neg e] at h1
        exact .inr ⟨by simp, by simp; intro q; exact absurd q e, cs', vs', ty', h1, h2, h3, h4⟩
  refine h.rekey (fun j => ?_) (fun j cs' hj => ?_) (fun j es hj => (by
    rw [hget'] at hj
    split at hj
    · cases hj
    · exact hj)) (by simp [h.size]) (fun t c ht => ?_) (fun k => if k = (0, d) then (id + 1, off) else k) (fun k v' cv' ho => ?_) (fun k k' v1 c1 v2 c2 h1 h2 e => ?_)
  · rw [hget']
    split
    · rename_i e; subst e; rw [hss]; rfl
    · rfl
  · rw [hget'] at hj
    by_cases e : j = id
    · subst e
      rw [if_pos rfl] at hj; injection hj with hj; injection hj with hj; subst hj
      refine ⟨vs, ty, q1, by simpa using q2, fun i c hi => ?_⟩
      rw [List.getElem?_set] at hi
      by_cases e' : off = i
      · subst e'
        rw [if_pos rfl] at hi
        split at hi
        · injection hi with hi; subst hi
          have := q3 _ _ hoff
          exact this
        · cases hi
      · rw [if_neg e'] at hi; exact q3 i c hi
    · rw [if_neg e] at hj; exact h.heap.blk j cs' hj
  · by_cases e : d = t
    · subst e
      refine ⟨cv, hd _ ht, ?_⟩
      rw [List.getElem?_set, if_pos rfl] at ht
      split at ht
      · injection ht with ht; subst ht; exact q5
      · cases ht
    · rw [List.getElem?_set, if_neg e] at ht
      obtain ⟨v', r1, r2⟩ := h.tmp t c ht
      exact ⟨v', by rw [Array.getElem?_setIfInBounds, if_neg e]; exact r1, r2⟩
  · rcases own k v' cv' ho with ⟨rfl, q⟩ | ⟨q1, _, q3⟩
    · rw [if_pos rfl]; exact q
    · rw [if_neg q1]; exact q3
  · rcases own k v1 c1 h1 with ⟨rfl, _⟩ | ⟨q1, q2, _⟩
    · rcases own k' v2 c2 h2 with ⟨rfl, _⟩ | ⟨r1, r2, _⟩
      · rfl
      · rw [if_pos rfl, if_neg r1] at e; exact absurd e.symm r2
    · rcases own k' v2 c2 h2 with ⟨rfl, _⟩ | ⟨r1, r2, _⟩
      · rw [if_neg q1, if_pos rfl] at e; exact absurd e q2
      · rw [if_neg q1, if_neg r1] at e; exact e
end
end Go.Proofs.YtkpfkadjmijmlaaGreatDoor.M
/- The machine: what each operation does. -/
namespace Go.Proofs.YtkpfkadjmijmlaaGreatDoor.M
set_option linter.unusedVariables false

def ofCell : Value → AVal
  | .int k n => .int k n
  | .bool b => .bool b
  | .string s => .str s
  | .pointer none => .nilp
  | .nilFunc => .nilf
  | .map none => .nilm
  | .slice none 0 0 => .lst []
  | _ => .bad
def ofVal : Value → AVal
  | .agg cs => let l := cs.toList.map ofCell; if l.all AVal.one then .agg l else .bad
  | .tuple cs => if cs.size = 0 then .tup [] else .bad
  | v => ofCell v
def ofCellN : Value → AVal
  | .slice none 0 0 => .nils
  | v => ofCell v
def ofValN : Value → AVal
  | .agg cs => let l := cs.toList.map ofCellN; if l.all AVal.one then .agg l else .bad
  | v => ofVal v
def isNil : Value → Bool
  | .slice none 0 0 => true
  | _ => false
def ev (tm : List Cell) : Operand → Cell
  | .tmp t => (tm[t]?).getD (.bad, false)
  | .const v => (ofVal v, isNil v)
  | .func f => (.clo f [] [], false)
  | .global _ => (.bad, false)
def evv (tm : List Cell) (x : Operand) : AVal := (ev tm x).1

/-- t goes to append in this region. -/
def feeds (ops : Array Oper) (d : Option Tmp) : Bool := match d with
  | some t => ops.any fun o => match o.op with
    | .call c => match c.callee, c.args[0]? with
      | .builtin .append, some (Operand.tmp u) => u == t
      | _, _ => false
    | _ => false
  | none => false
/-- t is stored in this region. -/
def stored (ops : Array Oper) (d : Option Tmp) : Bool := match d with
  | some t => ops.any fun o => match o.op with
    | .store _ _ (.tmp u) => u == t
    | _ => false
  | none => false
/-- t is cut in this region, and of a type whose arrays change. -/
def cuts (mu : List TypeId) (ops : Array Oper) (d : Option Tmp) : Bool := match d with
  | some t => ops.any fun o => match o.op with
    | .slice ty (.tmp u) _ _ _ => u == t && mu.contains ty
    | _ => false
  | none => false
/-- t is made in this region. -/
def makes (ops : Array Oper) (t : Tmp) : Bool := ops.any fun o => o.dst == some t

def aint : BinOp → IntKind → Int → Int → Option AVal
  | .add, k, x, y => some (.int k (k.wrap (x + y)))
  | .sub, k, x, y => some (.int k (k.wrap (x - y)))
  | .mul, k, x, y => some (.int k (k.wrap (x * y)))
  | .quo, k, x, y => if y = 0 then none else some (.int k (k.wrap (x.tdiv y)))
  | .rem, k, x, y => if y = 0 then none else some (.int k (x.tmod y))
  | .eql, _, x, y => some (.bool (x == y))
  | .neq, _, x, y => some (.bool (x != y))
  | .lss, _, x, y => some (.bool (decide (x < y)))
  | .leq, _, x, y => some (.bool (decide (x ≤ y)))
  | .gtr, _, x, y => some (.bool (decide (x > y)))
  | .geq, _, x, y => some (.bool (decide (x ≥ y)))
  | _, _, _, _ => none
def astr : BinOp → ByteArray → ByteArray → Option AVal
  | .add, x, y => if x.size + y.size ≤ 2 ^ 62 then some (.str (x ++ y)) else none
  | .eql, x, y => some (.bool (x.toList == y.toList))
  | .neq, x, y => some (.bool (!(x.toList == y.toList)))
  | .lss, x, y => some (.bool (Op.bytesLess x.toList y.toList))
  | .leq, x, y => some (.bool (Op.bytesLess x.toList y.toList || x.toList == y.toList))
  | .gtr, x, y => some (.bool (!(Op.bytesLess x.toList y.toList || x.toList == y.toList)))
  | .geq, x, y => some (.bool (!Op.bytesLess x.toList y.toList))
  | _, _, _ => none
def abin (op : BinOp) : AVal → AVal → Option AVal
  | .int k a, .int k' b => if k = k' then aint op k a b else none
  | .str a, .str b => astr op a b
  | _, _ => none
def aun : UnOp → AVal → Option AVal
  | .neg, .int k n => some (.int k (k.wrap (0 - n)))
  | .not, .bool b => some (.bool !b)
  | _, _ => none

def sizeT (P : Program) (t : TypeId) : Nat := ((P.info? t).map (·.size)).getD 0
def isAggT (P : Program) (t : TypeId) : Option Bool := match P.underlying t with | some (.struct _) | some (.array _ _) => some true | some _ => some false | none => none
def zeroT (P : Program) (t : TypeId) : Bool := ((P.info? t).bind (·.zero)).isSome
/-- Some cells, out of a row of them, as a value of type t. -/
def pick (P : Program) (t : TypeId) (cs : List AVal) (off : Nat) : Option AVal :=
  match isAggT P t with
  | some true => if off + sizeT P t ≤ cs.length then some (.agg ((cs.drop off).take (sizeT P t))) else none
  | some false => cs[off]?
  | none => none
/-- Equality of plain values, and of structs of them. -/
def aeq1 (P : Program) (t : TypeId) : AVal → AVal → Option Bool
  | .bool a, .bool b => match P.underlying t with
    | some .bool => some (a == b)
    | _ => none
  | .int k a, .int k' b => match P.underlying t with
    | some (.int _) => if k = k' then some (a == b) else none
    | _ => none
  | .str a, .str b => match P.underlying t with
    | some .string => some (a.toList == b.toList)
    | _ => none
  | _, _ => none
def aeqFs (P : Program) (xs ys : List AVal) : List Field → Option Bool
  | [] => some true
  | f :: r => if f.name ≠ "_" then match pick P f.type xs f.offset, pick P f.type ys f.offset with
      | some a, some b => match aeq1 P f.type a b with
        | some true => aeqFs P xs ys r
        | some false => some false
        | none => none
      | _, _ => none
    else aeqFs P xs ys r
def aeq (P : Program) (t : TypeId) : AVal → AVal → Option Bool
  | .agg xs, .agg ys => match P.underlying t with
    | some (.struct fs) => if P.stoodInHeld t = false ∧ P.eqGuardType P.depth t = false then aeqFs P xs ys fs.toList else none
    | _ => none
  | .bool a, .bool b => aeq1 P t (.bool a) (.bool b)
  | _, _ => none
def abinT (P : Program) (t : TypeId) (op : BinOp) : AVal → AVal → Option AVal
  | .int k a, .int k' b => abin op (.int k a) (.int k' b)
  | .str a, .str b => abin op (.str a) (.str b)
  | x, y => match op with
    | .eql => (aeq P t x y).map .bool
    | .neq => (aeq P t x y).map fun b => .bool !b
    | _ => none
/-- A slice that is not nil. -/
def nonNil : AVal → Bool
  | .lst (_ :: _) => true
  | .sl _ _ _ _ _ => true
  | _ => false
/-- A slice is compared with nil. -/
def nilCmp (P : Program) (t : TypeId) (op : BinOp) (a : AVal) : Option AVal := if nonNil a then match P.underlying t, op with
    | some (.slice _), .eql => some (.bool false)
    | some (.slice _), .neq => some (.bool true)
    | _, _ => none
  else none
def abinZ (P : Program) (t : TypeId) (op : BinOp) (y : Operand) (a b : AVal) : Option AVal := match y with
  | .const (.slice none 0 0) => nilCmp P t op a
  | _ => abinT P t op a b
def lsets (cs : List AVal) : Nat → List AVal → List AVal
  | _, [] => cs
  | i, v :: l => lsets (cs.set i v) (i + 1) l
def afill (place : Nat → Option (Nat × Nat)) : List AVal → List (Nat × AVal) → Option (List AVal)
  | cs, [] => some cs
  | cs, (i, v) :: r => match place i with
    | some (off, n) => if v.flat.length = n ∧ off + n ≤ cs.length ∧ v.flat.all AVal.one then afill place (lsets cs off v.flat) r else none
    | none => none
def abuild (P : Program) (nl : Bool) (t : TypeId) (parts : List (Nat × AVal)) : Option AVal :=
  match P.info? t, P.underlying t with
  | some it, some (.array _ e) =>
    match it.zero, P.info? e with
    | some z, some ie => match (if nl then ofValN z else ofVal z) with
      | .agg cs => (afill (fun i => some (i * ie.size, ie.size)) cs parts).map .agg
      | _ => none
    | _, _ => none
  | some it, some (.struct fields) =>
    match it.zero, fields.toList.mapM (fun f => (P.info? f.type).map fun i => (f.offset, i.size)) with
    | some z, some places => match (if nl then ofValN z else ofVal z) with
      | .agg cs => (afill (places.toArray[·]?) cs parts).map .agg
      | _ => none
    | _, _ => none
  | _, _ => none
/-- What an operation gives: a value (does it own?), the slot that gives up what it owns, the heap. -/
structure Out where
  v : AVal
  own : Bool
  clr : Option Tmp
  nx : Nat
  hp : Heap
def Out.val (nx : Nat) (hp : Heap) (v : AVal) : Out := ⟨v, false, none, nx, hp⟩
abbrev Rho := Operand → Cell
/-- How a body is run: variables from lo on may be written; slices of the types mu are arrays that change. -/
structure Md where
  lo : Nat
  mu : List TypeId := []
def abox (cs : List AVal) (nx : Nat) (hp : Heap) : Out := ⟨.ptr nx 0, false, none, nx + 1, (nx, .cells (cs.map fun v => (v, false))) :: hp⟩
def aload (P : Program) (ops : Array Oper) (ro : Md) (d : Option Tmp) (t : TypeId) (a : AVal) (nx : Nat) (hp : Heap) : Option Out :=
  match a with
  | .ptr id off => match hget hp id with
    | some (.cells cs) =>
      match isAggT P t with
      | some true => if off + sizeT P t ≤ cs.length then some (.val nx hp (.agg (((cs.drop off).take (sizeT P t)).map (·.1)))) else none
      | some false => match cs[off]? with
        | some (v, true) => if feeds ops d then (if v.nilL then some ⟨v, true, none, nx, hp⟩ else if !ro.mu.contains t && ro.lo ≤ id then some ⟨v, true, none, nx, hset hp id (.cells (cs.set off (v, false)))⟩ else some (.val nx hp v)) else some (.val nx hp v)
        | some (v, false) => some (.val nx hp v)
        | none => none
      | none => none
    | _ => none
  | .pel e off => (pick P t e.flat off).map (Out.val nx hp)
  | _ => none
def unown (cs : List AVal) : List Cell := cs.map fun v => (v, false)
def unS : AVal → Cell
  | .nils => (.lst [], true)
  | v => (v, false)
def unownS (cs : List AVal) : List Cell := cs.map unS
def astore (P : Program) (ops : Array Oper) (ro : Md) (t : TypeId) (a : AVal) (x : Operand) (c : Cell) (nx : Nat) (hp : Heap) : Option Out :=
  match a with
  | .ptr id off => match hget hp id with
    | some (.cells cs) =>
      if ro.lo ≤ id ∧ 0 < sizeT P t ∧ c.1.flat.length = sizeT P t ∧ off + c.1.flat.length ≤ cs.length ∧ c.1.flat.all AVal.one then
        match x, c with
        | .tmp u, (v, true) => if makes ops u ∧ sizeT P t = 1 then some ⟨.tup [], false, some u, nx, hset hp id (.cells (cs.set off (v, true)))⟩
          else some (.val nx (hset hp id (.cells (setCs cs off (unownS c.1.flat)))) (.tup []))
        | .const _, (.lst [], true) => some (.val nx (hset hp id (.cells (cs.set off (.lst [], true)))) (.tup []))
        | _, _ => some (.val nx (hset hp id (.cells (setCs cs off (unownS c.1.flat)))) (.tup []))
      else none
    | _ => none
  | _ => none

def ashift (o : Nat) : AVal → Option AVal
  | .ptr id off => some (.ptr id (off + o))
  | .pel e off => some (.pel e (off + o))
  | _ => none
def afield (P : Program) (t : TypeId) (x : AVal) (f : Nat) : Option AVal :=
  match P.underlying t with
  | some (.struct fs) => match fs[f]? with
    | some fd => if 0 < sizeT P fd.type then ashift fd.offset x else none
    | none => none
  | _ => none
def afieldv (P : Program) (t : TypeId) (x : AVal) (f : Nat) : Option AVal :=
  match P.underlying t, x with
  | some (.struct fs), .agg cs => match fs[f]? with
    | some fd => pick P fd.type cs fd.offset
    | none => none
  | _, _ => none
def aindexa (P : Program) (t : TypeId) (x i : AVal) : Option AVal :=
  match x, i with
  | .lst xs, .int _ n => if 0 ≤ n then (match xs[n.toNat]?, P.underlying t with
      | some e, some (.slice el) => if e.flat.length = sizeT P el then some (.pel e 0) else none
      | _, _ => none) else none
  | .sl id off len sz _, .int _ n => if 0 ≤ n ∧ n < len then (match P.underlying t with
      | some (.slice el) => if sizeT P el = sz ∧ 0 < sz then some (.ptr id (off + n.toNat * sz)) else none
      | _ => none) else none
  | _, _ => none
def aindex (P : Program) (t : TypeId) (x i : AVal) : Option AVal :=
  match x, i with
  | .str s, .int _ n => if 0 ≤ n then (match P.underlying t, s[n.toNat]? with | some .string, some b => some (.int .u8 b.toNat) | _, _ => none) else none
  | _, _ => none
def bound (v : Option AVal) (dflt : Nat) (most : Nat) : Option Nat :=
  match v with
  | none => some dflt
  | some (.int _ n) => if 0 ≤ n ∧ n ≤ most then some n.toNat else none
  | _ => none
def headOk (xs : List AVal) (n : Nat) : Bool := match xs with
  | x :: _ => x.flat.length == n
  | [] => true
def zeroOk (i : TypeInfo) : Bool := match i.zero with
  | some z => z.cells.size == i.size
  | none => false
def aslice (P : Program) (t : TypeId) (x : AVal) (lo hi mx : Option AVal) : Option AVal :=
  match mx, x, P.underlying t with
  | none, .str s, some .string => match bound hi s.size s.size with
    | some h => (bound lo 0 h).map fun l => .str (s.extract l h)
    | none => none
  | none, .lst xs, some (.slice e) => if headOk xs (sizeT P e) = true ∧ 0 < sizeT P e then match bound hi xs.length xs.length with
    | some h => (bound lo 0 h).map fun l => .lst ((xs.take h).drop l)
    | none => none
    else none
  | none, .sl id off len sz ag, some (.slice e) => if sizeT P e = sz ∧ 0 < sz then match bound hi len len with
    | some h => (bound lo 0 h).map fun l => if l < len ∨ l = 0 then .sl id (off + l * sz) (h - l) sz ag else .lst []
    | none => none
    else none
  | some (.int _ m), .lst xs, some (.slice e) => if hi.isSome = true ∧ headOk xs (sizeT P e) = true ∧ 0 < sizeT P e ∧ 0 ≤ m ∧ m ≤ xs.length then match bound hi 0 m.toNat with
    | some h => (bound lo 0 h).map fun l => .lst ((xs.take h).drop l)
    | none => none
    else none
  | some (.int _ m), .sl id off len sz ag, some (.slice e) => if hi.isSome = true ∧ sizeT P e = sz ∧ 0 < sz ∧ 0 ≤ m ∧ m ≤ len then match bound hi 0 m.toNat with
    | some h => (bound lo 0 h).map fun l => if l < m.toNat ∨ l = 0 then .sl id (off + l * sz) (h - l) sz ag else .lst []
    | none => none
    else none
  | _, _, _ => none
/-- A clipped list has no room behind it: it may be taken. -/
def clipOwn (hi mx : Option AVal) (r : AVal) : Bool := match mx, hi, r with
  | some (.int _ m), some (.int _ h), .lst _ => h == m
  | _, _, _ => false
/-- A nil slice, where arrays change: what is cut out of it has no room either. -/
def nilC (mu : List TypeId) (t : TypeId) (c : Cell) : Bool := mu.contains t && (c.2 && c.1.nilL)
def clipped (nl : Bool) (hi mx : Option AVal) (nx : Nat) (hp : Heap) (r : AVal) : Out := ⟨r, clipOwn hi mx r || nl, none, nx, hp⟩
def aappend (P : Program) (t : TypeId) (xs ys : List AVal) : Option AVal :=
  match P.underlying t with
  | some (.slice e) => match P.info? e with
    | some i => if i.bytes ≠ 0 ∧ headOk xs i.size = true ∧ headOk ys i.size = true ∧ zeroOk i = true ∧ (xs.length + ys.length) * i.bytes ≤ 140737488355328 then some (.lst (xs ++ ys)) else none
    | none => none
  | _ => none
/-- Maps: keys are numbers, strings, truths. -/
def akey (P : Program) (kt : TypeId) (k : AVal) : Bool := match P.underlying kt, k with
  | some (.int _), .int _ _ => true
  | some .string, .str _ => true
  | some .bool, .bool _ => true
  | _, _ => false
def akeq : AVal → AVal → Option Bool
  | .int k a, .int k' b => if k = k' then some (a == b) else none
  | .str a, .str b => some (a.toList == b.toList)
  | .bool a, .bool b => some (a == b)
  | _, _ => none
def afind (k : AVal) : List (AVal × AVal) → Nat → Option (Option (Nat × AVal))
  | [], _ => some none
  | (x, v) :: r, i => match akeq k x with
    | some true => some (some (i, v))
    | some false => afind k r (i + 1)
    | none => none
def azero (P : Program) (t : TypeId) : Option AVal := ((P.info? t).bind (·.zero)).map ofVal
def aok (ok : Bool) (b : Bool) (v : AVal) : AVal := if ok then .tup [v, .bool b] else v
def alookup (P : Program) (t : TypeId) (m k : AVal) (ok : Bool) (hp : Heap) : Option AVal := match P.underlying t with
  | some (.map kt et) => if akey P kt k then match m with
      | .nilm => (azero P et).map (aok ok false)
      | .map id => match hget hp id with
        | some (.map es) => match afind k es 0 with
          | some (some (_, v)) => some (aok ok true v)
          | some none => (azero P et).map (aok ok false)
          | none => none
        | _ => none
      | _ => none
    else none
  | _ => none
def amapset (P : Program) (lo : Nat) (t : TypeId) (m k v : AVal) (hp : Heap) : Option Heap := match P.underlying t with
  | some (.map kt _) => if akey P kt k then match m with
      | .map id => match hget hp id with
        | some (.map es) => if lo ≤ id then match afind k es 0 with
            | some (some (i, _)) => some (hset hp id (.map (es.set i (k, v))))
            | some none => some (hset hp id (.map (es ++ [(k, v)])))
            | none => none
          else none
        | _ => none
      | _ => none
    else none
  | _ => none
def amin : AVal → AVal → Option AVal
  | .int k x, .int _ y => some (.int k (if y < x then y else x))
  | _, _ => none
def amax : AVal → AVal → Option AVal
  | .int k x, .int _ y => some (.int k (if y > x then y else x))
  | _, _ => none
def alen (P : Program) (t : TypeId) (x : AVal) : Option AVal :=
  match P.underlying t, x with
  | some .string, .str s => some (.int .i64 s.size)
  | some (.slice _), .lst xs => some (.int .i64 xs.length)
  | some (.slice _), .sl _ _ n _ _ => some (.int .i64 n)
  | some (.map _ _), .nilm => some (.int .i64 0)
  | _, _ => none
def seqParts (parts : List (Nat × AVal)) (i : Nat) : Bool := match parts with
  | [] => true
  | (k, _) :: r => k == i && seqParts r (i + 1)

structure Res where
  v : AVal
  own : Bool
  nx : Nat
  hp : Heap
/-- What a call comes to. -/
abbrev CallF := FuncId → List AVal → Nat → Nat → Heap → Option Res
def aappendO (P : Program) (ts : List TypeId) (xs : List AVal) (y : AVal) (clr : Option Tmp) (nx : Nat) (hp : Heap) : Option Out :=
  match y, ts with
  | .lst ys, [t, t2] => match P.underlying t2 with
    | some (.slice _) => (aappend P t xs ys).map fun v => ⟨v, true, clr, nx, hp⟩
    | _ => none
  | _, _ => none
def appendsAt (mu : List TypeId) : List TypeId → Bool
  | t :: _ => mu.contains t
  | [] => false
/-- What a slice holds. -/
def cellsOf (P : Program) (e : TypeId) (y : AVal) (hp : Heap) : Option (Nat × List AVal) := match y with
  | .lst ys => if ys.all (fun y => y.flat.length == sizeT P e) then some (ys.length, flats ys) else none
  | .sl id off n sz _ => match hget hp id with
    | some (.cells cs) => if sz = sizeT P e ∧ off + n * sz ≤ cs.length then some (n, ((cs.drop off).take (n * sz)).map (·.1)) else none
    | _ => none
  | _ => none
def aappendM (P : Program) (lo : Nat) (ts : List TypeId) (x : Operand) (c : Cell) (y : AVal) (nx : Nat) (hp : Heap) : Option Out :=
  match ts with
  | [t, t2] => match P.underlying t, P.underlying t2 with
    | some (.slice e), some (.slice _) => match P.info? e, isAggT P e, cellsOf P e y hp with
      | some i, some ag, some (k, ys) => if i.bytes ≠ 0 ∧ 0 < i.size ∧ zeroOk i = true then match c with
        | (.lst [], true) => if k = 0 then some ⟨.lst [], true, (match x with | .tmp u => some u | _ => none), nx, hp⟩
            else if k * i.bytes ≤ 140737488355328 then some ⟨.sl nx 0 k i.size ag, false, none, nx + 1, (nx, .cells (unown ys)) :: hp⟩ else none
        | (.sl id 0 n sz _, _) => match hget hp id with
          | some (.cells cs) => if lo ≤ id ∧ sz = i.size ∧ n * sz ≤ cs.length ∧ (n + k) * i.bytes ≤ 140737488355328 then
              some ⟨.sl nx 0 (n + k) sz ag, false, none, nx + 1, (nx, .cells (unown ((cs.take (n * sz)).map (·.1) ++ ys))) :: hdel hp id⟩ else none
          | _ => none
        | (.nils, _) => if k = 0 then some ⟨.lst [], true, none, nx, hp⟩
            else if k * i.bytes ≤ 140737488355328 then some ⟨.sl nx 0 k i.size ag, false, none, nx + 1, (nx, .cells (unown ys)) :: hp⟩ else none
        | _ => none
        else none
      | _, _, _ => none
    | _, _ => none
  | _ => none
def abuiltin (P : Program) (ro : Md) (b : Builtin) (ts : Array TypeId) (xs : Array Operand) (ρ : Rho) (nx : Nat) (hp : Heap) : Option Out :=
  match b, xs.toList with
  | .len, [x] => match ts.toList with
    | [t] => (alen P t (ρ x).1).map (Out.val nx hp)
    | _ => none
  | .min, x :: r => (r.foldlM (fun a y => amin a (ρ y).1) (ρ x).1).map (Out.val nx hp)
  | .max, x :: r => (r.foldlM (fun a y => amax a (ρ y).1) (ρ x).1).map (Out.val nx hp)
  | .append, [x, y] => if appendsAt ro.mu ts.toList then aappendM P ro.lo ts.toList x (ρ x) (ρ y).1 nx hp else match x, ρ x with
    | .tmp u, (.lst xs, true) => aappendO P ts.toList xs (ρ y).1 (some u) nx hp
    | .const _, (.lst [], true) => aappendO P ts.toList [] (ρ y).1 none nx hp
    | _, _ => none
  | _, _ => none
def amove (take : Bool) (x : Operand) (c : Cell) (nx : Nat) (hp : Heap) : Option Out :=
  match x, c with
  | .tmp t, (v, true) => if take then some ⟨v, true, some t, nx, hp⟩ else some (.val nx hp v)
  | .const _, (v, b) => some ⟨v, b, none, nx, hp⟩
  | _, (v, _) => some (.val nx hp v)
/-- A nil slice stays one that is known to be one. -/
def acut (c : Cell) (nx : Nat) (hp : Heap) : Option Out := some ⟨c.1, c.2 && c.1.nilL, none, nx, hp⟩
def aeff0 (P : Program) (ops : Array Oper) (ro : Md) (o : Oper) (ρ : Rho) (nx : Nat) (hp : Heap) : Option Out :=
  let val (v : Option AVal) : Option Out := v.map (Out.val nx hp)
  match o.op with
  | .move x => if cuts ro.mu ops o.dst then acut (ρ x) nx hp else amove (feeds ops o.dst) x (ρ x) nx hp
  | .assign x => amove (match x with | .tmp t => makes ops t | _ => false) x (ρ x) nx hp
  | .pick c a b => match (ρ c).1 with
    | .bool q => some (.val nx hp (if q then (ρ a).1 else (ρ b).1))
    | _ => none
  | .alloc t => match (P.info? t).bind (·.zero) with
    | some z => if (z.cells.toList.map ofCell).all AVal.one then some ⟨.ptr nx 0, false, none, nx + 1, (nx, .cells (z.cells.toList.map fun c => (ofCell c, isNil c))) :: hp⟩ else none
    | none => none
  | .box t x => if (ρ x).1.flat.all AVal.one then some (abox (ρ x).1.flat nx hp) else none
  | .build t ps => val (abuild P (stored ops o.dst) t (ps.toList.map fun p => (p.1, (ρ p.2).1)))
  | .buildSlice t len ps => match P.underlying t with
    | some (.slice e) => let xs := ps.toList.map fun p => (p.1, (ρ p.2).1)
      if seqParts xs 0 ∧ xs.length = len ∧ len * sizeT P e ≤ 2 ^ 24 ∧ xs.all (fun p => p.2.flat.length == sizeT P e && p.2.flat.all AVal.one) ∧ 0 < sizeT P e ∧ zeroT P e = true then (if ro.mu.contains t then some ⟨.sl nx 0 len (sizeT P e) ((isAggT P e).getD false), false, none, nx + 1, (nx, .cells (unown (flats (xs.map (·.2))))) :: hp⟩ else some ⟨.lst (xs.map (·.2)), true, none, nx, hp⟩) else none
    | _ => none
  | .load t a => aload P ops ro o.dst t (ρ a).1 nx hp
  | .store t a x => astore P ops ro t (ρ a).1 x (ρ x) nx hp
  | .nilCheck x => match (ρ x).1 with
    | .ptr i k => some (.val nx hp (.ptr i k))
    | .pel e k => some (.val nx hp (.pel e k))
    | .clo f a b => some (.val nx hp (.clo f a b))
    | _ => none
  | .binOp op t x y _ => val (abinZ P t op y (ρ x).1 (ρ y).1)
  | .unOp op _ x => val (aun op (ρ x).1)
  | .makeFunc (.func f) a b => some (.val nx hp (.clo f (a.toList.map fun x => (ρ x).1) (b.toList.map fun x => (ρ x).1)))
  | .slice t x lo hi mx => (aslice P t (ρ x).1 (lo.map fun x => (ρ x).1) (hi.map fun x => (ρ x).1) (mx.map fun x => (ρ x).1)).map (clipped (nilC ro.mu t (ρ x)) (hi.map fun x => (ρ x).1) (mx.map fun x => (ρ x).1) nx hp)
  | .fieldAddr t x f => val (afield P t (ρ x).1 f)
  | .field t x f => val (afieldv P t (ρ x).1 f)
  | .indexAddr t x i => val (aindexa P t (ρ x).1 (ρ i).1)
  | .index t x i => val (aindex P t (ρ x).1 (ρ i).1)
  | .makeMap t none => match P.underlying t with
    | some (.map _ _) => some ⟨.map nx, false, none, nx + 1, (nx, .map []) :: hp⟩
    | _ => none
  | .lookup t m k ok => val (alookup P t (ρ m).1 (ρ k).1 ok hp)
  | .insert t m k v => (amapset P ro.lo t (ρ m).1 (ρ k).1 (ρ v).1 hp).map fun h => ⟨.tup [], false, none, nx, h⟩
  | .mapUpdate t m k v => (amapset P ro.lo t (ρ m).1 (ρ k).1 (ρ v).1 hp).map fun h => ⟨.tup [], false, none, nx, h⟩
  | .extract x i => match (ρ x).1 with
    | .tup vs => val vs[i]?
    | _ => none
  | _ => none
/-- An argument: where arrays change, a nil slice is known to be one. -/
def argOf (mu : List TypeId) (x : Operand) (v : AVal) : AVal := match mu, x with
  | _ :: _, .const (.slice none 0 0) => .nils
  | _, _ => v
def acall (P : Program) (call : CallF) (ro : Md) (c : Call) (ρ : Rho) (nx : Nat) (hp : Heap) : Option Out :=
  match c.callee with
  | .builtin b => abuiltin P ro b c.argTypes c.args ρ nx hp
  | .value f => match (ρ f).1 with
    | .clo g fs cs => match call g (fs ++ c.args.toList.map (fun x => argOf ro.mu x (ρ x).1) ++ cs) ro.lo nx hp with
      | some r => some ⟨r.v, r.own, none, r.nx, r.hp⟩
      | none => none
    | _ => none
  | _ => none
def aeff (P : Program) (call : CallF) (ops : Array Oper) (ro : Md) (o : Oper) (ρ : Rho) (nx : Nat) (hp : Heap) : Option Out :=
  match o.op with
  | .call c => acall P call ro c ρ nx hp
  | _ => aeff0 P ops ro o ρ nx hp

/-- One operation after the other. -/
def gate (x : Option Cell) (w : Bool) : Option Bool := match x with
  | some (.bool b, _) => some (b == w)
  | some (.bad, _) => none
  | some _ => some false
  | none => none
def awanted (ops : Array Oper) (tm : List Cell) (o : Oper) : Option Bool :=
  match o.guard with
  | none => some true
  | some (j, want) => match (ops[j]?).bind (·.dst) with
    | some t => gate tm[t]? want
    | none => some false
def unflag (tm : List Cell) (t : Tmp) : List Cell := match tm[t]? with
  | some c => tm.set t (c.1, false)
  | none => tm
def Out.put (o : Out) (dst : Option Tmp) (tm : List Cell) : St :=
  let tm := match o.clr with | some t => unflag tm t | none => tm
  { tm := match dst with | some d => tm.set d (o.v, o.own) | none => tm, nx := o.nx, hp := o.hp }
def astep (P : Program) (call : CallF) (ops : Array Oper) (ro : Md) (o : Oper) (s : St) : Option St :=
  match awanted ops s.tm o with
  | some true => (aeff P call ops ro o (ev s.tm) s.nx s.hp).map fun q => q.put o.dst s.tm
  | some false => some ((Out.val s.nx s.hp (.tup [])).put o.dst s.tm)
  | none => none
def aops (P : Program) (call : CallF) (ops : Array Oper) (ro : Md) : List Oper → St → Option St
  | [], s => some s
  | o :: r, s => (astep P call ops ro o s).bind (aops P call ops ro r)

/-- Who may take what a slot owns. -/
def srcOf (mu : List TypeId) (ops : Array Oper) (o : Oper) : Option Tmp := match o.op with
  | .move (.tmp t) => if feeds ops o.dst || cuts mu ops o.dst then some t else none
  | .assign (.tmp t) => if makes ops t then some t else none
  | .store _ _ (.tmp t) => if makes ops t then some t else none
  | .slice ty (.tmp t) _ _ _ => if mu.contains ty then some t else none
  | .call c => match c.callee, c.args.toList with
    | .builtin .append, [.tmp t, _] => some t
    | _, _ => none
  | _ => none
def tmpsOf (l : List Operand) : List Tmp := l.filterMap fun | .tmp t => some t | _ => none
def namesOf (ops : Array Oper) (o : Oper) : List Tmp := tmpsOf o.op.operands.toList ++ (match o.guard with | some (j, _) => ((ops[j]?).bind (·.dst)).toList | none => [])
def pureCall (pure : FuncId → Bool) (c : Call) : Bool := match c.callee with
  | .value (.func f) => pure f
  | _ => false
def appendsTo (mu : List TypeId) (c : Call) : Bool := appendsAt mu c.argTypes.toList
def effectful (mu : List TypeId) (pure : FuncId → Bool) (ops : Array Oper) (o : Oper) : Bool := match o.op with
  | .buildSlice t _ _ => mu.contains t
  | .store .. | .box .. | .alloc .. | .makeMap .. | .mapUpdate .. | .insert .. => true
  | .load t _ => feeds ops o.dst && !mu.contains t
  | .call c => match c.callee with
    | .builtin _ => appendsTo mu c
    | _ => !pureCall pure c
  | _ => false
/-- vl: calls whose answer hangs on their arguments alone. -/
def heapy (vl : FuncId → Bool) (mu : List TypeId) (o : Oper) : Bool := match o.op with
  | .buildSlice t _ _ => mu.contains t
  | .store .. | .box .. | .alloc .. | .load .. | .makeMap .. | .mapUpdate .. | .insert .. | .lookup .. => true
  | .call c => match c.callee with
    | .builtin _ => appendsTo mu c
    | _ => !pureCall vl c
  | _ => false
def apartD (d : Option Tmp) (l : List Tmp) : Bool := match d with
  | some d => !l.contains d
  | none => true
/-- Neither writes what the other one names. -/
def slotsOk (mu : List TypeId) (ops : Array Oper) (a b : Oper) : Bool :=
  apartD a.dst (b.dst.toList ++ namesOf ops b) && apartD b.dst (a.dst.toList ++ namesOf ops a) &&
  (match srcOf mu ops a, srcOf mu ops b with | some x, some y => x != y | _, _ => true)
/-- What functions are: pure ones change nothing, those of vl do not look at the heap; sl: regions tell themselves which pairs are to be looked at. -/
structure Knd where
  pure : FuncId → Bool
  vl : FuncId → Bool
  sl : Bool
  ft : FuncId → Bool
/-- The order of the two does not matter. -/
def indep (kd : Knd) (mu : List TypeId) (ops : Array Oper) (a b : Oper) : Bool :=
  slotsOk mu ops a b && !(effectful mu kd.pure ops a && heapy kd.vl mu b) && !(heapy kd.vl mu a && effectful mu kd.pure ops b)
/-- A reader of one variable. -/
def ftCall (ft : FuncId → Bool) (c : Call) : Bool := match c.callee, c.args.toList with
  | .value (.func f), [_] => ft f
  | _, _ => false
def rdr (ft : FuncId → Bool) (mu : List TypeId) (ops : Array Oper) (o : Oper) : Bool := match o.op with
  | .load t _ => !(feeds ops o.dst && !mu.contains t)
  | .lookup .. => true
  | .call c => ftCall ft c
  | _ => false
/-- The order of the two does not matter if the variable stays. -/
def dynp (kd : Knd) (mu : List TypeId) (ops : Array Oper) (a b : Oper) : Bool :=
  slotsOk mu ops a b && ((rdr kd.ft mu ops a && effectful mu kd.pure ops b) || (effectful mu kd.pure ops a && rdr kd.ft mu ops b))
/-- An operation that makes nothing and looks at what its slots and the heap hold alone. -/
def tame (mu : List TypeId) (ops : Array Oper) (o : Oper) : Bool := o.guard.isNone && match o.op with
  | .move (.tmp _) => !feeds ops o.dst && !cuts mu ops o.dst
  | .load _ (.tmp _) => !feeds ops o.dst
  | .fieldAddr _ (.tmp _) _ => true
  | .indexAddr _ (.tmp _) _ => true
  | .binOp .. => true
  | .call c => match c.callee with
    | .builtin .len => !appendsTo mu c
    | _ => false
  | _ => false
def allocs (o : Oper) : Option (TypeId × Tmp) := match o.guard, o.op, o.dst with
  | none, .alloc t, some d => some (t, d)
  | _, _, _ => none
/-- Two new variables of one type side by side: what comes before is tame, what comes behind comes behind both. -/
def pairAt (mu : List TypeId) (ops : Array Oper) (b : Array Nat) (i : Nat) : Bool := match (ops[i]?).bind allocs, (ops[i + 1]?).bind allocs with
  | some (t, x), some (t', y) => t == t' && x != y && b.getD i 0 == 0 && b.getD (i + 1) 0 == 0 && (ops.toList.take i).all (fun o => tame mu ops o && apartD (some x) (o.dst.toList ++ namesOf ops o) && apartD (some y) (o.dst.toList ++ namesOf ops o)) &&
    (List.range ops.size).all fun k => decide (k ≤ i + 1) || ((b.getD k 0).testBit i && (b.getD k 0).testBit (i + 1))
  | _, _ => false
def swapAt (mu : List TypeId) (ops : Array Oper) (b : Array Nat) : Option Nat := (List.range ops.size).find? (pairAt mu ops b)
/-- The pairs that are to be looked at: for each operation the earlier ones. -/
def qRaw (kd : Knd) (mu : List TypeId) (ops : Array Oper) (b : Array Nat) : List (List Nat) := ops.toList.zipIdx.map fun p => (List.range p.2).filter fun i => match ops[i]? with
  | some a => !(b.getD p.2 0).testBit i && !indep kd mu ops a p.1 && !(swapAt mu ops b == some i && p.2 == i + 1)
  | none => false
def qMark (l : List (List Nat)) : List (List Nat) := l.zipIdx.map fun p => if l.any (·.contains p.2) then p.2 :: p.1 else p.1
/-- The list is an order that the edges of gc's own order allow. -/
def topoGo (ops : Array Oper) : List Nat → List Nat → Bool
  | _, [] => true
  | seen, i :: r => (match ops[i]? with | some o => o.after.all (fun e => !Region.binds .gc e || seen.contains e.on) | none => false) && topoGo ops (i :: seen) r
def gcGoes (ops : Array Oper) : Bool :=
  let l := Region.linearise .gc ops 0
  (List.range ops.size).all l.contains && topoGo ops [] l
def qOk (kd : Knd) (mu : List TypeId) (ops : Array Oper) (l : List (List Nat)) : Bool :=
  ops.toList.zipIdx.all (fun p => p.1.after.all (fun e => decide (e.on < p.2) || (!Region.binds .any e && !Region.binds .text e))) && (!Region.departs ops || gcGoes ops) &&
  (ops.toList.zip l).all fun p => p.2.all fun i => match ops[i]? with | some a => dynp kd mu ops a p.1 | none => false
def qAll (kd : Knd) (mu : List TypeId) (ops : Array Oper) : Option (List (List Nat)) :=
  let l := qRaw kd mu ops (Region.before ops)
  if qOk kd mu ops l then some (qMark l) else none
def qOf (kd : Knd) (mu : List TypeId) (ops : Array Oper) : Option (List (List Nat)) := if kd.sl then some (ops.toList.map fun o => o.after.toList.map (·.on)) else qAll kd mu ops
mutual
def AVal.same : AVal → AVal → Bool
  | .int k n, .int k' n' => k == k' && n == n'
  | .bool b, .bool b' => b == b'
  | .str s, .str s' => s.data.toList == s'.data.toList
  | .agg l, .agg l' => sames l l'
  | .lst l, .lst l' => sames l l'
  | .tup l, .tup l' => sames l l'
  | .ptr i o, .ptr i' o' => i == i' && o == o'
  | .pel e o, .pel e' o' => e.same e' && o == o'
  | .map i, .map i' => i == i'
  | .sl a b c d e, .sl a' b' c' d' e' => a == a' && b == b' && c == c' && d == d' && e == e'
  | .clo f l m, .clo f' l' m' => f == f' && sames l l' && sames m m'
  | .nilp, .nilp => true
  | .nilf, .nilf => true
  | .nilm, .nilm => true
  | .nils, .nils => true
  | .bad, .bad => true
  | _, _ => false
def sames : List AVal → List AVal → Bool
  | [], [] => true
  | v :: r, v' :: r' => v.same v' && sames r r'
  | _, _ => false
end
def cellsSame : List Cell → List Cell → Bool
  | [], [] => true
  | (v, f) :: r, (v', f') :: r' => v.same v' && f == f' && cellsSame r r'
  | _, _ => false
def pairsSame : List (AVal × AVal) → List (AVal × AVal) → Bool
  | [], [] => true
  | (v, u) :: r, (v', u') :: r' => v.same v' && u.same u' && pairsSame r r'
  | _, _ => false
def blkSame : Option ABlk → Option ABlk → Bool
  | some (.cells a), some (.cells b) => cellsSame a b
  | some (.map a), some (.map b) => pairsSame a b
  | none, none => true
  | _, _ => false
def stayB (h h' : Heap) : Option Nat → Bool
  | some id => blkSame (hget h id) (hget h' id)
  | none => true
/-- The variable that a reader reads. -/
def footOf : AVal → Option Nat
  | .ptr id _ => some id
  | .map id => some id
  | _ => none
/-- The array that a call of one argument looks at. -/
def footS : AVal → Option Nat
  | .sl id _ _ _ _ => some id
  | _ => none
def footAt (o : Oper) (s : St) : Option Nat := match o.op with
  | .call c => match c.args.toList with
    | [a] => footS (ev s.tm a).1
    | _ => none
  | .load _ a => footOf (ev s.tm a).1
  | .lookup _ a _ _ => footOf (ev s.tm a).1
  | _ => none
/-- One operation after the other; the pairs are looked at. -/
def okT (j : Nat) (f : Option Nat) (tr : List (Nat × Heap × Heap)) (q : List Nat) : Bool := q.all fun i => i == j || match tr.lookup i with | some h => stayB h.1 h.2 f | none => false
def okF (j : Nat) (h h' : Heap) (fs : List (Nat × Option Nat)) (q : List Nat) : Bool := q.all fun i => i == j || match fs.lookup i with | some f => stayB h h' f | none => false
def aopsD (P : Program) (ft : FuncId → Bool) (call : CallF) (ops : Array Oper) (ro : Md) : Nat → List (Oper × List Nat) → List (Nat × Heap × Heap) → List (Nat × Option Nat) → St → Option St
  | _, [], _, _, s => some s
  | j, (o, q) :: r, tr, fs, s => match astep P call ops ro o s with
    | some s' => if rdr ft ro.mu ops o then (if okT j (footAt o s) tr q then aopsD P ft call ops ro (j + 1) r tr (if q.contains j then (j, footAt o s) :: fs else fs) s' else none)
        else if okF j s.hp s'.hp fs q then aopsD P ft call ops ro (j + 1) r (if q.contains j then (j, s.hp, s'.hp) :: tr else tr) fs s' else none
    | none => none
def areg (P : Program) (kd : Knd) (call : CallF) (ops : Array Oper) (ro : Md) (d : Bool) (s : St) : Option St :=
  if d then match qOf kd ro.mu ops with
    | some q => aopsD P kd.ft call ops ro 0 (ops.toList.zip q) [] [] s
    | none => none
  else aops P call ops ro ops.toList s

inductive AExit where
  | normal | ret | exit (id : Nat)
def aexec (P : Program) (kd : Knd) (call : CallF) (ro : Md) : Nat → Code → St → Option (AExit × St)
  | 0, _, _ => none
  | n + 1, .skip, s => some (.normal, s)
  | n + 1, .region _ ops d, s => (areg P kd call ops ro d s).map fun s => (.normal, s)
  | n + 1, .seq a b, s => match aexec P kd call ro n a s with
    | some (.normal, s) => aexec P kd call ro n b s
    | r => r
  | n + 1, .cond c a b, s => match evv s.tm c with
    | .bool q => if q then aexec P kd call ro n a s else aexec P kd call ro n b s
    | _ => none
  | n + 1, .block id b, s => match aexec P kd call ro n b s with
    | some (.exit j, s) => if j = id then some (.normal, s) else some (.exit j, s)
    | r => r
  | n + 1, .loop b, s => match aexec P kd call ro n b s with
    | some (.normal, s) => aexec P kd call ro n (.loop b) s
    | r => r
  | n + 1, .scope b, s => none
  | n + 1, .exit id, s => some (.exit id, s)
  | n + 1, .ret, s => some (.ret, s)
  | _ + 1, _, _ => none
def ares (P : Program) (s : St) : ResultVar → Option Cell
  | .tmp t => s.tm[t]?
  | .cell a t => match s.tm[a]? with
    | some (v, _) => (aload P #[] ⟨s.nx, []⟩ none t v s.nx s.hp).map fun q => (q.v, q.own)
    | none => none
def areslist (P : Program) (s : St) : List ResultVar → Option (List AVal)
  | [] => some []
  | r :: l => match ares P s r, areslist P s l with
    | some (v, _), some vs => some (v :: vs)
    | _, _ => none
def aresults (P : Program) (rs : List ResultVar) (s : St) : Option Cell :=
  match rs with
  | [r] => ares P s r
  | rs => (areslist P s rs).map fun vs => (.tup vs, false)
mutual
def AVal.idsLt (n : Nat) : AVal → Bool
  | .agg cs => idsLts n cs
  | .lst xs => idsLts n xs
  | .tup vs => idsLts n vs
  | .ptr id _ => decide (id < n)
  | .sl id _ _ _ _ => decide (id < n)
  | .pel e _ => e.idsLt n
  | .map id => decide (id < n)
  | .clo _ fs cs => idsLts n fs && idsLts n cs
  | _ => true
def idsLts (n : Nat) : List AVal → Bool
  | [] => true
  | v :: r => v.idsLt n && idsLts n r
end
/-- The elements that cells are. -/
def chunks (sz : Nat) : Nat → List AVal → List AVal
  | 0, _ => []
  | k + 1, us => .agg (us.take sz) :: chunks sz k (us.drop sz)
def chop (ag : Bool) (sz n : Nat) (us : List AVal) : List AVal := if ag then chunks sz n us else us
def mapO (f : AVal → Option AVal) : List AVal → Option (List AVal)
  | [] => some []
  | v :: r => match f v, mapO f r with
    | some u, some us => some (u :: us)
    | _, _ => none
def fzv (lo : Nat) (hp : Heap) (g : AVal → Option AVal) : AVal → Option AVal
  | .sl id off len sz ag => match hget hp id with
    | some (.cells cs) => if lo ≤ id ∧ 0 < sz ∧ (ag = true ∨ sz = 1) ∧ off + len * sz ≤ cs.length then (mapO g (((cs.drop off).take (len * sz)).map (·.1))).map fun us => .lst (chop ag sz len us) else none
    | _ => none
  | .agg cs => (mapO g cs).map .agg
  | .tup cs => (mapO g cs).map .tup
  | _ => none
/-- A value without the arrays from lo on: they change no more. -/
def fz (lo : Nat) (hp : Heap) : Nat → AVal → Option AVal
  | 0, v => if v.idsLt lo then some v else none
  | n + 1, v => if v.idsLt lo then some v else fzv lo hp (fz lo hp n) v
def hclean (n : Nat) (hp : Heap) : Bool := hp.all fun p => !decide (p.1 < n) || match p.2 with
  | .cells cs => cs.all fun c => c.1.idsLt n
  | .map es => es.all fun p => p.1.idsLt n && p.2.idsLt n
/-- Code, run for at most so many rounds, out of a function that tells what calls come to. -/
def abody (P : Program) (kd : Knd) (call : CallF) (n : Nat) (ro : Md) (fn : Func) (args : List AVal) (nx : Nat) (hp : Heap) : Option Res :=
  match fn.body with
  | some c => match aexec P kd call ro n c { tm := args.map (·, false) ++ List.replicate (fn.ntmps - args.length) (.tup [], false), nx, hp } with
    | some (.normal, s) | some (.ret, s) => (aresults P fn.results.toList s).map fun (v, own) => ⟨v, own, s.nx, s.hp⟩
    | _ => none
  | none => none
end Go.Proofs.YtkpfkadjmijmlaaGreatDoor.M
/- The machine without a count of rounds: what code comes to, as equations. -/
namespace Go.Proofs.YtkpfkadjmijmlaaGreatDoor.M
set_option linter.unusedVariables false

def CallF.le (a b : CallF) : Prop := ∀ f args ro nx hp r, a f args ro nx hp = some r → b f args ro nx hp = some r
theorem CallF.le.refl (a : CallF) : a.le a := fun _ _ _ _ _ _ h => h
section
variable {P : Program} {kd : Knd} {call call' : CallF}
theorem acall_mono (h : call.le call') (ro : Md) (c : Call) (ρ : Rho) (nx : Nat) (hp : Heap) {r : Out} (hr : acall P call ro c ρ nx hp = some r) : acall P call' ro c ρ nx hp = some r := by
  obtain ⟨callee, args, ts⟩ := c
  cases callee with
  | invoke a b => exact hr
  | builtin b => exact hr
  | value f =>
    simp only [acall] at hr ⊢
    cases hf : (ρ f).1 <;> rw [hf] at hr <;> first | exact hr | skip
    rename_i g fs cs
    simp only at hr ⊢
    cases hc : call g (fs ++ List.map (fun x => argOf ro.mu x (ρ x).1) args.toList ++ cs) ro.lo nx hp with
    | none => rw [hc] at hr; cases hr
    | some q =>
      rw [hc] at hr
      rw [h _ _ _ _ _ _ hc]
      exact hr
theorem aeff_mono (h : call.le call') (ops : Array Oper) (ro : Md) (o : Oper) (ρ : Rho) (nx : Nat) (hp : Heap) {r : Out} (hr : aeff P call ops ro o ρ nx hp = some r) : aeff P call' ops ro o ρ nx hp = some r := by
  obtain ⟨dst, op, type, pos, after, guard⟩ := o
  cases op <;> first | exact hr | exact acall_mono h ro _ ρ nx hp hr
theorem astep_mono (h : call.le call') (ops : Array Oper) (ro : Md) (o : Oper) (s : St) {r : St} (hr : astep P call ops ro o s = some r) : astep P call' ops ro o s = some r := by
  unfold astep at hr ⊢
  cases hw : awanted ops s.tm o with
  | none => rw [hw] at hr; cases hr
  | some q =>
    rw [hw] at hr
    cases q with
    | false => exact hr
    | true =>
      simp only at hr ⊢
      cases ho : aeff P call ops ro o (ev s.tm) s.nx s.hp with
      | none => rw [ho] at hr; cases hr
      | some q => rw [ho] at hr; rw [aeff_mono h ops ro o _ _ _ ho]; exact hr
theorem aops_mono (h : call.le call') (ops : Array Oper) (ro : Md) : ∀ (l : List Oper) (s : St) {r : St}, aops P call ops ro l s = some r → aops P call' ops ro l s = some r := by
  intro l
  induction l with
  | nil => intro s r hr; exact hr
  | cons o l ih =>
    intro s r hr
    simp only [aops] at hr ⊢
    obtain ⟨s1, h1, h2⟩ := Option.bind_eq_some_iff.1 hr
    rw [astep_mono h ops ro o s h1]
    exact ih _ h2
theorem aopsD_mono {ft : FuncId → Bool} (h : call.le call') (ops : Array Oper) (ro : Md) : ∀ (l : List (Oper × List Nat)) (j : Nat) (tr : List (Nat × Heap × Heap)) (fs : List (Nat × Option Nat)) (s : St) {r : St}, aopsD P ft call ops ro j l tr fs s = some r → aopsD P ft call' ops ro j l tr fs s = some r := by
  intro l
  induction l with
  | nil => intro j tr fs s r hr; exact hr
  | cons p l ih =>
    obtain ⟨o, q⟩ := p
    intro j tr fs s r hr
    simp only [aopsD] at hr ⊢
    cases h1 : astep P call ops ro o s with
    | none => rw [h1] at hr; cases hr
    | some s1 =>
      rw [h1] at hr
      rw [astep_mono h ops ro o s h1]
      simp only at hr ⊢
      split at hr
      · rename_i hd; rw [if_pos hd]
        split at hr
        · rename_i ht; rw [if_pos ht]; exact ih _ _ _ _ hr
        · cases hr
      · rename_i hd; rw [if_neg hd]
        split at hr
        · rename_i ht; rw [if_pos ht]; exact ih _ _ _ _ hr
        · cases hr
theorem areg_mono (h : call.le call') (ops : Array Oper) (ro : Md) (d : Bool) (s : St) {r : St} (hr : areg P kd call ops ro d s = some r) : areg P kd call' ops ro d s = some r := by
  unfold areg at hr ⊢
  split at hr
  · rename_i hd; rw [if_pos hd]
    cases hq : qOf kd ro.mu ops with
    | none => rw [hq] at hr; cases hr
    | some q => rw [hq] at hr; exact aopsD_mono h ops ro _ _ _ _ _ hr
  · rename_i hd; rw [if_neg hd]; exact aops_mono h ops ro _ s hr
theorem aexec_mono (h : call.le call') (ro : Md) : ∀ (n m : Nat) (c : Code) (s : St) {r : AExit × St}, n ≤ m → aexec P kd call ro n c s = some r → aexec P kd call' ro m c s = some r := by
  intro n
  induction n with
  | zero => intro m c s r _ hr; simp [aexec] at hr
  | succ n ih =>
    intro m c s r hm hr
    obtain ⟨m, rfl⟩ : ∃ k, m = k + 1 := ⟨m - 1, by omega⟩
    have hm' : n ≤ m := by omega
    cases c with
    | skip => exact hr
    | region id ops draw =>
      simp only [aexec] at hr ⊢
      cases ho : areg P kd call ops ro draw s with
      | none => rw [ho] at hr; cases hr
      | some q => rw [ho] at hr; rw [areg_mono h ops ro draw s ho]; exact hr
    | seq a b =>
      simp only [aexec] at hr ⊢
      cases ha : aexec P kd call ro n a s with
      | none => rw [ha] at hr; cases hr
      | some q =>
        rw [ha] at hr
        rw [ih m a s hm' ha]
        obtain ⟨x, s1⟩ := q
        cases x with
        | normal => exact ih m b s1 hm' hr
        | ret => exact hr
        | exit j => exact hr
    | cond c a b =>
      simp only [aexec] at hr ⊢
      cases hc : evv s.tm c <;> rw [hc] at hr <;> first | exact hr | skip
      simp only at hr ⊢
      split at hr
      · rename_i hq; rw [if_pos hq]; exact ih m a s hm' hr
      · rename_i hq; rw [if_neg hq]; exact ih m b s hm' hr
    | block id b =>
      simp only [aexec] at hr ⊢
      cases ha : aexec P kd call ro n b s with
      | none => rw [ha] at hr; cases hr
      | some q => rw [ha] at hr; rw [ih m b s hm' ha]; exact hr
    | loop b =>
      simp only [aexec] at hr ⊢
      cases ha : aexec P kd call ro n b s with
      | none => rw [ha] at hr; cases hr
      | some q =>
        rw [ha] at hr
        rw [ih m b s hm' ha]
        obtain ⟨x, s1⟩ := q
        cases x with
        | normal => exact ih m _ s1 hm' hr
        | ret => exact hr
        | exit j => exact hr
    | scope b => simp only [aexec] at hr ⊢; exact hr
    | exit id => exact hr
    | ret => exact hr
    | rangeFunc f ps a b => simp only [aexec] at hr ⊢; exact hr
    | label l => simp only [aexec] at hr ⊢; exact hr
    | goto l => simp only [aexec] at hr ⊢; exact hr
    | refuse w => simp only [aexec] at hr ⊢; exact hr
theorem abody_mono (h : call.le call') {n m : Nat} (hm : n ≤ m) (ro : Md) (fn : Func) (args : List AVal) (nx : Nat) (hp : Heap) {r : Res} (hr : abody P kd call n ro fn args nx hp = some r) : abody P kd call' m ro fn args nx hp = some r := by
  unfold abody at hr ⊢
  cases hb : fn.body with
  | none => rw [hb] at hr; cases hr
  | some c =>
    rw [hb] at hr
    simp only at hr ⊢
    cases ha : aexec P kd call ro n c { tm := args.map (·, false) ++ List.replicate (fn.ntmps - args.length) (.tup [], false), nx, hp } with
    | none => rw [ha] at hr; cases hr
    | some q => rw [ha] at hr; rw [aexec_mono h ro n m c _ hm ha]; exact hr
end

theorem mapO_mono {f g : AVal → Option AVal} (h : ∀ v u, f v = some u → g v = some u) : ∀ (l : List AVal) {us : List AVal}, mapO f l = some us → mapO g l = some us := by
  intro l
  induction l with
  | nil => intro us hu; exact hu
  | cons v l ih =>
    intro us hu
    simp only [mapO] at hu ⊢
    cases h1 : f v with
    | none => rw [h1] at hu; cases hu
    | some u =>
      cases h2 : mapO f l with
      | none => rw [h1, h2] at hu; cases hu
      | some r => rw [h1, h2] at hu; rw [h v u h1, ih h2]; exact hu
theorem fz_succ (lo : Nat) (hp : Heap) : ∀ (n : Nat) (v u : AVal), fz lo hp n v = some u → fz lo hp (n + 1) v = some u := by
  intro n
  induction n with
  | zero =>
    intro v u h
    simp only [fz] at h ⊢
    split at h
    · rename_i hl; rw [if_pos hl]; exact h
    · cases h
  | succ n ih =>
    intro v u h
    have e1 : fz lo hp (n + 1) v = if v.idsLt lo then some v else fzv lo hp (fz lo hp n) v := rfl
    have e2 : fz lo hp (n + 1 + 1) v = if v.idsLt lo then some v else fzv lo hp (fz lo hp (n + 1)) v := rfl
    rw [e1] at h
    rw [e2]
    split at h
    · rename_i hl; rw [if_pos hl]; exact h
    · rename_i hl
      rw [if_neg hl]
      clear e1 e2 hl
      unfold fzv at h ⊢
      cases v <;> (try simp only at h) <;> (try (cases h; done)) <;> simp only
      case agg cs =>
        obtain ⟨us, h1, rfl⟩ := Option.map_eq_some_iff.1 h
        rw [mapO_mono ih cs h1]; rfl
      case tup cs =>
        obtain ⟨us, h1, rfl⟩ := Option.map_eq_some_iff.1 h
        rw [mapO_mono ih cs h1]; rfl
      case sl id off len sz ag =>
        cases hg : hget hp id with
        | none => rw [hg] at h; cases h
        | some b =>
          rw [hg] at h
          cases b <;> (try simp only at h) <;> (try (cases h; done))
          simp only
          split at h
          · rename_i hc
            rw [if_pos hc]
            obtain ⟨us, h1, rfl⟩ := Option.map_eq_some_iff.1 h
            rw [mapO_mono ih _ h1]; rfl
          · cases h
theorem fz_mono {lo : Nat} {hp : Heap} {n m : Nat} (h : n ≤ m) {v u : AVal} (hu : fz lo hp n v = some u) : fz lo hp m v = some u := by
  induction h with
  | refl => exact hu
  | step _ ih => exact fz_succ lo hp _ v u ih

structure Cfg where
  P : Program
  pure : FuncId → Bool
  tidy : FuncId → Bool := fun _ => false
  mu : FuncId → List TypeId := fun _ => []
  val : FuncId → Bool := fun _ => false
  ft : FuncId → Bool := fun _ => false
  ext : CallF
/-- Calls that do not look at the heap. -/
def Cfg.vl (K : Cfg) (f : FuncId) : Bool := K.val f && K.pure f
def Cfg.kd (K : Cfg) (b : Bool) : Knd := ⟨K.pure, K.vl, b, K.ft⟩
def lift (nx : Nat) (hp : Heap) : Option Res → Option Res
  | some r => some ⟨r.v, r.own, nx, hp⟩
  | none => none
/-- A call that does not look at the heap is run over none. -/
def vlc (K : Cfg) (f : FuncId) (args : List AVal) (ro nx : Nat) (hp : Heap) (g : Nat → Nat → Heap → Option Res) : Option Res := if K.vl f then (if idsLts 0 args then lift nx hp (g 0 0 []) else none) else g ro nx hp
def slOwn (nx : Nat) (r : Res) : Bool := r.own && r.v.idsLt nx
/-- Nothing is left of what the call has made but its value. -/
def sealed (n nx : Nat) (hp : Heap) : Option Res → Option Res
  | some r => match fz nx r.hp n r.v with
    | some u => if u.idsLt nx then some ⟨u, slOwn nx r, nx, hp⟩ else none
    | none => none
  | none => none
def tidied (n nx : Nat) : Option Res → Option Res
  | some r => match fz nx r.hp n r.v with
    | some u => if u.idsLt nx && hclean nx r.hp then some ⟨u, slOwn nx r, nx, hlow nx r.hp⟩ else none
    | none => none
  | none => none
def fin (K : Cfg) (n : Nat) (f : FuncId) (nx : Nat) (hp : Heap) (x : Option Res) : Option Res := if K.pure f then sealed n nx hp x else if K.tidy f then tidied n nx x else x
def core (K : Cfg) (f : FuncId) (args : List AVal) (ro nx : Nat) (hp : Heap) (y : Func → Option Res) : Option Res := match K.ext f args ro nx hp with
  | some r => some r
  | none => if K.ft f then none else match K.P.funcs[f]? with
    | some fn => y fn
    | none => none
def low (K : Cfg) (f : FuncId) (ro nx : Nat) : Nat := if K.pure f then nx else ro
def arun (K : Cfg) : Nat → CallF
  | 0, f, args, ro, nx, hp => vlc K f args ro nx hp fun ro nx hp => fin K 0 f nx hp (K.ext f args (low K f ro nx) nx hp)
  | n + 1, f, args, ro, nx, hp => vlc K f args ro nx hp fun ro nx hp => fin K n f nx hp (core K f args (low K f ro nx) nx hp fun fn => abody K.P (K.kd false) (arun K n) n ⟨low K f ro nx, K.mu f⟩ fn args nx hp)
theorem lift_some {nx : Nat} {hp : Heap} {x y : Option Res} (h : ∀ r, x = some r → y = some r) {r : Res} (hr : lift nx hp x = some r) : lift nx hp y = some r := by
  cases x with
  | none => cases hr
  | some q => rw [h q rfl]; exact hr
theorem vlc_some {K : Cfg} {f : FuncId} {args : List AVal} {ro nx : Nat} {hp : Heap} {g g' : Nat → Nat → Heap → Option Res} (h : ∀ ro nx hp r, g ro nx hp = some r → g' ro nx hp = some r) {r : Res} (hr : vlc K f args ro nx hp g = some r) : vlc K f args ro nx hp g' = some r := by
  unfold vlc at hr ⊢
  split at hr
  · rename_i h1; rw [if_pos h1]
    split at hr
    · rename_i h2; rw [if_pos h2]; exact lift_some (h 0 0 []) hr
    · cases hr
  · rename_i h1; rw [if_neg h1]; exact h _ _ _ _ hr
theorem sealed_some {nx : Nat} {hp : Heap} {n m : Nat} (hn : n ≤ m) {x y : Option Res} (h : ∀ r, x = some r → y = some r) {r : Res} (hr : sealed n nx hp x = some r) : sealed m nx hp y = some r := by
  cases x with
  | none => cases hr
  | some q =>
    rw [h q rfl]
    simp only [sealed] at hr ⊢
    cases hf : fz nx q.hp n q.v with
    | none => rw [hf] at hr; cases hr
    | some u => rw [hf] at hr; rw [fz_mono hn hf]; exact hr
theorem tidied_some {nx : Nat} {n m : Nat} (hn : n ≤ m) {x y : Option Res} (h : ∀ r, x = some r → y = some r) {r : Res} (hr : tidied n nx x = some r) : tidied m nx y = some r := by
  cases x with
  | none => cases hr
  | some q =>
    rw [h q rfl]
    simp only [tidied] at hr ⊢
    cases hf : fz nx q.hp n q.v with
    | none => rw [hf] at hr; cases hr
    | some u => rw [hf] at hr; rw [fz_mono hn hf]; exact hr
theorem fin_some (K : Cfg) (f : FuncId) {nx : Nat} {hp : Heap} {n m : Nat} (hn : n ≤ m) {x y : Option Res} (h : ∀ r, x = some r → y = some r) {r : Res} (hr : fin K n f nx hp x = some r) : fin K m f nx hp y = some r := by
  unfold fin at hr ⊢
  split at hr
  · rename_i hp'; rw [if_pos hp']; exact sealed_some hn h hr
  · rename_i hp'
    rw [if_neg hp']
    split at hr
    · rename_i ht; rw [if_pos ht]; exact tidied_some hn h hr
    · rename_i ht; rw [if_neg ht]; exact h r hr
theorem core_some (K : Cfg) {f : FuncId} {args : List AVal} {ro nx : Nat} {hp : Heap} {y z : Func → Option Res} (h : ∀ fn r, y fn = some r → z fn = some r) {r : Res} (hr : core K f args ro nx hp y = some r) : core K f args ro nx hp z = some r := by
  unfold core at hr ⊢
  cases he : K.ext f args ro nx hp with
  | some q => rw [he] at hr; exact hr
  | none =>
    rw [he] at hr
    simp only at hr ⊢
    split at hr
    · cases hr
    rename_i hft
    rw [if_neg hft]
    cases hf : K.P.funcs[f]? with
    | none => rw [hf] at hr; cases hr
    | some fn => rw [hf] at hr; exact h fn r hr
theorem arun_step (K : Cfg) {n m : Nat} (h : (arun K n).le (arun K m)) (hm : n ≤ m) : (arun K (n + 1)).le (arun K (m + 1)) := by
  intro f args ro nx hp r hr
  rw [arun] at hr ⊢
  exact vlc_some (fun ro nx hp r hr => fin_some K f hm (fun q hq => core_some K (fun fn r hr => abody_mono h hm _ _ _ _ _ hr) hq) hr) hr
theorem arun_succ (K : Cfg) (n : Nat) : (arun K n).le (arun K (n + 1)) := by
  induction n with
  | zero =>
    intro f args ro nx hp r hr
    rw [arun.eq_def] at hr
    rw [arun.eq_def]
    simp only at hr ⊢
    exact vlc_some (fun ro nx hp r hr => fin_some K f (Nat.le_refl 0) (fun q hq => by unfold core; rw [hq]) hr) hr
  | succ n ih => exact arun_step K ih (Nat.le_succ n)
theorem arun_le (K : Cfg) {n m : Nat} (h : n ≤ m) : (arun K n).le (arun K m) := by
  induction h with
  | refl => exact CallF.le.refl _
  | step _ ih => exact fun f args ro nx hp r hr => arun_succ K _ f args ro nx hp r (ih f args ro nx hp r hr)

open Classical in
/-- What a call comes to, however many rounds it takes. -/
noncomputable def R (K : Cfg) : CallF := fun f args ro nx hp => if h : ∃ r, ∃ n, arun K n f args ro nx hp = some r then some (Classical.choose h) else none
theorem R_iff {K : Cfg} {f : FuncId} {args : List AVal} {ro nx : Nat} {hp : Heap} {r : Res} : R K f args ro nx hp = some r ↔ ∃ n, arun K n f args ro nx hp = some r := by
  unfold R
  constructor
  · intro h
    split at h
    · rename_i hx
      injection h with h; subst h
      exact Classical.choose_spec hx
    · cases h
  · rintro ⟨n, hn⟩
    have hx : ∃ r, ∃ n, arun K n f args ro nx hp = some r := ⟨r, n, hn⟩
    rw [dif_pos hx]
    obtain ⟨m, hm⟩ := Classical.choose_spec hx
    have h1 := arun_le K (Nat.le_max_left n m) _ _ _ _ _ _ hn
    have h2 := arun_le K (Nat.le_max_right n m) _ _ _ _ _ _ hm
    rw [h1] at h2
    exact h2.symm
theorem arun_R (K : Cfg) (n : Nat) : (arun K n).le (R K) := fun f args ro nx hp r h => R_iff.2 ⟨n, h⟩
open Classical in
/-- What code comes to. -/
noncomputable def XX (sl : Bool) (K : Cfg) (ro : Md) (c : Code) (s : St) : Option (AExit × St) := if h : ∃ r, ∃ n, aexec K.P (K.kd sl) (R K) ro n c s = some r then some (Classical.choose h) else none
theorem XX_iff {sl : Bool} {K : Cfg} {ro : Md} {c : Code} {s : St} {r : AExit × St} : XX sl K ro c s = some r ↔ ∃ n, aexec K.P (K.kd sl) (R K) ro n c s = some r := by
  unfold XX
  constructor
  · intro h
    split at h
    · rename_i hx
      injection h with h; subst h
      exact Classical.choose_spec hx
    · cases h
  · rintro ⟨n, hn⟩
    have hx : ∃ r, ∃ n, aexec K.P (K.kd sl) (R K) ro n c s = some r := ⟨r, n, hn⟩
    rw [dif_pos hx]
    obtain ⟨m, hm⟩ := Classical.choose_spec hx
    have h1 := aexec_mono (CallF.le.refl (R K)) ro _ _ c s (Nat.le_max_left n m) hn
    have h2 := aexec_mono (CallF.le.refl (R K)) ro _ _ c s (Nat.le_max_right n m) hm
    rw [h1] at h2
    exact h2.symm
theorem opt_ext {α : Type} {a b : Option α} (h : ∀ r, a = some r ↔ b = some r) : a = b := Option.ext h
section
variable (sl : Bool) (K : Cfg) (ro : Md) (s : St)
/-- One step: what holds with one more round. -/
theorem XX_of {c : Code} {y : Option (AExit × St)} (h1 : ∀ n r, aexec K.P (K.kd sl) (R K) ro (n + 1) c s = some r → y = some r) (h2 : ∀ r, y = some r → ∃ n, aexec K.P (K.kd sl) (R K) ro n c s = some r) : XX sl K ro c s = y := by
  refine opt_ext fun r => ⟨fun h => ?_, fun h => XX_iff.2 (h2 r h)⟩
  obtain ⟨n, hn⟩ := XX_iff.1 h
  exact h1 n r (aexec_mono (CallF.le.refl _) ro n (n + 1) c s (Nat.le_succ n) hn)
theorem XX_skip : XX sl K ro .skip s = some (.normal, s) := XX_of sl K ro s (fun n r h => h) fun r h => ⟨1, h⟩
theorem XX_exit (id : Nat) : XX sl K ro (.exit id) s = some (.exit id, s) := XX_of sl K ro s (fun n r h => h) fun r h => ⟨1, h⟩
theorem XX_ret : XX sl K ro .ret s = some (.ret, s) := XX_of sl K ro s (fun n r h => h) fun r h => ⟨1, h⟩
theorem XX_region (id : Nat) (ops : Array Oper) (d : Bool) : XX sl K ro (.region id ops d) s = (areg K.P (K.kd sl) (R K) ops ro d s).map fun s => (.normal, s) :=
  XX_of sl K ro s (fun n r h => h) fun r h => ⟨1, h⟩
theorem XX_seq (a b : Code) : XX sl K ro (.seq a b) s = match XX sl K ro a s with | some (.normal, s) => XX sl K ro b s | r => r := by
  refine XX_of sl K ro s (fun n r h => ?_) fun r h => ?_
  · simp only [aexec] at h
    cases ha : aexec K.P (K.kd sl) (R K) ro n a s with
    | none => rw [ha] at h; cases h
    | some q =>
      rw [ha] at h
      rw [XX_iff.2 ⟨n, ha⟩]
      obtain ⟨x, s1⟩ := q
      cases x with
      | normal => exact XX_iff.2 ⟨n, h⟩
      | ret => exact h
      | exit j => exact h
  · cases ha : XX sl K ro a s with
    | none => rw [ha] at h; cases h
    | some q =>
      rw [ha] at h
      obtain ⟨n, hn⟩ := XX_iff.1 ha
      obtain ⟨x, s1⟩ := q
      cases x with
      | normal =>
        obtain ⟨m, hm⟩ := XX_iff.1 h
        refine ⟨max n m + 1, ?_⟩
        simp only [aexec]
        rw [aexec_mono (CallF.le.refl _) ro n _ a s (Nat.le_max_left n m) hn]
        exact aexec_mono (CallF.le.refl _) ro m _ b s1 (Nat.le_max_right n m) hm
      | ret => exact ⟨n + 1, by simp only [aexec]; rw [hn]; exact h⟩
      | exit j => exact ⟨n + 1, by simp only [aexec]; rw [hn]; exact h⟩
theorem XX_cond (c : Operand) (a b : Code) : XX sl K ro (.cond c a b) s = match evv s.tm c with | .bool q => if q then XX sl K ro a s else XX sl K ro b s | _ => none := by
  refine XX_of sl K ro s (fun n r h => ?_) fun r h => ?_
  · simp only [aexec] at h
    cases hc : evv s.tm c <;> rw [hc] at h <;> first | (cases h; done) | skip
    simp only at h ⊢
    split at h
    · rename_i hq; rw [if_pos hq]; exact XX_iff.2 ⟨n, h⟩
    · rename_i hq; rw [if_neg hq]; exact XX_iff.2 ⟨n, h⟩
  · cases hc : evv s.tm c <;> rw [hc] at h <;> first | (cases h; done) | skip
    simp only at h
    split at h
    · rename_i hq
      obtain ⟨n, hn⟩ := XX_iff.1 h
      exact ⟨n + 1, by simp only [aexec]; rw [hc]; simp only; rw [if_pos hq]; exact hn⟩
    · rename_i hq
      obtain ⟨n, hn⟩ := XX_iff.1 h
      exact ⟨n + 1, by simp only [aexec]; rw [hc]; simp only; rw [if_neg hq]; exact hn⟩
theorem XX_block (id : Nat) (b : Code) : XX sl K ro (.block id b) s = match XX sl K ro b s with | some (.exit j, s) => if j = id then some (.normal, s) else some (.exit j, s) | r => r := by
  refine XX_of sl K ro s (fun n r h => ?_) fun r h => ?_
  · simp only [aexec] at h
    cases ha : aexec K.P (K.kd sl) (R K) ro n b s with
    | none => rw [ha] at h; cases h
    | some q => rw [ha] at h; rw [XX_iff.2 ⟨n, ha⟩]; exact h
  · cases ha : XX sl K ro b s with
    | none => rw [ha] at h; cases h
    | some q =>
      rw [ha] at h
      obtain ⟨n, hn⟩ := XX_iff.1 ha
      exact ⟨n + 1, by simp only [aexec]; rw [hn]; exact h⟩
theorem XX_loop (b : Code) : XX sl K ro (.loop b) s = match XX sl K ro b s with | some (.normal, s) => XX sl K ro (.loop b) s | r => r := by
  refine XX_of sl K ro s (fun n r h => ?_) fun r h => ?_
  · simp only [aexec] at h
    cases ha : aexec K.P (K.kd sl) (R K) ro n b s with
    | none => rw [ha] at h; cases h
    | some q =>
      rw [ha] at h
      rw [XX_iff.2 ⟨n, ha⟩]
      obtain ⟨x, s1⟩ := q
      cases x with
      | normal => exact XX_iff.2 ⟨n, h⟩
      | ret => exact h
      | exit j => exact h
  · cases ha : XX sl K ro b s with
    | none => rw [ha] at h; cases h
    | some q =>
      rw [ha] at h
      obtain ⟨n, hn⟩ := XX_iff.1 ha
      obtain ⟨x, s1⟩ := q
      cases x with
      | normal =>
        obtain ⟨m, hm⟩ := XX_iff.1 h
        refine ⟨max n m + 1, ?_⟩
        simp only [aexec]
        rw [aexec_mono (CallF.le.refl _) ro n _ b s (Nat.le_max_left n m) hn]
        exact aexec_mono (CallF.le.refl _) ro m _ _ s1 (Nat.le_max_right n m) hm
      | ret => exact ⟨n + 1, by simp only [aexec]; rw [hn]; exact h⟩
      | exit j => exact ⟨n + 1, by simp only [aexec]; rw [hn]; exact h⟩
end
/-- What code comes to that has been made slim. -/
noncomputable def X (K : Cfg) (ro : Md) (c : Code) (s : St) : Option (AExit × St) := XX true K ro c s
theorem X_iff {K : Cfg} {ro : Md} {c : Code} {s : St} {r : AExit × St} : X K ro c s = some r ↔ ∃ n, aexec K.P (K.kd true) (R K) ro n c s = some r := XX_iff
section
variable (K : Cfg) (ro : Md) (s : St)
theorem X_skip : X K ro .skip s = some (.normal, s) := XX_skip true K ro s
theorem X_exit (id : Nat) : X K ro (.exit id) s = some (.exit id, s) := XX_exit true K ro s id
theorem X_ret : X K ro .ret s = some (.ret, s) := XX_ret true K ro s
theorem X_region (id : Nat) (ops : Array Oper) (d : Bool) : X K ro (.region id ops d) s = (areg K.P (K.kd true) (R K) ops ro d s).map fun s => (.normal, s) := XX_region true K ro s id ops d
theorem X_seq (a b : Code) : X K ro (.seq a b) s = match X K ro a s with | some (.normal, s) => X K ro b s | r => r := XX_seq true K ro s a b
theorem X_cond (c : Operand) (a b : Code) : X K ro (.cond c a b) s = match evv s.tm c with | .bool q => if q then X K ro a s else X K ro b s | _ => none := XX_cond true K ro s c a b
theorem X_block (id : Nat) (b : Code) : X K ro (.block id b) s = match X K ro b s with | some (.exit j, s) => if j = id then some (.normal, s) else some (.exit j, s) | r => r := XX_block true K ro s id b
theorem X_loop (b : Code) : X K ro (.loop b) s = match X K ro b s with | some (.normal, s) => X K ro (.loop b) s | r => r := XX_loop true K ro s b
end
/-- A function's body. -/
noncomputable def XB (K : Cfg) (ro : Md) (fn : Func) (args : List AVal) (nx : Nat) (hp : Heap) : Option Res :=
  match fn.body with
  | some c => match XX false K ro c { tm := args.map (·, false) ++ List.replicate (fn.ntmps - args.length) (.tup [], false), nx, hp } with
    | some (.normal, s) | some (.ret, s) => (aresults K.P fn.results.toList s).map fun (v, own) => ⟨v, own, s.nx, s.hp⟩
    | _ => none
  | none => none
section
variable {K : Cfg}
theorem acall_cont (ro : Md) (c : Call) (ρ : Rho) (nx : Nat) (hp : Heap) {r : Out} (hr : acall K.P (R K) ro c ρ nx hp = some r) : ∃ m, acall K.P (arun K m) ro c ρ nx hp = some r := by
  obtain ⟨callee, args, ts⟩ := c
  cases callee with
  | invoke a b => exact ⟨0, hr⟩
  | builtin b => exact ⟨0, hr⟩
  | value f =>
    simp only [acall] at hr ⊢
    cases hf : (ρ f).1 <;> rw [hf] at hr <;> first | exact ⟨0, hr⟩ | skip
    rename_i g fs cs
    simp only at hr ⊢
    cases hc : R K g (fs ++ List.map (fun x => argOf ro.mu x (ρ x).1) args.toList ++ cs) ro.lo nx hp with
    | none => rw [hc] at hr; cases hr
    | some q =>
      rw [hc] at hr
      obtain ⟨m, hm⟩ := R_iff.1 hc
      exact ⟨m, by rw [hm]; exact hr⟩
theorem aeff_cont (ops : Array Oper) (ro : Md) (o : Oper) (ρ : Rho) (nx : Nat) (hp : Heap) {r : Out} (hr : aeff K.P (R K) ops ro o ρ nx hp = some r) : ∃ m, aeff K.P (arun K m) ops ro o ρ nx hp = some r := by
  obtain ⟨dst, op, type, pos, after, guard⟩ := o
  cases op <;> first | exact ⟨0, hr⟩ | exact acall_cont ro _ ρ nx hp hr
theorem astep_cont (ops : Array Oper) (ro : Md) (o : Oper) (s : St) {r : St} (hr : astep K.P (R K) ops ro o s = some r) : ∃ m, astep K.P (arun K m) ops ro o s = some r := by
  unfold astep at hr ⊢
  cases hw : awanted ops s.tm o with
  | none => rw [hw] at hr; cases hr
  | some q =>
    rw [hw] at hr
    cases q with
    | false => exact ⟨0, hr⟩
    | true =>
      simp only at hr ⊢
      cases ho : aeff K.P (R K) ops ro o (ev s.tm) s.nx s.hp with
      | none => rw [ho] at hr; cases hr
      | some q =>
        rw [ho] at hr
        obtain ⟨m, hm⟩ := aeff_cont ops ro o _ _ _ ho
        exact ⟨m, by rw [hm]; exact hr⟩
theorem aops_cont (ops : Array Oper) (ro : Md) : ∀ (l : List Oper) (s : St) {r : St}, aops K.P (R K) ops ro l s = some r → ∃ m, aops K.P (arun K m) ops ro l s = some r := by
  intro l
  induction l with
  | nil => intro s r hr; exact ⟨0, hr⟩
  | cons o l ih =>
    intro s r hr
    simp only [aops] at hr
    obtain ⟨s1, h1, h2⟩ := Option.bind_eq_some_iff.1 hr
    obtain ⟨m1, h1⟩ := astep_cont ops ro o s h1
    obtain ⟨m2, h2⟩ := ih _ h2
    refine ⟨max m1 m2, ?_⟩
    simp only [aops]
    rw [astep_mono (arun_le K (Nat.le_max_left m1 m2)) ops ro o s h1]
    exact aops_mono (arun_le K (Nat.le_max_right m1 m2)) ops ro l _ h2
theorem aopsD_cont {ft : FuncId → Bool} (ops : Array Oper) (ro : Md) : ∀ (l : List (Oper × List Nat)) (j : Nat) (tr : List (Nat × Heap × Heap)) (fs : List (Nat × Option Nat)) (s : St) {r : St}, aopsD K.P ft (R K) ops ro j l tr fs s = some r → ∃ m, aopsD K.P ft (arun K m) ops ro j l tr fs s = some r := by
  intro l
  induction l with
  | nil => intro j tr fs s r hr; exact ⟨0, hr⟩
  | cons p l ih =>
    obtain ⟨o, q⟩ := p
    intro j tr fs s r hr
    simp only [aopsD] at hr
    cases h1 : astep K.P (R K) ops ro o s with
    | none => rw [h1] at hr; cases hr
    | some s1 =>
      rw [h1] at hr
      obtain ⟨m1, h1⟩ := astep_cont ops ro o s h1
      simp only at hr
      split at hr
      · rename_i hd
        split at hr
        · rename_i ht
          obtain ⟨m2, h2⟩ := ih _ _ _ _ hr
          refine ⟨max m1 m2, ?_⟩
          simp only [aopsD]
          rw [astep_mono (arun_le K (Nat.le_max_left m1 m2)) ops ro o s h1]
          simp only
          rw [if_pos hd, if_pos ht]
          exact aopsD_mono (arun_le K (Nat.le_max_right m1 m2)) ops ro l _ _ _ _ h2
        · cases hr
      · rename_i hd
        split at hr
        · rename_i ht
          obtain ⟨m2, h2⟩ := ih _ _ _ _ hr
          refine ⟨max m1 m2, ?_⟩
          simp only [aopsD]
          rw [astep_mono (arun_le K (Nat.le_max_left m1 m2)) ops ro o s h1]
          simp only
          rw [if_neg hd, if_pos ht]
          exact aopsD_mono (arun_le K (Nat.le_max_right m1 m2)) ops ro l _ _ _ _ h2
        · cases hr
theorem areg_cont (kd : Knd) (ops : Array Oper) (ro : Md) (d : Bool) (s : St) {r : St} (hr : areg K.P kd (R K) ops ro d s = some r) : ∃ m, areg K.P kd (arun K m) ops ro d s = some r := by
  unfold areg at hr ⊢
  split at hr
  · rename_i hd; simp only [hd, if_true]
    cases hq : qOf kd ro.mu ops with
    | none => rw [hq] at hr; cases hr
    | some q => rw [hq] at hr; exact aopsD_cont ops ro _ _ _ _ _ hr
  · rename_i hd
    obtain ⟨m, hm⟩ := aops_cont ops ro _ s hr
    exact ⟨m, by rw [if_neg hd]; exact hm⟩
theorem aexec_cont (sl : Bool) (ro : Md) : ∀ (n : Nat) (c : Code) (s : St) {r : AExit × St}, aexec K.P (K.kd sl) (R K) ro n c s = some r → ∃ m, aexec K.P (K.kd sl) (arun K m) ro n c s = some r := by
  intro n
  induction n with
  | zero => intro c s r hr; simp [aexec] at hr
  | succ n ih =>
    intro c s r hr
    have two : ∀ (a b : Code) (s s1 : St) (x : AExit) (r : AExit × St), aexec K.P (K.kd sl) (R K) ro n a s = some (x, s1) → aexec K.P (K.kd sl) (R K) ro n b s1 = some r → ∃ m, aexec K.P (K.kd sl) (arun K m) ro n a s = some (x, s1) ∧ aexec K.P (K.kd sl) (arun K m) ro n b s1 = some r := by
      intro a b s s1 x r h1 h2
      obtain ⟨m1, h1⟩ := ih a s h1
      obtain ⟨m2, h2⟩ := ih b s1 h2
      exact ⟨max m1 m2, aexec_mono (arun_le K (Nat.le_max_left m1 m2)) ro n n a s (Nat.le_refl _) h1, aexec_mono (arun_le K (Nat.le_max_right m1 m2)) ro n n b s1 (Nat.le_refl _) h2⟩
    cases c with
    | skip => exact ⟨0, hr⟩
    | region id ops d =>
      simp only [aexec] at hr ⊢
      cases ho : areg K.P (K.kd sl) (R K) ops ro d s with
      | none => rw [ho] at hr; cases hr
      | some q => rw [ho] at hr; obtain ⟨m, hm⟩ := areg_cont _ ops ro d s ho; exact ⟨m, by rw [hm]; exact hr⟩
    | seq a b =>
      simp only [aexec] at hr ⊢
      cases ha : aexec K.P (K.kd sl) (R K) ro n a s with
      | none => rw [ha] at hr; cases hr
      | some q =>
        rw [ha] at hr
        obtain ⟨x, s1⟩ := q
        cases x with
        | normal => obtain ⟨m, h1, h2⟩ := two a b s s1 _ r ha hr; exact ⟨m, by rw [h1]; exact h2⟩
        | ret => obtain ⟨m, h1⟩ := ih a s ha; exact ⟨m, by rw [h1]; exact hr⟩
        | exit j => obtain ⟨m, h1⟩ := ih a s ha; exact ⟨m, by rw [h1]; exact hr⟩
    | cond c a b =>
      simp only [aexec] at hr ⊢
      cases hc : evv s.tm c <;> rw [hc] at hr <;> first | (cases hr; done) | skip
      simp only at hr ⊢
      split at hr
      · rename_i hq; obtain ⟨m, hm⟩ := ih a s hr; exact ⟨m, by rw [if_pos hq]; exact hm⟩
      · rename_i hq; obtain ⟨m, hm⟩ := ih b s hr; exact ⟨m, by rw [if_neg hq]; exact hm⟩
    | block id b =>
      simp only [aexec] at hr ⊢
      cases ha : aexec K.P (K.kd sl) (R K) ro n b s with
      | none => rw [ha] at hr; cases hr
      | some q => rw [ha] at hr; obtain ⟨m, h1⟩ := ih b s ha; exact ⟨m, by rw [h1]; exact hr⟩
    | loop b =>
      simp only [aexec] at hr ⊢
      cases ha : aexec K.P (K.kd sl) (R K) ro n b s with
      | none => rw [ha] at hr; cases hr
      | some q =>
        rw [ha] at hr
        obtain ⟨x, s1⟩ := q
        cases x with
        | normal => obtain ⟨m, h1, h2⟩ := two b _ s s1 _ r ha hr; exact ⟨m, by rw [h1]; exact h2⟩
        | ret => obtain ⟨m, h1⟩ := ih b s ha; exact ⟨m, by rw [h1]; exact hr⟩
        | exit j => obtain ⟨m, h1⟩ := ih b s ha; exact ⟨m, by rw [h1]; exact hr⟩
    | exit id => exact ⟨0, hr⟩
    | ret => exact ⟨0, hr⟩
    | scope b => simp only [aexec] at hr; cases hr
    | rangeFunc f ps a b => simp only [aexec] at hr; cases hr
    | label l => simp only [aexec] at hr; cases hr
    | goto l => simp only [aexec] at hr; cases hr
    | refuse w => simp only [aexec] at hr; cases hr
theorem XB_iff {ro : Md} {fn : Func} {args : List AVal} {nx : Nat} {hp : Heap} {r : Res} : XB K ro fn args nx hp = some r ↔ ∃ n, abody K.P (K.kd false) (R K) n ro fn args nx hp = some r := by
  unfold XB abody
  cases hb : fn.body with
  | none => simp
  | some c =>
    simp only
    constructor
    · intro h
      cases ha : XX false K ro c { tm := args.map (·, false) ++ List.replicate (fn.ntmps - args.length) (.tup [], false), nx, hp } with
      | none => rw [ha] at h; cases h
      | some q => rw [ha] at h; obtain ⟨n, hn⟩ := XX_iff.1 ha; exact ⟨n, by rw [hn]; exact h⟩
    · rintro ⟨n, h⟩
      cases ha : aexec K.P (K.kd false) (R K) ro n c { tm := args.map (·, false) ++ List.replicate (fn.ntmps - args.length) (.tup [], false), nx, hp } with
      | none => rw [ha] at h; cases h
      | some q => rw [ha] at h; rw [XX_iff.2 ⟨n, ha⟩]; exact h
theorem XB_arun {ro : Md} {fn : Func} {args : List AVal} {nx : Nat} {hp : Heap} {r : Res} : XB K ro fn args nx hp = some r ↔ ∃ n, abody K.P (K.kd false) (arun K n) n ro fn args nx hp = some r := by
  rw [XB_iff]
  constructor
  · rintro ⟨n, h⟩
    unfold abody at h
    cases hb : fn.body with
    | none => rw [hb] at h; cases h
    | some c =>
      rw [hb] at h
      simp only at h
      cases ha : aexec K.P (K.kd false) (R K) ro n c { tm := args.map (·, false) ++ List.replicate (fn.ntmps - args.length) (.tup [], false), nx, hp } with
      | none => rw [ha] at h; cases h
      | some q =>
        rw [ha] at h
        obtain ⟨m, hm⟩ := aexec_cont false ro n c _ ha
        refine ⟨max n m, abody_mono (arun_le K (Nat.le_max_right n m)) (Nat.le_max_left n m) ro fn args nx hp ?_⟩
        unfold abody
        rw [hb]
        simp only
        rw [hm]
        exact h
  · rintro ⟨n, h⟩
    exact ⟨n, abody_mono (arun_R K n) (Nat.le_refl n) ro fn args nx hp h⟩
open Classical in
/-- A value, frozen. -/
noncomputable def FZ (lo : Nat) (hp : Heap) (v : AVal) : Option AVal := if h : ∃ u, ∃ n, fz lo hp n v = some u then some (Classical.choose h) else none
theorem FZ_iff {lo : Nat} {hp : Heap} {v u : AVal} : FZ lo hp v = some u ↔ ∃ n, fz lo hp n v = some u := by
  unfold FZ
  constructor
  · intro h
    split at h
    · rename_i hx
      injection h with h; subst h
      exact Classical.choose_spec hx
    · cases h
  · rintro ⟨n, hn⟩
    have hx : ∃ u, ∃ n, fz lo hp n v = some u := ⟨u, n, hn⟩
    rw [dif_pos hx]
    obtain ⟨m, hm⟩ := Classical.choose_spec hx
    have h1 := fz_mono (Nat.le_max_left n m) hn
    have h2 := fz_mono (Nat.le_max_right n m) hm
    rw [h1] at h2
    exact h2.symm
noncomputable def Sealed (nx : Nat) (hp : Heap) : Option Res → Option Res
  | some r => match FZ nx r.hp r.v with
    | some u => if u.idsLt nx then some ⟨u, slOwn nx r, nx, hp⟩ else none
    | none => none
  | none => none
noncomputable def Tidied (nx : Nat) : Option Res → Option Res
  | some r => match FZ nx r.hp r.v with
    | some u => if u.idsLt nx && hclean nx r.hp then some ⟨u, slOwn nx r, nx, hlow nx r.hp⟩ else none
    | none => none
  | none => none
noncomputable def Fin (K : Cfg) (f : FuncId) (nx : Nat) (hp : Heap) (x : Option Res) : Option Res := if K.pure f then Sealed nx hp x else if K.tidy f then Tidied nx x else x
theorem Sealed_iff {nx : Nat} {hp : Heap} {x : Option Res} {r : Res} : Sealed nx hp x = some r ↔ ∃ n, sealed n nx hp x = some r := by
  cases x with
  | none => exact ⟨fun h => (by cases h), fun ⟨_, h⟩ => (by cases h)⟩
  | some q =>
    simp only [Sealed, sealed]
    constructor
    · intro h
      cases hf : FZ nx q.hp q.v with
      | none => rw [hf] at h; cases h
      | some u => rw [hf] at h; obtain ⟨n, hn⟩ := FZ_iff.1 hf; exact ⟨n, by rw [hn]; exact h⟩
    · rintro ⟨n, h⟩
      cases hf : fz nx q.hp n q.v with
      | none => rw [hf] at h; cases h
      | some u => rw [hf] at h; rw [FZ_iff.2 ⟨n, hf⟩]; exact h
theorem Tidied_iff {nx : Nat} {x : Option Res} {r : Res} : Tidied nx x = some r ↔ ∃ n, tidied n nx x = some r := by
  cases x with
  | none => exact ⟨fun h => (by cases h), fun ⟨_, h⟩ => (by cases h)⟩
  | some q =>
    simp only [Tidied, tidied]
    constructor
    · intro h
      cases hf : FZ nx q.hp q.v with
      | none => rw [hf] at h; cases h
      | some u => rw [hf] at h; obtain ⟨n, hn⟩ := FZ_iff.1 hf; exact ⟨n, by rw [hn]; exact h⟩
    · rintro ⟨n, h⟩
      cases hf : fz nx q.hp n q.v with
      | none => rw [hf] at h; cases h
      | some u => rw [hf] at h; rw [FZ_iff.2 ⟨n, hf⟩]; exact h
theorem Fin_iff {f : FuncId} {nx : Nat} {hp : Heap} {x : Option Res} {r : Res} : Fin K f nx hp x = some r ↔ ∃ n, fin K n f nx hp x = some r := by
  unfold Fin fin
  split
  · exact Sealed_iff
  · split
    · exact Tidied_iff
    · exact ⟨fun h => ⟨0, h⟩, fun ⟨_, h⟩ => h⟩
theorem R_eq (f : FuncId) (args : List AVal) (ro nx : Nat) (hp : Heap) : R K f args ro nx hp = vlc K f args ro nx hp fun ro nx hp => Fin K f nx hp (core K f args (low K f ro nx) nx hp fun fn => XB K ⟨low K f ro nx, K.mu f⟩ fn args nx hp) := by
  have key : ∀ (ro nx : Nat) (hp : Heap) (r : Res), Fin K f nx hp (core K f args (low K f ro nx) nx hp fun fn => XB K ⟨low K f ro nx, K.mu f⟩ fn args nx hp) = some r → ∃ n, fin K n f nx hp (core K f args (low K f ro nx) nx hp fun fn => abody K.P (K.kd false) (arun K n) n ⟨low K f ro nx, K.mu f⟩ fn args nx hp) = some r := by
    intro ro nx hp r h
    obtain ⟨n, hn⟩ := Fin_iff.1 h
    generalize hx : core K f args (low K f ro nx) nx hp (fun fn => XB K ⟨low K f ro nx, K.mu f⟩ fn args nx hp) = x at hn
    cases x with
    | none => exact ⟨0, by
        have : fin K 0 f nx hp none = fin K n f nx hp none := by unfold fin sealed tidied; rfl
        have h2 : core K f args (low K f ro nx) nx hp (fun fn => abody K.P (K.kd false) (arun K 0) 0 ⟨low K f ro nx, K.mu f⟩ fn args nx hp) = none := by
          cases hc : core K f args (low K f ro nx) nx hp (fun fn => abody K.P (K.kd false) (arun K 0) 0 ⟨low K f ro nx, K.mu f⟩ fn args nx hp) with
          | none => rfl
          | some q => rw [core_some K (fun fn r hr => XB_arun.2 ⟨0, hr⟩) hc] at hx; cases hx
        rw [h2, this]; exact hn⟩
    | some q =>
      have : ∃ m, core K f args (low K f ro nx) nx hp (fun fn => abody K.P (K.kd false) (arun K m) m ⟨low K f ro nx, K.mu f⟩ fn args nx hp) = some q := by
        unfold core at hx ⊢
        cases he : K.ext f args (low K f ro nx) nx hp with
        | some q' => rw [he] at hx; exact ⟨0, hx⟩
        | none =>
          rw [he] at hx
          simp only at hx ⊢
          split at hx
          · cases hx
          rename_i hft
          simp only [if_neg hft]
          cases hf : K.P.funcs[f]? with
          | none => rw [hf] at hx; cases hx
          | some fn => rw [hf] at hx; exact XB_arun.1 hx
      obtain ⟨m, hm⟩ := this
      refine ⟨max n m, ?_⟩
      exact fin_some K f (Nat.le_max_left n m) (fun q' hq' => by
        injection hq' with hq'; subst hq'
        exact core_some K (fun fn r hr => abody_mono (arun_le K (Nat.le_max_right n m)) (Nat.le_max_right n m) _ _ _ _ _ hr) hm) hn
  refine opt_ext fun r => ?_
  rw [R_iff]
  constructor
  · rintro ⟨n, hn⟩
    have hn := arun_succ K n _ _ _ _ _ _ hn
    rw [arun] at hn
    exact vlc_some (fun ro nx hp r hr => Fin_iff.2 ⟨n, fin_some K f (Nat.le_refl n) (fun q hq => core_some K (fun fn r hr => XB_arun.2 ⟨n, hr⟩) hq) hr⟩) hn
  · intro h
    unfold vlc at h
    split at h
    · rename_i h1
      split at h
      · rename_i h2
        dsimp only at h
        cases hG : Fin K f 0 [] (core K f args (low K f 0 0) 0 [] fun fn => XB K ⟨low K f 0 0, K.mu f⟩ fn args 0 []) with
        | none => rw [hG] at h; cases h
        | some q =>
          rw [hG] at h
          obtain ⟨n, hn⟩ := key 0 0 [] q hG
          exact ⟨n + 1, by rw [arun]; unfold vlc; rw [if_pos h1, if_pos h2]; dsimp only; rw [hn]; exact h⟩
      · cases h
    · rename_i h1
      obtain ⟨n, hn⟩ := key ro nx hp r h
      exact ⟨n + 1, by rw [arun]; unfold vlc; rw [if_neg h1]; exact hn⟩
end
end Go.Proofs.YtkpfkadjmijmlaaGreatDoor.M
/- The machine's equations in the form in which simp runs them. -/
namespace Go.Proofs.YtkpfkadjmijmlaaGreatDoor.M
set_option linter.unusedVariables false

/-- Operations behind a state that may be still a question. -/
noncomputable def OS (K : Cfg) (ops : Array Oper) (ro : Md) (l : List Oper) (x : Option St) : Option St := x.bind (aops K.P (R K) ops ro l)
/-- Code behind code. -/
noncomputable def XK (K : Cfg) (ro : Md) (c : Code) : Option (AExit × St) → Option (AExit × St)
  | some (.normal, s) => X K ro c s
  | r => r
def XN : Option St → Option (AExit × St)
  | some s => some (.normal, s)
  | none => none
def XBk (id : Nat) : Option (AExit × St) → Option (AExit × St)
  | some (.exit j, s) => if j = id then some (.normal, s) else some (.exit j, s)
  | r => r
def XR (P : Program) (rs : List ResultVar) : Option (AExit × St) → Option Res
  | some (.normal, s) | some (.ret, s) => (aresults P rs s).map fun c => ⟨c.1, c.2, s.nx, s.hp⟩
  | _ => none
section
variable (K : Cfg) (ro : Md) (ops : Array Oper)
theorem OS_nil (x : Option St) : OS K ops ro [] x = x := by cases x <;> rfl
theorem OS_cons (o : Oper) (r : List Oper) (s : St) : OS K ops ro (o :: r) (some s) = OS K ops ro r (astep K.P (R K) ops ro o s) := rfl
theorem OS_none (r : List Oper) : OS K ops ro r none = none := rfl
theorem Y_region (id : Nat) (l : List Oper) (s : St) : X K ro (.region id l.toArray false) s = XN (OS K l.toArray ro l (some s)) := by
  rw [X_region]
  show Option.map _ (aops K.P (R K) l.toArray ro l s) = XN (aops K.P (R K) l.toArray ro l s)
  cases aops K.P (R K) l.toArray ro l s <;> rfl
/-- Operations whose order is drawn. -/
noncomputable def OD (K : Cfg) (ops : Array Oper) (ro : Md) (j : Nat) (l : List Oper) (tr : List (Nat × Heap × Heap)) (fs : List (Nat × Option Nat)) (x : Option St) : Option St := x.bind (aopsD K.P K.ft (R K) ops ro j (l.map fun o => (o, o.after.toList.map (·.on))) tr fs)
theorem zip_map {α β : Type} (f : α → β) : ∀ l : List α, l.zip (l.map f) = l.map fun a => (a, f a)
  | [] => rfl
  | a :: l => by simp [zip_map f l]
theorem Y_dregion (id : Nat) (l : List Oper) (s : St) : X K ro (.region id l.toArray true) s = XN (OD K l.toArray ro 0 l [] [] (some s)) := by
  rw [X_region]
  have e : areg K.P (K.kd true) (R K) l.toArray ro true s = OD K l.toArray ro 0 l [] [] (some s) := by
    show aopsD K.P K.ft (R K) l.toArray ro 0 (l.zip (l.map _)) [] [] s = _
    rw [zip_map]
    rfl
  rw [e]
  cases OD K l.toArray ro 0 l [] [] (some s) <;> rfl
theorem Y_seq (a b : Code) (s : St) : X K ro (.seq a b) s = XK K ro b (X K ro a s) := by
  rw [X_seq]
  cases X K ro a s with
  | none => rfl
  | some q => obtain ⟨x, s⟩ := q; cases x <;> rfl
theorem Y_block (id : Nat) (b : Code) (s : St) : X K ro (.block id b) s = XBk id (X K ro b s) := by
  rw [X_block]
  cases X K ro b s with
  | none => rfl
  | some q => obtain ⟨x, s⟩ := q; cases x <;> rfl
theorem Y_loop (b : Code) (s : St) : X K ro (.loop b) s = XK K ro (.loop b) (X K ro b s) := by
  rw [X_loop]
  cases X K ro b s with
  | none => rfl
  | some q => obtain ⟨x, s⟩ := q; cases x <;> rfl
theorem XK_normal (c : Code) (s : St) : XK K ro c (some (.normal, s)) = X K ro c s := rfl
theorem XK_ret (c : Code) (s : St) : XK K ro c (some (.ret, s)) = some (.ret, s) := rfl
theorem XK_exit (c : Code) (j : Nat) (s : St) : XK K ro c (some (.exit j, s)) = some (.exit j, s) := rfl
theorem XK_none (c : Code) : XK K ro c none = none := rfl
theorem XN_some (s : St) : XN (some s) = some (.normal, s) := rfl
theorem XN_none : XN none = none := rfl
theorem XBk_normal (id : Nat) (s : St) : XBk id (some (.normal, s)) = some (.normal, s) := rfl
theorem XBk_ret (id : Nat) (s : St) : XBk id (some (.ret, s)) = some (.ret, s) := rfl
theorem XBk_exit (id j : Nat) (s : St) : XBk id (some (.exit j, s)) = if j = id then some (.normal, s) else some (.exit j, s) := rfl
theorem XR_normal (P : Program) (rs : List ResultVar) (s : St) : XR P rs (some (.normal, s)) = (aresults P rs s).map fun c => ⟨c.1, c.2, s.nx, s.hp⟩ := rfl
theorem XR_ret (P : Program) (rs : List ResultVar) (s : St) : XR P rs (some (.ret, s)) = (aresults P rs s).map fun c => ⟨c.1, c.2, s.nx, s.hp⟩ := rfl
theorem XB_eq0 (ro : Md) (fn : Func) (args : List AVal) (nx : Nat) (hp : Heap) {c : Code} (hb : fn.body = some c) : XB K ro fn args nx hp = XR K.P fn.results.toList (XX false K ro c { tm := args.map (·, false) ++ List.replicate (fn.ntmps - args.length) (.tup [], false), nx, hp }) := by
  unfold XB
  rw [hb]
  simp only
  cases XX false K ro c { tm := args.map (·, false) ++ List.replicate (fn.ntmps - args.length) (.tup [], false), nx, hp } with
  | none => rfl
  | some q => obtain ⟨x, s⟩ := q; cases x <;> rfl
theorem R_core (ro : Nat) (f : FuncId) (args : List AVal) (nx : Nat) (hp : Heap) {fn : Func} {c : Code} (hf : K.P.funcs[f]? = some fn) (hb : fn.body = some c) (hv : K.vl f = false) (hft : K.ft f = false) (he : K.ext f args (low K f ro nx) nx hp = none) :
    R K f args ro nx hp = Fin K f nx hp (XR K.P fn.results.toList (XX false K ⟨low K f ro nx, K.mu f⟩ c { tm := args.map (·, false) ++ List.replicate (fn.ntmps - args.length) (.tup [], false), nx, hp })) := by
  rw [R_eq]
  unfold vlc core
  rw [if_neg (by rw [hv]; decide)]
  dsimp only
  rw [he, hf]
  dsimp only
  rw [if_neg (by rw [hft]; decide)]
  rw [XB_eq0 K _ fn args nx hp hb]
theorem R_coreV (ro : Nat) (f : FuncId) (args : List AVal) (nx : Nat) (hp : Heap) {fn : Func} {c : Code} (hf : K.P.funcs[f]? = some fn) (hb : fn.body = some c) (hv : K.vl f = true) (hft : K.ft f = false) (hi : idsLts 0 args = true) (he : K.ext f args 0 0 [] = none) :
    R K f args ro nx hp = lift nx hp (Sealed 0 [] (XR K.P fn.results.toList (XX false K ⟨0, K.mu f⟩ c { tm := args.map (·, false) ++ List.replicate (fn.ntmps - args.length) (.tup [], false), nx := 0, hp := [] }))) := by
  have hp' : K.pure f = true := by unfold Cfg.vl at hv; simp at hv; exact hv.2
  have hl : low K f 0 0 = 0 := by unfold low; rw [if_pos hp']
  rw [R_eq]
  unfold vlc core Fin
  rw [if_pos hv, if_pos hi]
  dsimp only
  rw [if_pos hp', hl, he, hf]
  dsimp only
  rw [if_neg (by rw [hft]; decide)]
  rw [XB_eq0 K _ fn args 0 [] hb]
end
/-- An operation without what the machine does not look at. -/
def O (d : Option Tmp) (op : Op) (g : Option (Nat × Bool)) : Oper := ⟨d, op, 0, "", #[], g⟩
def slimO (o : Oper) : Oper := O o.dst o.op o.guard
/-- An operation that tells which pairs are to be looked at. -/
def OA (d : Option Tmp) (op : Op) (g : Option (Nat × Bool)) (q : List Nat) : Oper := ⟨d, op, 0, "", (q.map fun i => (⟨i, .data⟩ : Edge)).toArray, g⟩
def annO (p : Oper × List Nat) : Oper := OA p.1.dst p.1.op p.1.guard p.2
/-- Code without what the machine does not look at; the data tell the regions in which pairs are to be looked at. -/
def slim (dt : List (Nat × List (List Nat))) : Code → Code
  | .region id ops _ => match dt.lookup id with
    | some q => .region id ((ops.toList.zip q).map annO).toArray true
    | none => .region id (ops.toList.map slimO).toArray false
  | .seq a b => .seq (slim dt a) (slim dt b)
  | .cond c a b => .cond c (slim dt a) (slim dt b)
  | .block id b => .block id (slim dt b)
  | .loop b => .loop (slim dt b)
  | c => c
/-- The data are right. -/
def drawsOk (kd : Knd) (mu : List TypeId) (dt : List (Nat × List (List Nat))) : Code → Bool
  | .region id ops d => match dt.lookup id with
    | some q => d && q.length == ops.size && qAll kd mu ops == some q
    | none => !d || qAll kd mu ops == some (List.replicate ops.size [])
  | .seq a b => drawsOk kd mu dt a && drawsOk kd mu dt b
  | .cond _ a b => drawsOk kd mu dt a && drawsOk kd mu dt b
  | .block _ b => drawsOk kd mu dt b
  | .loop b => drawsOk kd mu dt b
  | _ => true
theorem feeds_slim (ops : Array Oper) (d : Option Tmp) : feeds (ops.toList.map slimO).toArray d = feeds ops d := by
  cases d with
  | none => rfl
  | some t =>
    unfold feeds
    simp only [List.any_map, ← Array.any_toList]
    rfl
theorem stored_slim (ops : Array Oper) (d : Option Tmp) : stored (ops.toList.map slimO).toArray d = stored ops d := by
  cases d with
  | none => rfl
  | some t =>
    unfold stored
    simp only [List.any_map, ← Array.any_toList]
    rfl
theorem cuts_slim (mu : List TypeId) (ops : Array Oper) (d : Option Tmp) : cuts mu (ops.toList.map slimO).toArray d = cuts mu ops d := by
  cases d with
  | none => rfl
  | some t =>
    unfold cuts
    simp only [List.any_map, ← Array.any_toList]
    rfl
theorem makes_slim (ops : Array Oper) (t : Tmp) : makes (ops.toList.map slimO).toArray t = makes ops t := by
  unfold makes
  simp only [List.any_map, ← Array.any_toList]
  rfl
section
variable {P : Program} {call : CallF}
theorem aload_slim (ops : Array Oper) (ro : Md) (d : Option Tmp) (t : TypeId) (a : AVal) (nx : Nat) (hp : Heap) : aload P (ops.toList.map slimO).toArray ro d t a nx hp = aload P ops ro d t a nx hp := by
  unfold aload
  simp only [feeds_slim]
theorem astore_slim (ops : Array Oper) (ro : Md) (t : TypeId) (a : AVal) (x : Operand) (c : Cell) (nx : Nat) (hp : Heap) : astore P (ops.toList.map slimO).toArray ro t a x c nx hp = astore P ops ro t a x c nx hp := by
  unfold astore
  simp only [makes_slim]
theorem aeff_slim (ops : Array Oper) (ro : Md) (o : Oper) (ρ : Rho) (nx : Nat) (hp : Heap) : aeff P call (ops.toList.map slimO).toArray ro (slimO o) ρ nx hp = aeff P call ops ro o ρ nx hp := by
  have : aeff0 P (ops.toList.map slimO).toArray ro (slimO o) ρ nx hp = aeff0 P ops ro o ρ nx hp := by
    unfold aeff0
    simp only [feeds_slim, cuts_slim, makes_slim, stored_slim, aload_slim, astore_slim]
    rfl
  unfold aeff
  show (match o.op with | .call c => acall P call ro c ρ nx hp | _ => aeff0 P (ops.toList.map slimO).toArray ro (slimO o) ρ nx hp) = _
  rw [this]
  all_goals (cases o.op <;> rfl)
theorem awanted_slim (ops : Array Oper) (tm : List Cell) (o : Oper) : awanted (ops.toList.map slimO).toArray tm (slimO o) = awanted ops tm o := by
  unfold awanted
  rw [show (slimO o).guard = o.guard from rfl]
  cases o.guard with
  | none => rfl
  | some q =>
    obtain ⟨j, want⟩ := q
    simp only [List.getElem?_toArray, List.getElem?_map, Array.getElem?_toList]
    cases ops[j]? <;> rfl
theorem astep_slim (ops : Array Oper) (ro : Md) (o : Oper) (s : St) : astep P call (ops.toList.map slimO).toArray ro (slimO o) s = astep P call ops ro o s := by
  unfold astep
  rw [awanted_slim, aeff_slim]
  rfl
theorem aops_slim (ops : Array Oper) (ro : Md) : ∀ (l : List Oper) (s : St), aops P call (ops.toList.map slimO).toArray ro (l.map slimO) s = aops P call ops ro l s := by
  intro l
  induction l with
  | nil => intro s; rfl
  | cons o l ih =>
    intro s
    simp only [List.map_cons, aops, astep_slim]
    congr 1
    funext s
    exact ih s
theorem rdr_slim (ft : FuncId → Bool) (mu : List TypeId) (ops : Array Oper) (o : Oper) : rdr ft mu (ops.toList.map slimO).toArray (slimO o) = rdr ft mu ops o := by
  unfold rdr
  simp only [feeds_slim]
  rfl
/-- Arrays that are alike but for what the machine does not look at. -/
theorem like {ft : FuncId → Bool} {ops ops' : Array Oper} (h : ops'.toList.map slimO = ops.toList.map slimO) (ro : Md) (o o' : Oper) (ho : slimO o' = slimO o) (s : St) : astep P call ops' ro o' s = astep P call ops ro o s ∧ rdr ft ro.mu ops' o' = rdr ft ro.mu ops o ∧ footAt o' s = footAt o s := by
  refine ⟨?_, ?_, ?_⟩
  · rw [← astep_slim ops', ← astep_slim ops, h, ho]
  · rw [← rdr_slim _ _ ops', ← rdr_slim _ _ ops, h, ho]
  · have : ∀ o : Oper, footAt (slimO o) s = footAt o s := fun o => rfl
    rw [← this o', ← this o, ho]
theorem aopsD_like {ft : FuncId → Bool} {ops ops' : Array Oper} (h : ops'.toList.map slimO = ops.toList.map slimO) (ro : Md) : ∀ (l l' : List (Oper × List Nat)), l'.map (fun p => (slimO p.1, p.2)) = l.map (fun p => (slimO p.1, p.2)) → ∀ j tr fs s, aopsD P ft call ops' ro j l' tr fs s = aopsD P ft call ops ro j l tr fs s := by
  intro l
  induction l with
  | nil => intro l' hl j tr fs s; cases l' with | nil => rfl | cons p l' => cases hl
  | cons p l ih =>
    intro l' hl j tr fs s
    cases l' with
    | nil => cases hl
    | cons p' l' =>
      obtain ⟨o, q⟩ := p
      obtain ⟨o', q'⟩ := p'
      simp only [List.map_cons, List.cons.injEq, Prod.mk.injEq] at hl
      obtain ⟨⟨h1, rfl⟩, h2⟩ := hl
      obtain ⟨e1, e2, e3⟩ := like (ft := ft) (P := P) (call := call) h ro o o' h1 s
      simp only [aopsD, e1, e2, e3]
      cases astep P call ops ro o s with
      | none => rfl
      | some s1 => simp only [ih l' h2]
theorem aopsD_none {ft : FuncId → Bool} (ops : Array Oper) (ro : Md) : ∀ (l : List (Oper × List Nat)), (∀ p ∈ l, p.2 = []) → ∀ j tr fs s, aopsD P ft call ops ro j l tr fs s = aops P call ops ro (l.map (·.1)) s := by
  intro l
  induction l with
  | nil => intro _ j tr fs s; rfl
  | cons p l ih =>
    obtain ⟨o, q⟩ := p
    intro hl j tr fs s
    have hq : q = [] := hl _ (.head _)
    subst hq
    have ih := ih fun p hp => hl p (.tail _ hp)
    simp only [aopsD, List.map_cons, aops]
    cases astep P call ops ro o s with
    | none => rfl
    | some s1 =>
      simp only [ih, Option.bind_some]
      split <;> rfl
theorem aexec_slim (pu vl ft : FuncId → Bool) (ro : Md) (dt : List (Nat × List (List Nat))) : ∀ (n : Nat) (c : Code) (s : St), drawsOk ⟨pu, vl, false, ft⟩ ro.mu dt c = true → aexec P ⟨pu, vl, true, ft⟩ call ro n (slim dt c) s = aexec P ⟨pu, vl, false, ft⟩ call ro n c s := by
  intro n
  induction n with
  | zero => intro c s _; rfl
  | succ n ih =>
    intro c s hd
    cases c with
    | region id ops d =>
      simp only [drawsOk] at hd
      simp only [slim]
      cases hq : dt.lookup id with
      | none =>
        rw [hq] at hd
        simp only at hd ⊢
        simp only [aexec]
        have e : areg P ⟨pu, vl, true, ft⟩ call (ops.toList.map slimO).toArray ro false s = areg P ⟨pu, vl, false, ft⟩ call ops ro d s := by
          have e1 : areg P ⟨pu, vl, true, ft⟩ call (ops.toList.map slimO).toArray ro false s = aops P call ops ro ops.toList s := aops_slim ops ro ops.toList s
          rw [e1]
          cases d with
          | false => rfl
          | true =>
            have h2 : qAll ⟨pu, vl, false, ft⟩ ro.mu ops = some (List.replicate ops.size []) := by simpa using hd
            have e2 : areg P ⟨pu, vl, false, ft⟩ call ops ro true s = aopsD P ft call ops ro 0 (ops.toList.zip (List.replicate ops.size [])) [] [] s := by
              unfold areg qOf
              simp only [if_true, Bool.false_eq_true, if_false, h2]
            rw [e2, aopsD_none ops ro _ (fun p hp => by
              obtain ⟨_, h⟩ := List.of_mem_zip hp
              exact (List.mem_replicate.1 h).2)]
            congr 1
            rw [← List.unzip_fst, List.unzip_zip_left (by simp)]
        rw [e]
      | some q =>
        rw [hq] at hd
        simp only [Bool.and_eq_true, beq_iff_eq] at hd
        obtain ⟨⟨hd1, hlen⟩, h2⟩ := hd
        subst hd1
        simp only [aexec]
        have e : areg P ⟨pu, vl, true, ft⟩ call ((ops.toList.zip q).map annO).toArray ro true s = areg P ⟨pu, vl, false, ft⟩ call ops ro true s := by
          unfold areg qOf
          simp only [if_true, Bool.false_eq_true, if_false, h2]
          have hz : ∀ (l : List (Oper × List Nat)), (l.map annO).zip ((l.map annO).map fun o => o.after.toList.map (·.on)) = l.map fun p => (annO p, p.2) := by
            intro l
            rw [zip_map, List.map_map]
            refine List.map_congr_left fun p _ => ?_
            simp [annO, OA, Function.comp_def]
          rw [hz]
          refine aopsD_like ?_ ro _ _ ?_ 0 [] [] s
          · simp only [List.map_map]
            have : (slimO ∘ annO) = slimO ∘ Prod.fst := rfl
            rw [this, ← List.map_map, ← List.unzip_fst, List.unzip_zip_left (by simp [hlen])]
          · rw [List.map_map]; rfl
        rw [e]
    | seq a b =>
      simp only [drawsOk, Bool.and_eq_true] at hd
      simp only [slim, aexec]
      rw [ih a s hd.1]
      cases aexec P ⟨pu, vl, false, ft⟩ call ro n a s with
      | none => rfl
      | some q =>
        obtain ⟨x, s1⟩ := q
        cases x with
        | normal => exact ih b s1 hd.2
        | ret => rfl
        | exit j => rfl
    | cond c a b =>
      simp only [drawsOk, Bool.and_eq_true] at hd
      simp only [slim, aexec]
      rw [ih a s hd.1, ih b s hd.2]
    | block id b => simp only [slim, aexec]; rw [ih b s hd]
    | loop b =>
      simp only [slim, aexec]
      rw [ih b s hd]
      cases aexec P ⟨pu, vl, false, ft⟩ call ro n b s with
      | none => rfl
      | some q =>
        obtain ⟨x, s1⟩ := q
        cases x with
        | normal => exact ih (.loop b) s1 hd
        | ret => rfl
        | exit j => rfl
    | _ => rfl
end
theorem X_slim (K : Cfg) (ro : Md) (dt : List (Nat × List (List Nat))) (c : Code) (s : St) (hd : drawsOk (K.kd false) ro.mu dt c = true) : X K ro (slim dt c) s = XX false K ro c s := opt_ext fun r => by
  rw [X_iff, XX_iff]
  exact exists_congr fun n => by
    rw [show K.kd true = ⟨K.pure, K.vl, true, K.ft⟩ from rfl, show K.kd false = ⟨K.pure, K.vl, false, K.ft⟩ from rfl, aexec_slim _ _ _ _ _ _ _ _ hd]
theorem Y_loop_eq (K : Cfg) (ro : Md) {L b : Code} (e : L = b) (s : St) : X K ro (.loop L) s = XK K ro (.loop L) (X K ro b s) := by
  subst e
  exact Y_loop K ro L s
/-- The loops of code, by number: the bodies that h tells in their place. -/
def holed (h : Nat → Code) : Code → Nat → Code × Nat
  | .seq a b, i => (.seq (holed h a i).1 (holed h b (holed h a i).2).1, (holed h b (holed h a i).2).2)
  | .cond c a b, i => (.cond c (holed h a i).1 (holed h b (holed h a i).2).1, (holed h b (holed h a i).2).2)
  | .block id b, i => (.block id (holed h b i).1, (holed h b i).2)
  | .loop b, i => (.loop (h i), (holed h b (i + 1)).2)
  | c, i => (c, i)
def loopsOf : Code → List Code
  | .seq a b => loopsOf a ++ loopsOf b
  | .cond _ a b => loopsOf a ++ loopsOf b
  | .block _ b => loopsOf b
  | .loop b => b :: loopsOf b
  | _ => []
/-- The body of a function's loop number i. -/
def LB (P : Program) (f : FuncId) (dt : List (Nat × List (List Nat))) (i : Nat) : Code := match P.funcs[f]? with
  | some fn => match fn.body with
    | some c => (loopsOf (slim dt c)).getD i .skip
    | none => .skip
  | none => .skip
theorem LB_eq {P : Program} {f : FuncId} {fn : Func} {c : Code} (dt : List (Nat × List (List Nat))) (i : Nat) {b : Code} (hf : P.funcs[f]? = some fn) (hb : fn.body = some c) (h : b = (loopsOf (slim dt c)).getD i .skip) : LB P f dt i = b := by
  unfold LB
  rw [hf]
  simp only
  rw [hb, h]
theorem loopsOf_len (h : Nat → Code) : ∀ (c : Code) (i : Nat), (holed h c i).2 = i + (loopsOf c).length := by
  intro c
  induction c with
  | seq a b iha ihb => intro i; simp only [holed, loopsOf, List.length_append, iha, ihb]; omega
  | cond c a b iha ihb => intro i; simp only [holed, loopsOf, List.length_append, iha, ihb]; omega
  | block id b ih => intro i; simp only [holed, loopsOf, ih]
  | loop b ih => intro i; simp only [holed, loopsOf, List.length_cons, ih]; omega
  | _ => intro i; rfl
theorem holed_eq (h : Nat → Code) : ∀ (c : Code) (i : Nat), (∀ (j : Nat) b, (loopsOf c)[j]? = some b → h (i + j) = b) → (holed h c i).1 = c := by
  intro c
  induction c with
  | seq a b iha ihb =>
    intro i hh
    simp only [loopsOf] at hh
    simp only [holed]
    rw [iha i fun j x hj => hh j x (by rw [List.getElem?_append_left (List.getElem?_eq_some_iff.1 hj).1]; exact hj), loopsOf_len, ihb _ fun j x hj => by
      have := hh ((loopsOf a).length + j) x (by rw [List.getElem?_append_right (by omega), Nat.add_sub_cancel_left]; exact hj)
      rw [← this]; congr 1; omega]
  | cond c a b iha ihb =>
    intro i hh
    simp only [loopsOf] at hh
    simp only [holed]
    rw [iha i fun j x hj => hh j x (by rw [List.getElem?_append_left (List.getElem?_eq_some_iff.1 hj).1]; exact hj), loopsOf_len, ihb _ fun j x hj => by
      have := hh ((loopsOf a).length + j) x (by rw [List.getElem?_append_right (by omega), Nat.add_sub_cancel_left]; exact hj)
      rw [← this]; congr 1; omega]
  | block id b ih => intro i hh; simp only [holed]; rw [ih i hh]
  | loop b ih =>
    intro i hh
    simp only [holed]
    rw [show h i = b from hh 0 b rfl]
  | _ => intro i hh; rfl
theorem slim_holed {P : Program} {f : FuncId} {fn : Func} {c : Code} (dt : List (Nat × List (List Nat))) (hf : P.funcs[f]? = some fn) (hb : fn.body = some c) : slim dt c = (holed (LB P f dt) (slim dt c) 0).1 :=
  (holed_eq _ _ 0 fun j b hj => LB_eq dt _ hf hb (by rw [Nat.zero_add, List.getD_eq_getElem?_getD, hj]; rfl)).symm
/-- A loop's body, the loops within it by number. -/
theorem LB_open {P : Program} {f : FuncId} {fn : Func} {c : Code} (dt : List (Nat × List (List Nat))) (i : Nat) {b : Code} (hf : P.funcs[f]? = some fn) (hb : fn.body = some c) (h : (loopsOf (slim dt c)).getD i .skip = b) (h2 : (holed (LB P f dt) b (i + 1)).1 = b) : LB P f dt i = (holed (LB P f dt) b (i + 1)).1 := by
  rw [h2]; exact LB_eq dt i hf hb h.symm
section
variable (K : Cfg) (ro : Nat) (f : FuncId) (args : List AVal) (nx : Nat) (hp : Heap) {fn : Func} {c : Code} {n : Nat} {rs : Array ResultVar} (dt : List (Nat × List (List Nat))) (hf : K.P.funcs[f]? = some fn) (hb : fn.body = some c) (hn : fn.ntmps = n) (hr : fn.results = rs) {mu : List TypeId} (hmu : K.mu f = mu) (hd : drawsOk (K.kd false) mu dt c = true)
include hf hb hn hr hmu hd
/-- A function that does not look at the heap: what it comes to. -/
theorem R_val' (hv : K.vl f = true) (hft : K.ft f = false) (he : K.ext f args 0 0 [] = none) :
    R K f args ro nx hp = if idsLts 0 args = true then lift nx hp (Sealed 0 [] (XR K.P rs.toList (X K ⟨0, mu⟩ (holed (LB K.P f dt) (slim dt c) 0).1 { tm := args.map (·, false) ++ List.replicate (n - args.length) (.tup [], false), nx := 0, hp := [] }))) else none := by
  subst hmu
  by_cases hi : idsLts 0 args = true
  rotate_left
  · rw [if_neg hi, R_eq]
    unfold vlc
    rw [if_pos hv, if_neg hi]
  rw [if_pos hi]
  rw [← slim_holed dt hf hb, X_slim K ⟨0, K.mu f⟩ dt c _ hd, ← hn, ← hr, R_coreV K ro f args nx hp hf hb hv hft hi he]
/-- A function that changes nothing: what it comes to. -/
theorem R_pure' (hv : K.vl f = false) (hp' : K.pure f = true) (hft : K.ft f = false) (he : K.ext f args nx nx hp = none) :
    R K f args ro nx hp = Sealed nx hp (XR K.P rs.toList (X K ⟨nx, mu⟩ (holed (LB K.P f dt) (slim dt c) 0).1 { tm := args.map (·, false) ++ List.replicate (n - args.length) (.tup [], false), nx, hp })) := by
  subst hmu
  have hl : low K f ro nx = nx := by unfold low; rw [if_pos hp']
  rw [← slim_holed dt hf hb, X_slim K ⟨nx, K.mu f⟩ dt c _ hd, ← hn, ← hr, R_core K ro f args nx hp hf hb hv hft (by rw [hl]; exact he), hl]
  unfold Fin
  rw [if_pos hp']
theorem R_tidy' (hp' : K.pure f = false) (ht : K.tidy f = true) (hft : K.ft f = false) (he : K.ext f args ro nx hp = none) :
    R K f args ro nx hp = Tidied nx (XR K.P rs.toList (X K ⟨ro, mu⟩ (holed (LB K.P f dt) (slim dt c) 0).1 { tm := args.map (·, false) ++ List.replicate (n - args.length) (.tup [], false), nx, hp })) := by
  subst hmu
  have hl : low K f ro nx = ro := by unfold low; rw [if_neg (by rw [hp']; decide)]
  rw [← slim_holed dt hf hb, X_slim K ⟨ro, K.mu f⟩ dt c _ hd, ← hn, ← hr, R_core K ro f args nx hp hf hb (by unfold Cfg.vl; rw [hp', Bool.and_false]) hft (by rw [hl]; exact he), hl]
  unfold Fin
  rw [if_neg (by rw [hp']; decide), if_pos ht]
theorem R_body' (hp' : K.pure f = false) (ht : K.tidy f = false) (hft : K.ft f = false) (he : K.ext f args ro nx hp = none) :
    R K f args ro nx hp = XR K.P rs.toList (X K ⟨ro, mu⟩ (holed (LB K.P f dt) (slim dt c) 0).1 { tm := args.map (·, false) ++ List.replicate (n - args.length) (.tup [], false), nx, hp }) := by
  subst hmu
  have hl : low K f ro nx = ro := by unfold low; rw [if_neg (by rw [hp']; decide)]
  rw [← slim_holed dt hf hb, X_slim K ⟨ro, K.mu f⟩ dt c _ hd, ← hn, ← hr, R_core K ro f args nx hp hf hb (by unfold Cfg.vl; rw [hp', Bool.and_false]) hft (by rw [hl]; exact he), hl]
  unfold Fin
  rw [if_neg (by rw [hp']; decide), if_neg (by rw [ht]; decide)]
end
/-- A loop whose rounds leave the heap alone: it comes to what its last round comes to. -/
theorem loop_run {K : Cfg} {ro : Md} {b : Code} {tm0 : List Cell} {nx : Nat} {hp : Heap} {o : Option (AExit × St)} (ho : X K ro (.loop b) ⟨tm0, nx, hp⟩ = o) (inv : List Cell → Nat → List Cell → Prop) (n0 : Nat) (h0 : inv tm0 n0 tm0) (done : List Cell → Nat → List Cell → Prop)
    (step : ∀ n tm, inv tm0 n tm → done tm0 n tm ∨ ∃ n' tm', n' < n ∧ inv tm0 n' tm' ∧ X K ro b ⟨tm, nx, hp⟩ = some (.normal, ⟨tm', nx, hp⟩)) :
    ∃ n tm, inv tm0 n tm ∧ done tm0 n tm ∧ o = XK K ro (.loop b) (X K ro b ⟨tm, nx, hp⟩) := by
  subst ho
  have key : ∀ n tm, inv tm0 n tm → ∃ n' tm', inv tm0 n' tm' ∧ done tm0 n' tm' ∧ X K ro (.loop b) ⟨tm, nx, hp⟩ = XK K ro (.loop b) (X K ro b ⟨tm', nx, hp⟩) := by
    intro n
    induction n using Nat.strongRecOn with
    | _ n ih =>
      intro tm hi
      rcases step n tm hi with hd | ⟨n', tm', hlt, hi', he⟩
      · exact ⟨n, tm, hi, hd, Y_loop K ro b _⟩
      · obtain ⟨n2, tm2, h1, h2, h3⟩ := ih n' hlt tm' hi'
        refine ⟨n2, tm2, h1, h2, ?_⟩
        rw [Y_loop, he, XK_normal, h3]
  exact key n0 tm0 h0
end Go.Proofs.YtkpfkadjmijmlaaGreatDoor.M
/- append: in place, or in a new block. -/
namespace Go.Proofs.YtkpfkadjmijmlaaGreatDoor.M
open Go.RowKit
set_option linter.unusedVariables false
set_option linter.unusedSimpArgs false

section
variable {P : Program}
theorem add_at (b o i : Nat) : (⟨b, o, none⟩ : Addr).add i = ⟨b, o + i, none⟩ := by unfold Addr.add; split <;> simp_all
theorem run_firstCells (w : World) (sz n c : Nat) (b o : Nat) (vs : List Value) (hl : vs.length = n * sz) (h : ∀ (i : Nat) v, vs[i]? = some v → w.cell? ⟨b, o + i, none⟩ = some v) :
    (Builtin.firstCells sz n (.slice (some ⟨b, o, none⟩) n c)).run P w = .ok vs.toArray w := by
  unfold Builtin.firstCells
  rw [← hl]
  exact run_loadCells_list w _ vs fun j v hj => by rw [add_at]; exact h j v hj
theorem run_firstCells' (w : World) (sz n c : Nat) (A : Option Addr) (vs : List Value) (hl : vs.length = n * sz) (h : ∀ (i : Nat) v, vs[i]? = some v → ∃ b o, A = some ⟨b, o, none⟩ ∧ w.cell? ⟨b, o + i, none⟩ = some v) :
    (Builtin.firstCells sz n (.slice A n c)).run P w = .ok vs.toArray w ∨ (vs = [] ∧ A ≠ none) := by
  cases vs with
  | nil =>
    cases A with
    | none => left; rfl
    | some a => right; exact ⟨rfl, by simp⟩
  | cons v r =>
    obtain ⟨b, o, rfl, _⟩ := h 0 v rfl
    left
    refine run_firstCells w sz n c b o (v :: r) hl fun i u hu => ?_
    obtain ⟨b', o', e, h2⟩ := h i u hu
    injection e with e; injection e with e1 e2
    subst e1 e2
    exact h2
theorem run_first (w : World) (sz n c : Nat) (A : Option Addr) (vs : List Value) (hl : vs.length = n * sz) (h : ∀ (i : Nat) v, vs[i]? = some v → ∃ b o, A = some ⟨b, o, none⟩ ∧ w.cell? ⟨b, o + i, none⟩ = some v) :
    (Builtin.firstCells sz n (.slice A n c)).run P w = .ok vs.toArray w := by
  rcases run_firstCells' (P := P) w sz n c A vs hl h with h1 | ⟨rfl, h2⟩
  · exact h1
  · cases A with
    | none => exact absurd rfl h2
    | some a =>
      unfold Builtin.firstCells
      have hz : n * sz = 0 := by simpa using hl.symm
      rw [hz]
      rfl
/-- append that fits. -/
theorem run_append_in (w : World) (t t2 ty e : TypeId) (i : TypeInfo) (d2 : TypeDesc) (ht : P.underlying t = some (.slice e)) (ht2 : P.underlying t2 = some d2) (hd2 : ∀ k, d2 ≠ .int k) (hi : P.info? e = some i)
    (A : Option Addr) (n c m : Nat) (x : Value) (ys : List Value) (hlen : (Builtin.lenOf x).run P w = .ok m w) (hx : (Builtin.firstCells i.size m x).run P w = .ok ys.toArray w) (hfit : n + m ≤ c)
    (w' : World) (hst : ∀ a, A = some a → (storeCells (a.add (n * i.size)) ys).run P w = .ok () w') (hno : A = none → w' = w) :
    (Builtin.append_ #[t, t2] ty #[.slice A n c, x]).run P w = .ok (.slice A (n + m) c) w' := by
  have hz : (match d2 with | .int _ => true | _ => false) = false := by
    cases d2 <;> first | rfl | exact absurd rfl (hd2 _)
  cases A with
  | none =>
    rw [hno rfl]
    simp [Builtin.append_, run_underlying ht, run_underlying ht2, sizeOf, typeInfo, hi, hz, hlen, hx, hfit]
  | some a =>
    have := hst a rfl
    simp [Builtin.append_, run_underlying ht, run_underlying ht2, sizeOf, typeInfo, hi, hz, hlen, hx, hfit, this]
/-- append that does not fit. -/
theorem run_append_out (w : World) (t t2 ty e : TypeId) (i : TypeInfo) (z : Value) (d2 : TypeDesc) (ht : P.underlying t = some (.slice e)) (ht2 : P.underlying t2 = some d2) (hd2 : ∀ k, d2 ≠ .int k) (hi : P.info? e = some i) (hz : i.zero = some z)
    (A : Option Addr) (n c m : Nat) (x : Value) (xs ys : List Value) (hlen : (Builtin.lenOf x).run P w = .ok m w) (hfit : ¬ n + m ≤ c)
    (hx : (Builtin.firstCells i.size m x).run P w.drew = .ok ys.toArray w.drew) (hs : (Builtin.firstCells i.size n (.slice A n c)).run P w.drew = .ok xs.toArray w.drew) (hb : (n + m) * i.bytes ≤ 140737488355328) (hbz : i.bytes ≠ 0) :
    (Builtin.append_ #[t, t2] ty #[.slice A n c, x]).run P w = .ok (.slice (some ⟨w.heap.size, 0, none⟩) (n + m) (grownCap w (n + m) c e)) (w.drew.alloc (.cells (xs.toArray ++ ys.toArray ++ Builtin.zeroCells z.cells (grownCap w (n + m) c e - (n + m))) e)) := by
  have hzz : (match d2 with | .int _ => true | _ => false) = false := by
    cases d2 <;> first | rfl | exact absurd rfl (hd2 _)
  have h48 := growslice_fits (bytes := i.bytes) (show c < n + m by omega) hb
  have h48' : ¬ (281474976710656 < Builtin.nextslicecap (n + m) c * i.bytes) := by omega
  simp [Builtin.append_, run_underlying ht, run_underlying ht2, sizeOf, typeInfo, zeroValue, hi, hz, hzz, hlen, hfit, h48', Question.forced, hx, hs, hbz, newRow, grownCap]
  congr 2
  apply Array.ext'
  simp [List.append_assoc]
end

section
variable {C : Cx} {B : Nat} {F : Nat → Nat → Prop} {w0 : World} {hp : Heap} {tm : List Cell} {ct : Array Value}
def Cx.fill (C : Cx) (b lo : Nat) (vs : List Value) : Cx := { ι := C.ι, I := fun b' o => C.I b' o ∨ (b' = b ∧ lo ≤ o ∧ o < lo + vs.length), nx := C.nx, w := C.w.setCells b lo vs }
/-- A slot's free room is written, and stays from now on. -/
theorem WRel.fill (h : WRel C B F w0 hp tm ct) {s : Nat} {v : AVal} {cv : Value} (hs : tm[s]? = some (v, true)) (hcs : ct[s]? = some cv) (b lo : Nat) (vs : List Value) (hne : vs ≠ []) (hin : ∀ o, lo ≤ o → o < lo + vs.length → Tail v cv b o) :
    C.Le (C.fill b lo vs) ∧ WRel (C.fill b lo vs) B F w0 hp (tm.set s (v, false)) ct := by
  have ow : Owned C hp tm ct (0, s) v cv := ⟨hs, hcs⟩
  have ok := h.own _ _ _ ow
  have hpos : 0 < vs.length := List.length_pos_iff.2 hne
  obtain ⟨hB, _, _, hlive, _, _⟩ := ok.cells b lo (hin lo (Nat.le_refl _) (by omega))
  have hout : ∀ b' o, (b' = b → o < lo ∨ lo + vs.length ≤ o) → (C.fill b lo vs).w.cell? ⟨b', o, none⟩ = C.w.cell? ⟨b', o, none⟩ := fun b' o hbo =>
    World.cell?_setCells_out b vs lo C.w ⟨b', o, none⟩ fun e _ => hbo e
  have hnot : ∀ b' o, ¬ Tail v cv b' o → (b' = b → o < lo ∨ lo + vs.length ≤ o) := fun b' o hn e => by
    subst e
    rcases Nat.lt_or_ge o lo with h1 | h1
    · exact .inl h1
    · rcases Nat.lt_or_ge o (lo + vs.length) with h2 | h2
      · exact absurd (hin o h1 h2) hn
      · exact .inr h2
  have hfr : ∀ b' o, (C.fill b lo vs).w.frozen? ⟨b', o, none⟩ = C.w.frozen? ⟨b', o, none⟩ := fun b' o => World.frozen?_setCells b vs lo C.w _
  have hIT : ∀ b' o, C.I b' o → ¬ Tail v cv b' o := fun b' o hI ht => (ok.cells b' o ht).2.1 hI
  have le : C.Le (C.fill b lo vs) := ⟨Nat.le_refl _, fun _ _ => rfl, fun _ _ h => .inl h, fun b' o hI => hout b' o (hnot b' o (hIT b' o hI)), fun b' o u hu => cell_setCells_ex _ _ _ _ hu⟩
  have hblk : ∀ id, (hget hp id).isSome = true → (C.fill b lo vs).w.heap[C.ι id]? = C.w.heap[C.ι id]? := fun id hid => setCells_other b _ (fun e => hlive id hid e.symm) _ _ _
  have hown : ∀ k v' cv', Owned (C.fill b lo vs) hp (tm.set s (v, false)) ct k v' cv' → k ≠ (0, s) ∧ Owned C hp tm ct k v' cv' := by
    intro k v' cv' ho
    obtain ⟨i, t⟩ := k
    cases i with
    | zero =>
      obtain ⟨h1, h2⟩ := ho
      rw [List.getElem?_set] at h1
      by_cases e : s = t
      · subst e
        rw [if_pos rfl] at h1
        split at h1 <;> simp at h1
      · rw [if_neg e] at h1
        exact ⟨by simp; exact fun q => e q.symm, h1, h2⟩
    | succ j =>
      obtain ⟨cs', vs', ty', h1, h2, h3, h4⟩ := ho
      have hj : (hget hp j).isSome = true := by rw [h1]; rfl
      have h3' : (C.fill b lo vs).w.heap[C.ι j]? = some (.cells vs' ty' (0, 0)) := h3
      rw [hblk j hj] at h3'
      exact ⟨by simp, cs', vs', ty', h1, h2, h3', h4⟩
  refine ⟨le, ⟨below_setCells b hB vs lo _ h.heap.below, h.heap.base, h.heap.ids, fun id cs hid => ?_, h.heap.inj, fun i hi => ?_, fun b' o hI => ?_, fun b' o hF => ?_, fun id es hg => (h.heap.mapb id es hg).mono le (hblk id (by rw [hg]; rfl))⟩, by simp [h.size], fun t c ht => ?_, fun k v' cv' ho => ?_, fun k1 k2 v1 c1 v2 c2 h1 h2 hne => ?_⟩
  · obtain ⟨vs', ty', q1, q2, q3⟩ := h.heap.blk id cs hid
    refine ⟨vs', ty', (hblk id (by rw [hid]; rfl)).trans q1, q2, fun i c hi => ?_⟩
    obtain ⟨r1, u, r2, r3⟩ := q3 i c hi
    exact ⟨r1, u, r2, r3.mono le⟩
  · obtain ⟨q1, q2, q3⟩ := h.heap.out i hi
    refine ⟨q1, by show _ < (C.w.setCells b lo vs).heap.size; rw [setCells_size]; exact q2, fun o => ⟨fun hI => ?_, (q3 o).2⟩⟩
    rcases hI with hI | ⟨e, _⟩
    · exact (q3 o).1 hI
    · exact hlive i hi e.symm
  · rcases hI with hI | ⟨rfl, h1, h2⟩
    · obtain ⟨u, hu⟩ := h.heap.imm b' o hI
      exact ⟨u, (le.cell b' o hI).trans hu⟩
    · have := World.cell?_setCells_in b' vs lo C.w (fun j hj => by
        obtain ⟨_, _, _, _, ⟨u, hu⟩, _⟩ := ok.cells b' (lo + j) (hin _ (by omega) (by omega))
        rw [hu]; rfl) (o - lo) (by omega)
      rw [show lo + (o - lo) = o by omega] at this
      exact ⟨_, this⟩
  · obtain ⟨⟨u, hu⟩, q1, q2⟩ := h.heap.far b' o hF
    have hn : ¬ Tail v cv b' o := fun ht => (ok.cells b' o ht).2.2.1 hF
    refine ⟨⟨u, (hout b' o (hnot b' o hn)).trans hu⟩, (hfr b' o).trans q1, fun hI => ?_⟩
    rcases hI with hI | ⟨e, h1, h2⟩
    · exact q2 hI
    · subst e; exact hn (hin o h1 h2)
  · rw [List.getElem?_set] at ht
    by_cases e : s = t
    · subst e
      rw [if_pos rfl] at ht
      split at ht
      · injection ht with ht; subst ht
        obtain ⟨u, r1, r2⟩ := h.tmp s _ hs
        exact ⟨u, r1, r2.mono le⟩
      · cases ht
    · rw [if_neg e] at ht
      obtain ⟨u, r1, r2⟩ := h.tmp t c ht
      exact ⟨u, r1, r2.mono le⟩
  · obtain ⟨q1, q2⟩ := hown k v' cv' ho
    have q := h.own k v' cv' q2
    refine ⟨q.form, fun b' o ht => ?_⟩
    obtain ⟨a1, a2, a3, a4, ⟨u, a5⟩, a6⟩ := q.cells b' o ht
    have hn : ¬ Tail v cv b' o := h.sep _ _ _ _ _ _ q2 ow q1 b' o ht
    refine ⟨a1, fun hI => ?_, a3, a4, ⟨u, (hout b' o (hnot b' o hn)).trans a5⟩, (hfr b' o).trans a6⟩
    rcases hI with hI | ⟨e, h1, h2⟩
    · exact a2 hI
    · subst e; exact hn (hin o h1 h2)
  · exact h.sep k1 k2 v1 c1 v2 c2 (hown _ _ _ h1).2 (hown _ _ _ h2).2 hne
end
end Go.Proofs.YtkpfkadjmijmlaaGreatDoor.M
/- append of lists. -/
namespace Go.Proofs.YtkpfkadjmijmlaaGreatDoor.M
open Go.RowKit
set_option linter.unusedVariables false
set_option linter.unusedSimpArgs false

theorem flats_append (xs ys : List AVal) : flats (xs ++ ys) = flats xs ++ flats ys := by simp [flats]
section
variable {P : Program} {C : Cx} {B : Nat} {F : Nat → Nat → Prop} {w0 : World} {hp : Heap} {tm : List Cell} {ct : Array Value}

theorem RV.one_cell {v : AVal} {cv : Value} (h : RV C v cv) (h1 : v.one = true) : cv.oneCell' = true := by
  cases h <;> first | rfl | (simp [AVal.one] at h1)
/-- What a list is in memory. -/
theorem RV.lst_inv {xs : List AVal} {cv : Value} (h : RV C (.lst xs) cv) : ∃ A c sz, cv = .slice A xs.length c ∧ xs.length ≤ c ∧ (xs ≠ [] → 0 < sz) ∧ (∀ x, x ∈ xs → x.flat.length = sz) ∧ (∀ u, u ∈ flats xs → u.one = true) ∧
    ∃ vs : List Value, vs.length = (flats xs).length ∧ (∀ (i : Nat) v, vs[i]? = some v → ∃ b o, A = some ⟨b, o, none⟩ ∧ C.I b (o + i) ∧ C.w.cell? ⟨b, o + i, none⟩ = some v) ∧ ∀ (i : Nat) u v, (flats xs)[i]? = some u → vs[i]? = some v → RV C u v := by
  cases h with
  | lst _ A c sz cu hc hz hs h1 hm h =>
    refine ⟨A, c, sz, rfl, hc, hz, hs, h1, (List.range (flats xs).length).map cu, by simp, fun i v hi => ?_, fun i u v hu hi => ?_⟩
    · rw [List.getElem?_map] at hi
      obtain ⟨j, hj, rfl⟩ := Option.map_eq_some_iff.1 hi
      have hlt := (List.getElem?_eq_some_iff.1 hj).1
      simp at hlt
      rw [List.getElem?_range hlt] at hj
      injection hj with hj; subst hj
      exact hm i _ (List.getElem?_eq_getElem hlt)
    · rw [List.getElem?_map] at hi
      obtain ⟨j, hj, rfl⟩ := Option.map_eq_some_iff.1 hi
      have hlt := (List.getElem?_eq_some_iff.1 hu).1
      rw [List.getElem?_range hlt] at hj
      injection hj with hj; subst hj
      exact h i u hu
theorem RV.lst_mk {xs : List AVal} {A : Option Addr} {c sz : Nat} (hc : xs.length ≤ c) (hz : xs ≠ [] → 0 < sz) (hs : ∀ x, x ∈ xs → x.flat.length = sz) (h1 : ∀ u, u ∈ flats xs → u.one = true)
    (vs : List Value) (hl : vs.length = (flats xs).length) (hm : ∀ (i : Nat) v, vs[i]? = some v → ∃ b o, A = some ⟨b, o, none⟩ ∧ C.I b (o + i) ∧ C.w.cell? ⟨b, o + i, none⟩ = some v) (h : ∀ (i : Nat) u v, (flats xs)[i]? = some u → vs[i]? = some v → RV C u v) : RV C (.lst xs) (.slice A xs.length c) := by
  refine .lst xs A c sz (fun i => vs.getD i undef) hc hz hs h1 (fun i u hu => ?_) (fun i u hu => ?_)
  · have hlt := (List.getElem?_eq_some_iff.1 hu).1
    have hv : vs[i]? = some (vs.getD i undef) := by rw [List.getD_eq_getElem?_getD, List.getElem?_eq_getElem (by omega)]; rfl
    exact hm i _ hv
  · have hlt := (List.getElem?_eq_some_iff.1 hu).1
    exact h i u _ hu (by rw [List.getD_eq_getElem?_getD, List.getElem?_eq_getElem (by omega)]; rfl)
theorem tail_of {xs : List AVal} {b o c sz : Nat} (hne : xs ≠ []) (hs : ∀ x, x ∈ xs → x.flat.length = sz) {b' o' : Nat} : Tail (.lst xs) (.slice (some ⟨b, o, none⟩) xs.length c) b' o' ↔ b' = b ∧ o + xs.length * sz ≤ o' ∧ o' < o + c * sz := by
  constructor
  · rintro ⟨xs', a, n, c', x, r, h1, h2, h3, h4, h5, h6⟩
    injection h1 with h1; subst h1
    injection h2 with h2 _ h7; injection h2 with h2; subst h2 h7
    rw [flats_len hs] at h5
    rw [hs x (by rw [h3]; exact List.mem_cons_self ..)] at h6
    exact ⟨h4, h5, h6⟩
  · rintro ⟨h1, h2, h3⟩
    obtain ⟨x, r, e⟩ := List.exists_cons_of_ne_nil hne
    exact ⟨xs, ⟨b, o, none⟩, xs.length, c, x, r, rfl, rfl, e, h1, by rw [flats_len hs]; exact h2, by rw [hs x (by rw [e]; exact List.mem_cons_self ..)]; exact h3⟩
theorem len_le_of {α : Type} {xs : List α} {n m : Nat} (h : n ≤ m) (k : Nat) : n * k ≤ m * k := Nat.mul_le_mul_right k h

theorem Owned.ne_drop {s : Nat} {v : AVal} {k : Nat × Nat} {v' : AVal} {cv' : Value} (ho : Owned C hp (tm.set s (v, false)) ct k v' cv') : k ≠ (0, s) ∧ Owned C hp tm ct k v' cv' := by
  obtain ⟨i, t⟩ := k
  cases i with
  | zero =>
    obtain ⟨h1, h2⟩ := ho
    rw [List.getElem?_set] at h1
    by_cases e : s = t
    · subst e
      rw [if_pos rfl] at h1
      split at h1 <;> simp at h1
    · rw [if_neg e] at h1
      exact ⟨by simp; exact fun q => e q.symm, h1, h2⟩
  | succ j => exact ⟨by simp, ho⟩

/-- append(x, ys..): what is appended to is owned. -/
theorem WRel.append (h : WRel C B F w0 hp tm ct) {s : Nat} {xs ys : List AVal} {cx cy : Value} (hs : tm[s]? = some (.lst xs, true)) (hcs : ct[s]? = some cx) (hy : RV C (.lst ys) cy)
    (t t2 ty e e2 : TypeId) (i : TypeInfo) (z : Value) (ht : P.underlying t = some (.slice e)) (ht2 : P.underlying t2 = some (.slice e2)) (hi : P.info? e = some i) (hz : i.zero = some z) (hzs : z.cells.size = i.size) (hbz : i.bytes ≠ 0)
    (hsx : ∀ x r, xs = x :: r → x.flat.length = i.size) (hsy : ∀ y r, ys = y :: r → y.flat.length = i.size) (hb : (xs.length + ys.length) * i.bytes ≤ 140737488355328) :
    ∃ D cv, (Builtin.append_ #[t, t2] ty #[cx, cy]).run P C.w = .ok cv D.w ∧ C.Le D ∧ D.nx = C.nx ∧ WRel D B F w0 hp (tm.set s (.lst xs, false)) ct ∧ RV D (.lst (xs ++ ys)) cv ∧ OwnOk D B F hp (.lst (xs ++ ys)) cv ∧
      ∀ k v' cv', Owned D hp (tm.set s (.lst xs, false)) ct k v' cv' → ∀ b o, Tail (.lst (xs ++ ys)) cv b o → ¬ Tail v' cv' b o := by
  have ow : Owned C hp tm ct (0, s) (.lst xs) cx := ⟨hs, hcs⟩
  have ok := h.own _ _ _ ow
  obtain ⟨u, hu1, hx⟩ := h.tmp s _ hs
  rw [hcs] at hu1; injection hu1 with hu1; subst hu1
  obtain ⟨A, c, sz, rfl, hc, hpz, hsz, h1, vs, hvl, hvm, hvr⟩ := hx.lst_inv
  obtain ⟨A2, c2, sz2, rfl, hc2, hpz2, hsz2, h12, vs2, hvl2, hvm2, hvr2⟩ := hy.lst_inv
  have hform : xs = [] → c = 0 := by
    obtain ⟨xs', A', n', c', e1, e2', e3⟩ := ok.form
    injection e1 with e1; subst e1
    injection e2' with _ _ e4; subst e4
    exact e3
  have hX : ∀ x, x ∈ xs → x.flat.length = i.size := by
    cases hxs : xs with
    | nil => intro x hx; cases hx
    | cons x r =>
      have e1 := hsx x r hxs
      have e2' := hsz x (by rw [hxs]; exact List.mem_cons_self ..)
      intro y hy
      rw [hsz y (by rw [hxs]; exact hy), ← e2', e1]
  have hY : ∀ y, y ∈ ys → y.flat.length = i.size := by
    cases hys : ys with
    | nil => intro x hx; cases hx
    | cons x r =>
      have e1 := hsy x r hys
      have e2' := hsz2 x (by rw [hys]; exact List.mem_cons_self ..)
      intro y hy
      rw [hsz2 y (by rw [hys]; exact hy), ← e2', e1]
  have hipos : ys ≠ [] → 0 < i.size := fun hne => by
    obtain ⟨y, r, e⟩ := List.exists_cons_of_ne_nil hne
    have := hpz2 hne
    rw [← hY y (by rw [e]; exact List.mem_cons_self ..), hsz2 y (by rw [e]; exact List.mem_cons_self ..)]
    exact this
  have hiposx : xs ≠ [] → 0 < i.size := fun hne => by
    obtain ⟨y, r, e⟩ := List.exists_cons_of_ne_nil hne
    have := hpz hne
    rw [← hX y (by rw [e]; exact List.mem_cons_self ..), hsz y (by rw [e]; exact List.mem_cons_self ..)]
    exact this
  have lx := flats_len hX
  have ly := flats_len hY
  have hXY : ∀ x, x ∈ xs ++ ys → x.flat.length = i.size := fun x hx => (List.mem_append.1 hx).elim (hX x) (hY x)
  have hXYpos : xs ++ ys ≠ [] → 0 < i.size := fun hne => by
    by_cases e : xs = []
    · subst e; exact hipos (by simpa using hne)
    · exact hiposx e
  have h1XY : ∀ u, u ∈ flats (xs ++ ys) → u.one = true := fun u hu => by
    rw [flats_append] at hu
    exact (List.mem_append.1 hu).elim (h1 u) (h12 u)
  have hlenY : (Builtin.lenOf (.slice A2 ys.length c2)).run P C.w = .ok ys.length C.w := rfl
  have hd2 : ∀ k, (TypeDesc.slice e2) ≠ .int k := fun k q => by cases q
  by_cases hfit : xs.length + ys.length ≤ c
  · by_cases hy0 : ys = []
    · subst hy0
      refine ⟨C, .slice A xs.length c, ?_, Cx.Le.refl C, rfl, h.drop s hs, by simpa using hx, by simpa using ok, fun k v' cv' ho b o ht => ?_⟩
      · have hf := run_first (P := P) C.w i.size 0 c2 A2 [] (by simp) (fun i v hi => by simp at hi)
        have := run_append_in (P := P) C.w t t2 ty e i _ ht ht2 hd2 hi A xs.length c 0 (.slice A2 0 c2) [] rfl hf (by simpa using hfit) C.w (fun a _ => rfl) (fun _ => rfl)
        simpa using this
      · obtain ⟨q1, q2⟩ := Owned.ne_drop ho
        rw [List.append_nil] at ht
        exact h.sep _ _ _ _ _ _ ow q2 (fun q => q1 q.symm) b o ht
    · have hyp := hipos hy0
      have hyl : 0 < ys.length := List.length_pos_iff.2 hy0
      have hx0 : xs ≠ [] := fun q => by have := hform q; subst q; simp at hfit; omega
      have hxl : 0 < xs.length := List.length_pos_iff.2 hx0
      have hvpos : 0 < vs.length := by rw [hvl, lx]; exact Nat.mul_pos hxl hyp
      obtain ⟨b, o, rfl, _, _⟩ := hvm 0 _ (List.getElem?_eq_getElem hvpos)
      have hv2l : vs2.length = ys.length * i.size := by rw [hvl2, ly]
      have hv2ne : vs2 ≠ [] := by
        intro q
        rw [q] at hv2l
        have := Nat.mul_pos hyl hyp
        simp at hv2l
        omega
      have hmul : (xs.length + ys.length) * i.size ≤ c * i.size := Nat.mul_le_mul_right _ hfit
      rw [Nat.add_mul] at hmul
      have hin : ∀ o', o + xs.length * i.size ≤ o' → o' < o + xs.length * i.size + vs2.length → Tail (.lst xs) (.slice (some ⟨b, o, none⟩) xs.length c) b o' := fun o' a1 a2 => (tail_of hx0 hX).2 ⟨rfl, a1, by omega⟩
      obtain ⟨le, hD⟩ := h.fill hs hcs b (o + xs.length * i.size) vs2 hv2ne hin
      have hone : ∀ v ∈ vs2, v.oneCell' = true := by
        intro v hv
        obtain ⟨j, hj⟩ := List.getElem?_of_mem hv
        have hjl := (List.getElem?_eq_some_iff.1 hj).1
        have hu := List.getElem?_eq_getElem (l := flats ys) (i := j) (by omega)
        exact (hvr2 j _ v hu hj).one_cell (h12 _ (List.getElem_mem ..))
      have hst : (storeCells (⟨b, o + xs.length * i.size, none⟩ : Addr) vs2).run P C.w = .ok () (C.fill b (o + xs.length * i.size) vs2).w := by
        refine (run_storeCells_cells (P := P) b (o + xs.length * i.size) vs2 0 C.w (fun j hj => ?_) (fun j hj => ?_) hone)
        · obtain ⟨_, _, _, _, ⟨u, hu⟩, _⟩ := ok.cells b (o + xs.length * i.size + 0 + j) (hin _ (by omega) (by omega))
          rw [hu]; rfl
        · exact (ok.cells b (o + xs.length * i.size + 0 + j) (hin _ (by omega) (by omega))).2.2.2.2.2
      refine ⟨_, .slice (some ⟨b, o, none⟩) (xs.length + ys.length) c, ?_, le, rfl, hD, ?_, ?_, fun k v' cv' ho b' o' ht => ?_⟩
      · have hf := run_first (P := P) C.w i.size ys.length c2 A2 vs2 hv2l (fun i v hi => by obtain ⟨b', o', e1, _, e3⟩ := hvm2 i v hi; exact ⟨b', o', e1, e3⟩)
        refine run_append_in (P := P) C.w t t2 ty e i _ ht ht2 hd2 hi _ xs.length c ys.length (.slice A2 ys.length c2) vs2 rfl hf hfit _ (fun a ha => ?_) (fun q => by cases q)
        injection ha with ha; subst ha
        rw [add_at]
        exact hst
      · rw [← List.length_append]
        refine RV.lst_mk (by simpa using hfit) hXYpos hXY h1XY (vs ++ vs2) (by rw [flats_append, List.length_append, List.length_append, hvl, hvl2]) (fun j v hj => ⟨b, o, rfl, ?_⟩) (fun j u v hu hj => ?_)
        · rcases Nat.lt_or_ge j vs.length with hlt | hge
          · rw [List.getElem?_append_left hlt] at hj
            obtain ⟨b', o', e1, e2', e3⟩ := hvm j v hj
            injection e1 with e1; injection e1 with e1 e1'; subst e1 e1'
            exact ⟨.inl e2', (le.cell _ _ e2').trans e3⟩
          · rw [List.getElem?_append_right hge] at hj
            have hjl := (List.getElem?_eq_some_iff.1 hj).1
            have e4 : o + j = o + xs.length * i.size + (j - vs.length) := by rw [← lx, ← hvl]; omega
            rw [e4]
            refine ⟨.inr ⟨rfl, by omega, by omega⟩, ?_⟩
            have := World.cell?_setCells_in b vs2 (o + xs.length * i.size) C.w (fun k hk => by
              obtain ⟨_, _, _, _, ⟨u, hu⟩, _⟩ := ok.cells b (o + xs.length * i.size + k) (hin _ (by omega) (by omega))
              rw [hu]; rfl) (j - vs.length) hjl
            rw [(List.getElem?_eq_some_iff.1 hj).2] at this
            exact this
        · rw [flats_append] at hu
          rcases Nat.lt_or_ge j vs.length with hlt | hge
          · rw [List.getElem?_append_left hlt] at hj
            rw [List.getElem?_append_left (by omega)] at hu
            exact (hvr j u v hu hj).mono le
          · rw [List.getElem?_append_right hge] at hj
            rw [List.getElem?_append_right (by omega), ← hvl] at hu
            exact (hvr2 _ u v hu hj).mono le
      · refine ⟨⟨xs ++ ys, _, _, c, rfl, rfl, fun q => absurd (List.append_eq_nil_iff.1 q).1 hx0⟩, fun b' o' ht => ?_⟩
        rw [← List.length_append] at ht
        have ht' := (tail_of (fun q => hx0 (List.append_eq_nil_iff.1 q).1) hXY).1 ht
        obtain ⟨rfl, t1, t2'⟩ := ht'
        rw [List.length_append, Nat.add_mul] at t1
        have htl : Tail (.lst xs) (.slice (some ⟨b', o, none⟩) xs.length c) b' o' := (tail_of hx0 hX).2 ⟨rfl, by omega, t2'⟩
        obtain ⟨a1, a2, a3, a4, ⟨u, a5⟩, a6⟩ := ok.cells b' o' htl
        refine ⟨a1, fun hI => ?_, a3, a4, ⟨u, ?_⟩, (World.frozen?_setCells b' vs2 _ C.w _).trans a6⟩
        · rcases hI with hI | ⟨_, _, hI⟩
          · exact a2 hI
          · omega
        · refine (World.cell?_setCells_out b' vs2 _ C.w ⟨b', o', none⟩ fun _ _ => .inr ?_).trans a5
          show o + xs.length * i.size + vs2.length ≤ o'
          omega
      · have q := Owned.ne_drop ho
        have q2 : Owned C hp tm ct k v' cv' := by
          have q2 := q.2
          obtain ⟨k1, k2⟩ := k
          cases k1 with
          | zero => exact q2
          | succ id =>
            obtain ⟨cs', vs', ty', g1, g2, g3, g4⟩ := q2
            have hid : (hget hp id).isSome = true := by rw [g1]; rfl
            have g3' : (C.fill b (o + xs.length * i.size) vs2).w.heap[C.ι id]? = some (.cells vs' ty' (0, 0)) := g3
            rw [show (C.fill b (o + xs.length * i.size) vs2).w.heap[C.ι id]? = C.w.heap[C.ι id]? from setCells_other b _ (fun e => (ok.cells b (o + xs.length * i.size) (hin _ (Nat.le_refl _) (by have := List.length_pos_iff.2 hv2ne; omega))).2.2.2.1 id hid e.symm) _ _ _] at g3'
            exact ⟨cs', vs', ty', g1, g2, g3', g4⟩
        rw [← List.length_append] at ht
        obtain ⟨rfl, t1, t2'⟩ := (tail_of (fun q => hx0 (List.append_eq_nil_iff.1 q).1) hXY).1 ht
        rw [List.length_append, Nat.add_mul] at t1
        exact h.sep _ _ _ _ _ _ ow q2 (fun e => q.1 e.symm) b' o' ((tail_of hx0 hX).2 ⟨rfl, by omega, t2'⟩)
  · have hy0 : ys ≠ [] := fun q => by subst q; simp at hfit; omega
    have hyp := hipos hy0
    have hne : xs ++ ys ≠ [] := fun q => hy0 (List.append_eq_nil_iff.1 q).2
    have hvl' : vs.length = xs.length * i.size := by rw [hvl, lx]
    have hv2l : vs2.length = ys.length * i.size := by rw [hvl2, ly]
    have hf := run_first (P := P) C.w.drew i.size ys.length c2 A2 vs2 hv2l (fun i v hi => by obtain ⟨b', o', e1, _, e3⟩ := hvm2 i v hi; exact ⟨b', o', e1, e3⟩)
    have hfo := run_first (P := P) C.w.drew i.size xs.length c A vs hvl' (fun i v hi => by obtain ⟨b', o', e1, _, e3⟩ := hvm i v hi; exact ⟨b', o', e1, e3⟩)
    have hrun := run_append_out (P := P) C.w t t2 ty e i z _ ht ht2 hd2 hi hz A xs.length c ys.length (.slice A2 ys.length c2) vs vs2 rfl hfit hf hfo hb hbz
    generalize hcap : grownCap C.w (xs.length + ys.length) c e = cap at hrun
    have hcapge : xs.length + ys.length ≤ cap := by rw [← hcap]; exact grownCap_ge _ _ _ _
    let blk : Array Value := vs.toArray ++ vs2.toArray ++ Builtin.zeroCells z.cells (cap - (xs.length + ys.length))
    have hbs : blk.size = cap * i.size := by
      simp only [blk, Array.size_append, List.size_toArray, size_zeroCells, hzs, hvl', hv2l]
      rw [← Nat.add_mul, ← Nat.add_mul]
      congr 1
      omega
    have hbl : ∀ (j : Nat) (v : Value), (vs ++ vs2)[j]? = some v → blk[j]? = some v := by
      intro j v hj
      have hjl := (List.getElem?_eq_some_iff.1 hj).1
      rw [List.length_append] at hjl
      simp only [blk]
      rw [Array.getElem?_append_left (by simpa using hjl), List.append_toArray]
      simpa using hj
    let D : Cx := { ι := C.ι, I := fun b' o => C.I b' o ∨ (b' = C.w.heap.size ∧ o < (xs.length + ys.length) * i.size), nx := C.nx, w := C.w.drew.alloc (.cells blk e) }
    have hnew : ∀ (o : Nat), D.w.cell? ⟨C.w.heap.size, o, none⟩ = blk[o]? := fun o => cell_new C.w.drew blk e o
    have hcs' : (xs.length + ys.length) * i.size ≤ cap * i.size := Nat.mul_le_mul_right _ hcapge
    have g : Grow C D := ⟨(Below.refl _ C.w).drew.trans (below_alloc' C.w.drew _), Nat.le_refl _, fun _ _ => rfl, fun _ _ h => .inl h, fun b o hI => hI.imp id fun q => by rw [q.1]; exact Nat.le_refl _, fun b o hI hbb => by
      rcases hI with hI | ⟨rfl, hI⟩
      · obtain ⟨u, hu⟩ := h.heap.imm b o hI
        have := cell_lt hu; omega
      · exact ⟨blk[o]'(by omega), by rw [hnew]; exact Array.getElem?_eq_getElem (by omega)⟩⟩
    have le := h.heap.le g
    refine ⟨D, .slice (some ⟨C.w.heap.size, 0, none⟩) (xs.length + ys.length) cap, hrun, le, rfl, (h.grow g).drop s hs, ?_, ?_, fun k v' cv' ho b' o' ht => ?_⟩
    · rw [← List.length_append]
      refine RV.lst_mk (by simpa using hcapge) hXYpos hXY h1XY (vs ++ vs2) (by rw [flats_append, List.length_append, List.length_append, hvl, hvl2]) (fun j v hj => ⟨_, 0, rfl, ?_⟩) (fun j u v hu hj => ?_)
      · have hjl := (List.getElem?_eq_some_iff.1 hj).1
        rw [List.length_append, hvl', hv2l, ← Nat.add_mul] at hjl
        refine ⟨.inr ⟨rfl, by omega⟩, ?_⟩
        rw [hnew, Nat.zero_add]
        exact hbl j v hj
      · rw [flats_append] at hu
        rcases Nat.lt_or_ge j vs.length with hlt | hge
        · rw [List.getElem?_append_left hlt] at hj
          rw [List.getElem?_append_left (by omega)] at hu
          exact (hvr j u v hu hj).mono le
        · rw [List.getElem?_append_right hge] at hj
          rw [List.getElem?_append_right (by omega), ← hvl] at hu
          exact (hvr2 _ u v hu hj).mono le
    · refine ⟨⟨xs ++ ys, _, _, cap, rfl, rfl, fun q => absurd q hne⟩, fun b' o' ht => ?_⟩
      rw [← List.length_append] at ht
      obtain ⟨rfl, t1, t2'⟩ := (tail_of hne hXY).1 ht
      rw [List.length_append, Nat.zero_add] at t1
      rw [Nat.zero_add] at t2'
      refine ⟨Nat.le_trans h.heap.base h.heap.below.size, fun hI => ?_, fun hF => ?_, fun id hid => ?_, ⟨blk[o']'(by omega), ?_⟩, ?_⟩
      · rcases hI with hI | ⟨_, hI⟩
        · obtain ⟨u, hu⟩ := h.heap.imm _ _ hI
          exact absurd (cell_lt hu) (Nat.lt_irrefl _)
        · omega
      · obtain ⟨⟨u, hu⟩, _⟩ := h.heap.far _ _ hF
        exact absurd (cell_lt hu) (Nat.lt_irrefl _)
      · have := (h.heap.out id hid).2.1
        show C.w.heap.size ≠ C.ι id
        omega
      · rw [hnew]; exact Array.getElem?_eq_getElem (by omega)
      · have := alloc_at C.w.drew (.cells blk e)
        show (C.w.drew.alloc (.cells blk e)).frozen? _ = false
        simp only [World.frozen?]
        rw [show C.w.heap.size = C.w.drew.heap.size from rfl, this]
        simp
    · have q := (Owned.ne_drop ho).2.back h.heap g
      rw [← List.length_append] at ht
      obtain ⟨rfl, t1, t2'⟩ := (tail_of hne hXY).1 ht
      intro ht'
      obtain ⟨_, _, _, _, ⟨u, hu⟩, _⟩ := (h.own k v' cv' q).cells _ _ ht'
      exact absurd (cell_lt hu) (Nat.lt_irrefl _)
end
end Go.Proofs.YtkpfkadjmijmlaaGreatDoor.M
/- The machine is right, operation by operation (1). -/
namespace Go.Proofs.YtkpfkadjmijmlaaGreatDoor.M
open Go.RowKit
set_option linter.unusedVariables false
set_option linter.unusedSimpArgs false

section
variable {P : Program} {C : Cx} {B : Nat} {F : Nat → Nat → Prop} {w0 : World} {hp : Heap} {tm : List Cell} {ct : Array Value} {v : Value}

theorem RV.int_inv {k : IntKind} {n : Int} (h : RV C (.int k n) v) : v = .int k n := by cases h; rfl
theorem RV.bool_inv {b : Bool} (h : RV C (.bool b) v) : v = .bool b := by cases h; rfl
theorem RV.str_inv {s : ByteArray} (h : RV C (.str s) v) : v = .string s := by cases h; rfl
theorem RV.ptr_inv {id off : Nat} (h : RV C (.ptr id off) v) : v = .pointer (some ⟨C.ι id, off, none⟩) ∧ id < C.nx := by cases h; exact ⟨rfl, by assumption⟩
theorem RV.sl_inv {id off len sz : Nat} {ag : Bool} (h : RV C (.sl id off len sz ag) v) : ∃ c, v = .slice (some ⟨C.ι id, off, none⟩) len c ∧ id < C.nx ∧ len ≤ c ∧ ∀ o, o < off + c * sz → ∃ u, C.w.cell? ⟨C.ι id, o, none⟩ = some u := by
  cases h; exact ⟨_, rfl, by assumption, by assumption, by assumption⟩
theorem RV.agg_inv {cs : List AVal} (h : RV C (.agg cs) v) : ∃ vs : List Value, v = .agg vs.toArray ∧ vs.length = cs.length ∧ (∀ a, a ∈ cs → a.one = true) ∧ ∀ (i : Nat) a u, cs[i]? = some a → vs[i]? = some u → RV C a u := by
  cases h with
  | agg cs vs hl h1 h => exact ⟨vs, rfl, hl, h1, h⟩
theorem RV.tup_inv {cs : List AVal} (h : RV C (.tup cs) v) : ∃ vs : List Value, v = .tuple vs.toArray ∧ vs.length = cs.length ∧ ∀ (i : Nat) a u, cs[i]? = some a → vs[i]? = some u → RV C a u := by
  cases h with
  | tup cs vs hl h => exact ⟨vs, rfl, hl, h⟩
theorem RV.pel_inv {e : AVal} {off : Nat} (h : RV C (.pel e off) v) : ∃ b o, v = .pointer (some ⟨b, o + off, none⟩) ∧ (∀ u, u ∈ e.flat → u.one = true) ∧ ∃ cu : Nat → Value, (∀ (i : Nat) u, e.flat[i]? = some u → C.I b (o + i) ∧ C.w.cell? ⟨b, o + i, none⟩ = some (cu i)) ∧ ∀ (i : Nat) u, e.flat[i]? = some u → RV C u (cu i) := by
  cases h with
  | pel e off b o cu h1 hm h => exact ⟨b, o, rfl, h1, cu, hm, h⟩
theorem RV.clo_inv {f : FuncId} {fs cs : List AVal} (h : RV C (.clo f fs cs) v) : ∃ fv cv : List Value, v = .func (.func f) fv.toArray cv.toArray ∧ fv.length = fs.length ∧ cv.length = cs.length ∧ (∀ (i : Nat) a u, fs[i]? = some a → fv[i]? = some u → RV C a u) ∧ ∀ (i : Nat) a u, cs[i]? = some a → cv[i]? = some u → RV C a u := by
  cases h with
  | clo f fs cs fv cv hf hl h h' => exact ⟨fv, cv, rfl, hf, hl, h, h'⟩
theorem RV.ofCell (u : Value) : RV C (ofCell u) u := by
  unfold M.ofCell
  split
  · exact .int _ _
  · exact .bool _
  · exact .str _
  · exact .nilp
  · exact .nilf
  · exact .nilm
  · refine RV.lst_mk (sz := 1) (Nat.le_refl _) (fun h => absurd rfl h) (fun x hx => by cases hx) (fun u hu => by cases hu) [] rfl (fun i v hi => by simp at hi) (fun i a v hi => by simp [flats] at hi)
  · exact .bad _
theorem RV.ofCellN (u : Value) : RV C (ofCellN u) u := by
  unfold M.ofCellN
  split
  · exact .nils
  · exact RV.ofCell _
theorem RV.ofVal (u : Value) : RV C (ofVal u) u := by
  cases u with
  | agg cs =>
    simp only [M.ofVal]
    split
    · rename_i h
      have := RV.agg (C := C) (cs.toList.map M.ofCell) cs.toList (by simp) (fun a ha => List.all_eq_true.1 h a ha) (fun i a v hi hv => by
        rw [List.getElem?_map, hv] at hi
        injection hi with hi; subst hi
        exact RV.ofCell v)
      simpa using this
    · exact .bad _
  | tuple cs =>
    simp only [M.ofVal]
    split
    · rename_i h
      have e : cs = #[] := Array.eq_empty_of_size_eq_zero h
      subst e
      exact RV.tup [] [] rfl (fun i a v hi => by simp at hi)
    · exact .bad _
  | _ => simp only [M.ofVal]; exact RV.ofCell _
theorem RV.ofValN (u : Value) : RV C (ofValN u) u := by
  cases u with
  | agg cs =>
    simp only [M.ofValN]
    split
    · rename_i h
      have := RV.agg (C := C) (cs.toList.map M.ofCellN) cs.toList (by simp) (fun a ha => List.all_eq_true.1 h a ha) (fun i a v hi hv => by
        rw [List.getElem?_map, hv] at hi
        injection hi with hi; subst hi
        exact RV.ofCellN v)
      simpa using this
    · exact .bad _
  | _ => simp only [M.ofValN]; exact RV.ofVal _
/-- What an operand is. -/
theorem WRel.ev (h : WRel C B F w0 hp tm ct) (x : Operand) (ds : List Deferred) : RV C (ev tm x).1 (Act.eval ⟨ct, ds⟩ x) := by
  cases x with
  | tmp t =>
    simp only [M.ev, Act.eval]
    cases ht : tm[t]? with
    | none => exact .bad _
    | some c =>
      obtain ⟨u, hu, hr⟩ := h.tmp t c ht
      have : ct.getD t undef = u := by
        have hlt := (Array.getElem?_eq_some_iff.1 hu).1
        have he := (Array.getElem?_eq_some_iff.1 hu).2
        simp [Array.getD, hlt, he]
      rw [this]
      exact hr
  | const u => exact RV.ofVal u
  | global g => exact .bad _
  | func f => exact RV.clo f [] [] [] [] rfl rfl (fun i a v hi => by simp at hi) (fun i a v hi => by simp at hi)

/-- The operation has gone through: what it left. -/
def Done (C : Cx) (B : Nat) (F : Nat → Nat → Prop) (w0 : World) (tm : List Cell) (a : Act) (dst : Option Tmp) (q : Out) (r : Result Next) : Prop :=
  ∃ D n u, r = .ok n D.w ∧ (n = .value u ∨ (n = .skip ∧ u = undef)) ∧ C.Le D ∧ D.nx = q.nx ∧ WRel D B F w0 q.hp (q.put dst tm).tm (a.put dst u).tmps ∧ (a.put dst u).defers = a.defers
theorem put_defers (a : Act) (dst : Option Tmp) (u : Value) : (a.put dst u).defers = a.defers := by cases dst <;> rfl
theorem put_tmps (a : Act) (d : Nat) (u : Value) : (a.put (some d) u).tmps = a.tmps.setIfInBounds d u := rfl

theorem done_val (h : WRel C B F w0 hp tm ct) (ds : List Deferred) (dst : Option Tmp) {x : AVal} {u : Value} (hx : RV C x u) : Done C B F w0 tm ⟨ct, ds⟩ dst (Out.val C.nx hp x) (.ok (.value u) C.w) := by
  refine ⟨C, _, u, rfl, .inl rfl, Cx.Le.refl C, rfl, ?_, put_defers _ _ _⟩
  cases dst with
  | none => exact h
  | some d => exact h.put d hx
theorem unflag_some {t : Nat} {c : Cell} (h : tm[t]? = some c) : unflag tm t = tm.set t (c.1, false) := by simp [unflag, h]
/-- nil is owned. -/
theorem WRel.putn (h : WRel C B F w0 hp tm ct) (d : Nat) {b : Bool} : WRel C B F w0 hp (tm.set d (.lst [], b)) (ct.setIfInBounds d (.slice none 0 0)) := by
  cases b with
  | false => exact h.put d (by have := RV.ofCell (C := C) (.slice none 0 0); exact this)
  | true =>
    refine h.puto d (by have := RV.ofCell (C := C) (.slice none 0 0); exact this) ⟨⟨[], none, 0, 0, rfl, rfl, fun _ => rfl⟩, fun b o ht => ?_⟩ (fun k v' cv' _ _ b o ht => ?_)
    · obtain ⟨_, _, _, _, _, _, _, h2, _⟩ := ht; simp at h2
    · obtain ⟨_, _, _, _, _, _, _, h2, _⟩ := ht; simp at h2
theorem isNil_eq {u : Value} (h : isNil u = true) : u = .slice none 0 0 := by
  unfold isNil at h
  split at h
  · rfl
  · cases h
theorem sound_move (h : WRel C B F w0 hp tm ct) (ds : List Deferred) (dst : Option Tmp) (take : Bool) (x : Operand) {q : Out} (hq : amove take x (ev tm x) C.nx hp = some q) : Done C B F w0 tm ⟨ct, ds⟩ dst q (.ok (.value (Act.eval ⟨ct, ds⟩ x)) C.w) := by
  have hx := h.ev x ds
  cases x with
  | tmp t =>
    generalize hc : M.ev tm (.tmp t) = c at hq hx
    obtain ⟨a, f⟩ := c
    cases f with
    | false => simp only [amove] at hq; injection hq with hq; subst hq; exact done_val h ds dst hx
    | true =>
      simp only [amove] at hq
      split at hq
      · injection hq with hq; subst hq
        have ht : tm[t]? = some (a, true) := by
          simp only [M.ev] at hc
          cases ht : tm[t]? with
          | none => rw [ht] at hc; simp at hc
          | some c => rw [ht] at hc; simp at hc; rw [hc]
        obtain ⟨u, hu, _⟩ := h.tmp t _ ht
        have hev : Act.eval ⟨ct, ds⟩ (.tmp t) = u := by
          have hlt := (Array.getElem?_eq_some_iff.1 hu).1
          have he := (Array.getElem?_eq_some_iff.1 hu).2
          simp [Act.eval, Array.getD, hlt, he]
        rw [hev]
        refine ⟨C, _, u, rfl, .inl rfl, Cx.Le.refl C, rfl, ?_, put_defers _ _ _⟩
        cases dst with
        | none => simp only [Out.put, unflag_some ht]; exact h.drop t ht
        | some d => simp only [Out.put, unflag_some ht]; exact h.puts d t ht hu
      · injection hq with hq; subst hq; exact done_val h ds dst hx
  | const u =>
    simp only [amove, M.ev] at hq
    injection hq with hq; subst hq
    refine ⟨C, _, u, rfl, .inl rfl, Cx.Le.refl C, rfl, ?_, put_defers _ _ _⟩
    cases dst with
    | none => exact h
    | some d =>
      show WRel C B F w0 hp (tm.set d (M.ofVal u, isNil u)) (ct.setIfInBounds d u)
      cases hn : isNil u with
      | false => exact h.put d (RV.ofVal u)
      | true => obtain rfl := isNil_eq hn; exact h.putn d
  | global g => simp only [amove, M.ev] at hq; injection hq with hq; subst hq; exact done_val h ds dst hx
  | func f => simp only [amove, M.ev] at hq; injection hq with hq; subst hq; exact done_val h ds dst hx
end
end Go.Proofs.YtkpfkadjmijmlaaGreatDoor.M
/- The machine is right, operation by operation (2): operations that give a value. -/
namespace Go.Proofs.YtkpfkadjmijmlaaGreatDoor.M
open Go.RowKit
set_option linter.unusedVariables false
set_option linter.unusedSimpArgs false

section
variable {P : Program} {C : Cx} {B : Nat} {F : Nat → Nat → Prop} {w0 : World} {hp : Heap} {tm : List Cell} {ct : Array Value}

theorem val_some {nx : Nat} {hp : Heap} {x : Option AVal} {q : Out} (h : x.map (Out.val nx hp) = some q) : ∃ v, x = some v ∧ q = Out.val nx hp v := by
  cases x with
  | none => cases h
  | some v => injection h with h; exact ⟨v, rfl, h.symm⟩
theorem info_of_underlying {t : TypeId} {d : TypeDesc} (h : P.underlying t = some d) : ∃ i, P.info? t = some i := by
  unfold Program.underlying at h
  cases hi : P.info? t with
  | none => rw [hi] at h; cases h
  | some i => exact ⟨i, rfl⟩
theorem info_of_size {t : TypeId} (h : 0 < sizeT P t) : ∃ i, P.info? t = some i ∧ i.size = sizeT P t := by
  unfold sizeT at h ⊢
  cases hi : P.info? t with
  | none => rw [hi] at h; simp at h
  | some i => exact ⟨i, rfl, rfl⟩
theorem run_sizeT {t : TypeId} {i : TypeInfo} (h : P.info? t = some i) (w : World) : (sizeOf t).run P w = .ok (sizeT P t) w := by
  simp [sizeOf, typeInfo, sizeT, h]
theorem run_isAggT {t : TypeId} {b : Bool} (h : isAggT P t = some b) (w : World) : (isAgg t).run P w = .ok b w := by
  unfold isAggT at h
  unfold isAgg
  cases hu : P.underlying t with
  | none => rw [hu] at h; cases h
  | some d =>
    rw [hu] at h
    simp only [Sem.run_bind, run_underlying hu, Result.andThen_ok]
    cases d <;> simp at h <;> subst h <;> rfl
theorem info_of_agg {t : TypeId} {b : Bool} (h : isAggT P t = some b) : ∃ i, P.info? t = some i := by
  unfold isAggT at h
  cases hu : P.underlying t with
  | none => rw [hu] at h; cases h
  | some d => exact info_of_underlying hu

theorem sound_bin (ds : List Deferred) (op : BinOp) (t : TypeId) (x y : Operand) {a b : AVal} {r : AVal} {u v : Value} (hu : RV C a u) (hv : RV C b v) (h : abin op a b = some r) :
    ∃ z, (do eqGuard op t x y u v; binOp op t u v : Sem Value).run P C.w = .ok z C.w ∧ RV C r z := by
  cases a <;> cases b <;> simp only [abin] at h <;> try (cases h; done)
  · rename_i k n k' n'
    split at h
    · rename_i hk; subst hk
      obtain rfl := hu.int_inv
      obtain rfl := hv.int_inv
      have hg : (eqGuard op t x y (.int k n) (.int k n')).run P C.w = .ok () C.w := by unfold eqGuard; cases op <;> rfl
      cases op <;> simp only [aint] at h <;> try (cases h; done)
      all_goals first
        | (injection h with h; subst h; simp only [Sem.run_bind, hg, Result.andThen_ok, binOp, Op.intArith, Op.intCmp, ne_eq, not_true_eq_false, if_false]; first | exact ⟨_, rfl, M.RV.int _ _⟩ | exact ⟨_, rfl, M.RV.bool _⟩)
        | (split at h
           · cases h
           · rename_i hz
             injection h with h; subst h
             simp only [Sem.run_bind, hg, Result.andThen_ok, binOp, Op.intDiv, ne_eq, not_true_eq_false, if_false, if_neg hz]
             exact ⟨_, rfl, M.RV.int _ _⟩)
    · cases h
  · rename_i s s'
    obtain rfl := hu.str_inv
    obtain rfl := hv.str_inv
    have hg : (eqGuard op t x y (.string s) (.string s')).run P C.w = .ok () C.w := by unfold eqGuard; cases op <;> rfl
    cases op <;> simp only [astr] at h <;> try (cases h; done)
    all_goals first
      | (injection h with h; subst h; simp only [Sem.run_bind, hg, Result.andThen_ok, binOp, Op.stringOp]; exact ⟨_, rfl, M.RV.bool _⟩)
      | (split at h
         · rename_i hl
           injection h with h; subst h
           simp only [Sem.run_bind, hg, Result.andThen_ok, binOp, Op.stringOp]
           rw [if_neg (by simp [IntKind.max, IntKind.signed, IntKind.bits]; omega)]
           exact ⟨_, rfl, M.RV.str _⟩
         · cases h)
theorem sound_un (op : UnOp) {a r : AVal} {u : Value} (hu : RV C a u) (h : aun op a = some r) : ∃ z, (Op.unary op u).run P C.w = .ok z C.w ∧ RV C r z := by
  cases op <;> cases a <;> simp only [aun] at h <;> try (cases h; done)
  all_goals
    injection h with h; subst h
    first
      | (obtain rfl := hu.int_inv; exact ⟨_, rfl, M.RV.int _ _⟩)
      | (obtain rfl := hu.bool_inv; exact ⟨_, rfl, M.RV.bool _⟩)
theorem sound_field_addr (t : TypeId) (f : Nat) {a r : AVal} {u : Value} (hu : RV C a u) (h : afield P t a f = some r) : ∃ z, (Instr.fieldAt t u f).run P C.w = .ok z C.w ∧ RV C r z := by
  unfold afield at h
  cases hd : P.underlying t with
  | none => rw [hd] at h; cases h
  | some d =>
    rw [hd] at h
    cases d <;> (try simp only at h) <;> try (cases h; done)
    rename_i fs
    cases hf : fs[f]? with
    | none => rw [hf] at h; cases h
    | some fd =>
      rw [hf] at h
      simp only at h
      split at h
      · rename_i hz
        obtain ⟨i, hi, _⟩ := info_of_size hz
        have hz' : sizeT P fd.type ≠ 0 := by omega
        cases a <;> simp only [ashift] at h <;> try (cases h; done)
        · rename_i id off
          injection h with h; subst h
          obtain ⟨rfl, hid⟩ := hu.ptr_inv
          refine ⟨.pointer (some ⟨C.ι id, off + fd.offset, none⟩), ?_, .ptr _ _ hid⟩
          simp [Instr.fieldAt, run_underlying hd, hf, Instr.sureAddr, fieldPlace, run_sizeT hi, hz', add_at]
        · rename_i e off
          injection h with h; subst h
          obtain ⟨b, o, rfl, h1, cu, hm, hr⟩ := hu.pel_inv
          refine ⟨.pointer (some ⟨b, o + (off + fd.offset), none⟩), ?_, .pel e _ b o cu h1 hm hr⟩
          simp [Instr.fieldAt, run_underlying hd, hf, Instr.sureAddr, fieldPlace, run_sizeT hi, hz', add_at, Nat.add_assoc]
      · cases h
theorem sound_index_addr (t : TypeId) {a i r : AVal} {u v : Value} (hu : RV C a u) (hv : RV C i v) (h : aindexa P t a i = some r) : ∃ z, (Instr.indexAt t u v).run P C.w = .ok z C.w ∧ RV C r z := by
  cases a <;> cases i <;> simp only [aindexa] at h <;> try (cases h; done)
  case sl.int id off len sz ag k n =>
    split at h
    · rename_i h0
      cases hd : P.underlying t with
      | none => rw [hd] at h; cases h
      | some d =>
        rw [hd] at h
        cases d <;> (try simp only at h) <;> try (cases h; done)
        rename_i el
        split at h
        · rename_i hsz
          injection h with h; subst h
          obtain rfl := hv.int_inv
          obtain ⟨c, rfl, hid, hc, hx⟩ := hu.sl_inv
          obtain ⟨ti, hti, _⟩ := info_of_size (P := P) (t := el) (by omega)
          refine ⟨.pointer (some ⟨C.ι id, off + n.toNat * sz, none⟩), ?_, .ptr id _ hid⟩
          simp [Instr.indexAt, asIntOf, run_underlying hd, h0.1, h0.2, run_sizeT hti, add_at, ← hsz.1]
        · cases h
    · cases h
  rename_i xs k n
  split at h
  · rename_i h0
    cases hx : xs[n.toNat]? with
    | none => rw [hx] at h; cases h
    | some e =>
      rw [hx] at h
      cases hd : P.underlying t with
      | none => rw [hd] at h; cases h
      | some d =>
        rw [hd] at h
        cases d <;> (try simp only at h) <;> try (cases h; done)
        rename_i el
        split at h
        · rename_i hsz
          injection h with h; subst h
          obtain rfl := hv.int_inv
          obtain ⟨A, c, sz, rfl, hc, hpz, hs, h1, vs, hvl, hvm, hvr⟩ := hu.lst_inv
          have hmem : e ∈ xs := List.mem_of_getElem? hx
          have hlt : n.toNat < xs.length := (List.getElem?_eq_some_iff.1 hx).1
          have hse := hs e hmem
          have hzpos : 0 < sz := hpz (List.ne_nil_of_mem hmem)
          obtain ⟨ti, hti, _⟩ := info_of_size (P := P) (t := el) (by omega)
          have hfl := flats_len hs
          have hjb : n.toNat * sz < vs.length := by
            rw [hvl, hfl]
            exact Nat.mul_lt_mul_of_pos_right hlt hzpos
          obtain ⟨b, o, rfl, _, _⟩ := hvm 0 _ (List.getElem?_eq_getElem (by omega))
          have hel : ∀ j, j < sz → (flats xs)[n.toNat * sz + j]? = e.flat[j]? := by
            intro j hj
            have hg : ∀ (l : List AVal) (k : Nat), (∀ x, x ∈ l → x.flat.length = sz) → l[k]? = some e → (flats l)[k * sz + j]? = e.flat[j]? := by
              intro l
              induction l with
              | nil => intro k _ hk; simp at hk
              | cons y l ih =>
                intro k hl hk
                have hy := hl y (List.mem_cons_self ..)
                cases k with
                | zero =>
                  simp at hk; subst hk
                  simp only [flats, List.flatMap_cons, Nat.zero_mul, Nat.zero_add]
                  rw [List.getElem?_append_left (by omega)]
                | succ k =>
                  simp only [List.getElem?_cons_succ] at hk
                  have := ih k (fun x hx => hl x (List.mem_cons_of_mem _ hx)) hk
                  simp only [flats, List.flatMap_cons]
                  rw [List.getElem?_append_right (by rw [hy, Nat.add_mul]; omega), hy, show (k + 1) * sz + j - sz = k * sz + j by rw [Nat.add_mul]; omega]
                  exact this
            exact hg xs n.toNat hs hx
          refine ⟨.pointer (some ⟨b, o + n.toNat * sz + 0, none⟩), ?_, RV.pel e 0 b (o + n.toNat * sz) (fun j => vs.getD (n.toNat * sz + j) undef) (fun u hu => ?_) (fun j u hj => ?_) (fun j u hj => ?_)⟩
          · have hn : n < (xs.length : Int) := by omega
            simp [Instr.indexAt, asIntOf, run_underlying hd, h0, hn, run_sizeT hti, add_at, ← hsz, hse]
          · obtain ⟨j, hj⟩ := List.getElem?_of_mem hu
            have hjl : j < sz := by have := (List.getElem?_eq_some_iff.1 hj).1; omega
            exact h1 u (List.mem_of_getElem? ((hel j hjl).trans hj))
          · have hjl : j < sz := by have := (List.getElem?_eq_some_iff.1 hj).1; omega
            have hq := (hel j hjl).trans hj
            have hql := (List.getElem?_eq_some_iff.1 hq).1
            have hv' : vs[n.toNat * sz + j]? = some (vs.getD (n.toNat * sz + j) undef) := by rw [List.getD_eq_getElem?_getD, List.getElem?_eq_getElem (by omega)]; rfl
            obtain ⟨b', o', e1, e2, e3⟩ := hvm _ _ hv'
            injection e1 with e1; injection e1 with e1 e1'; subst e1 e1'
            rw [Nat.add_assoc]
            exact ⟨e2, e3⟩
          · have hjl : j < sz := by have := (List.getElem?_eq_some_iff.1 hj).1; omega
            have hq := (hel j hjl).trans hj
            have hql := (List.getElem?_eq_some_iff.1 hq).1
            exact hvr _ _ _ hq (by rw [List.getD_eq_getElem?_getD, List.getElem?_eq_getElem (by omega)]; rfl)
        · cases h
  · cases h
theorem sound_index (t : TypeId) {a i r : AVal} {u v : Value} (hu : RV C a u) (hv : RV C i v) (h : aindex P t a i = some r) : ∃ z, (Instr.index t u v).run P C.w = .ok z C.w ∧ RV C r z := by
  cases a <;> cases i <;> simp only [aindex] at h <;> try (cases h; done)
  rename_i s k n
  obtain rfl := hu.str_inv
  obtain rfl := hv.int_inv
  split at h
  · rename_i h0
    cases hd : P.underlying t with
    | none => rw [hd] at h; cases h
    | some d =>
      rw [hd] at h
      cases d <;> (try simp only at h) <;> try (cases h; done)
      cases hb : s[n.toNat]? with
      | none => rw [hb] at h; cases h
      | some b =>
        rw [hb] at h
        injection h with h; subst h
        exact ⟨.int .u8 b.toNat, by simp [Instr.index, asIntOf, run_underlying hd, h0, hb], M.RV.int _ _⟩
  · cases h
/-- Cells of a value that lies together. -/
theorem sound_pick (t : TypeId) {cs : List AVal} {off : Nat} {r : AVal} {vs : List Value} (hl : vs.length = cs.length) (h1 : ∀ a, a ∈ cs → a.one = true) (hv : ∀ (i : Nat) a u, cs[i]? = some a → vs[i]? = some u → RV C a u) (h : pick P t cs off = some r) :
    ∃ z, (part t vs.toArray off).run P C.w = .ok z C.w ∧ RV C r z := by
  unfold pick at h
  cases hg : isAggT P t with
  | none => rw [hg] at h; cases h
  | some b =>
    rw [hg] at h
    obtain ⟨i, hi⟩ := info_of_agg hg
    cases b with
    | true =>
      simp only at h
      split at h
      · rename_i hle
        injection h with h; subst h
        refine ⟨.agg (vs.toArray.extract off (off + sizeT P t)), by simp [part, run_isAggT hg, run_sizeT hi], ?_⟩
        have e : vs.toArray.extract off (off + sizeT P t) = ((vs.drop off).take (sizeT P t)).toArray := by
          simp [List.extract_toArray, List.extract_eq_take_drop]
        rw [e]
        refine .agg _ _ (by simp [hl]) (fun a ha => h1 a (List.mem_of_mem_drop (List.mem_of_mem_take ha))) (fun j a u ha hu => ?_)
        rw [List.getElem?_take] at ha hu
        split at ha
        · rename_i hj
          rw [if_pos hj] at hu
          rw [List.getElem?_drop] at ha hu
          exact hv _ _ _ ha hu
        · cases ha
      · cases h
    | false =>
      simp only at h
      have hlt := (List.getElem?_eq_some_iff.1 h).1
      refine ⟨vs[off]'(by omega), ?_, hv off _ _ h (List.getElem?_eq_getElem (by omega))⟩
      simp [part, run_isAggT hg, List.getElem?_eq_getElem (show off < vs.length by omega)]
theorem sound_eq1 (d : Nat) (t : TypeId) {a b : AVal} {r : Bool} {u v : Value} (hu : RV C a u) (hv : RV C b v) (h : aeq1 P t a b = some r) : (Op.equalIn (d + 1) t u v).run P C.w = .ok r C.w := by
  cases a <;> cases b <;> simp only [aeq1] at h <;> try (cases h; done)
  · obtain rfl := hu.int_inv
    obtain rfl := hv.int_inv
    split at h
    · rename_i k' hd
      split at h
      · rename_i hk
        injection h with h; subst h hk
        exact run_equalIn_int _ d t _ k' _ _ hd
      · cases h
    · cases h
  · obtain rfl := hu.bool_inv
    obtain rfl := hv.bool_inv
    split at h
    · rename_i hd
      injection h with h; subst h
      exact run_equalIn_bool' _ d t _ _ hd
    · cases h
  · obtain rfl := hu.str_inv
    obtain rfl := hv.str_inv
    split at h
    · rename_i hd
      injection h with h; subst h
      exact run_equalIn_string _ d t _ _ hd
    · cases h
theorem sound_eqFs (d : Nat) {xs ys : List AVal} {us vs : List Value} (hu : RV C (.agg xs) (.agg us.toArray)) (hv : RV C (.agg ys) (.agg vs.toArray)) : ∀ (l : List Field) {r : Bool}, aeqFs P xs ys l = some r → (Op.eqFields (d + 1) us.toArray vs.toArray l).run P C.w = .ok r C.w := by
  obtain ⟨us', e1, ul, u1, ur⟩ := hu.agg_inv
  injection e1 with e1
  have e1 : us = us' := by simpa using e1
  subst e1
  obtain ⟨vs', e2, vl, v1, vr⟩ := hv.agg_inv
  injection e2 with e2
  have e2 : vs = vs' := by simpa using e2
  subst e2
  intro l
  induction l with
  | nil => intro r h; cases h; rfl
  | cons f l ih =>
    intro r h
    simp only [aeqFs] at h
    simp only [Op.eqFields]
    split at h
    · rename_i hn
      rw [if_pos hn]
      split at h
      · rename_i a b ha hb
        obtain ⟨p, hp, hrp⟩ := sound_pick (P := P) f.type ul u1 ur ha
        obtain ⟨q, hq, hrq⟩ := sound_pick (P := P) f.type vl v1 vr hb
        simp only [Sem.run_bind, hp, hq, Result.andThen_ok]
        split at h
        · rename_i he
          rw [sound_eq1 (P := P) d f.type hrp hrq he]
          simp only [Result.andThen_ok, Bool.not_true, Bool.false_eq_true, if_false]
          exact ih h
        · rename_i he
          cases h
          rw [sound_eq1 (P := P) d f.type hrp hrq he]
          simp only [Result.andThen_ok, Bool.not_false, if_true, Sem.run_pure]
        · cases h
      · cases h
    · rename_i hn
      rw [if_neg hn]
      exact ih h
theorem sound_binT (ds : List Deferred) (op : BinOp) (t : TypeId) (x y : Operand) {a b : AVal} {r : AVal} {u v : Value} (hu : RV C a u) (hv : RV C b v) (h : abinT P t op a b = some r) :
    ∃ z, (do eqGuard op t x y u v; binOp op t u v : Sem Value).run P C.w = .ok z C.w ∧ RV C r z := by
  have key : ∀ (q : Bool), (eqGuard op t x y u v).run P C.w = .ok () C.w → (Op.equal t u v).run P C.w = .ok q C.w → (∀ op', binOp .eql t u v = (do pure (.bool (← Op.equal t u v))) ∧ binOp .neq t u v = (do pure (.bool (!(← Op.equal t u v)))) ∨ op' = op) →
      (op = .eql ∧ r = .bool q ∨ op = .neq ∧ r = .bool !q) → binOp .eql t u v = (do pure (.bool (← Op.equal t u v))) → binOp .neq t u v = (do pure (.bool (!(← Op.equal t u v)))) →
      ∃ z, (do eqGuard op t x y u v; binOp op t u v : Sem Value).run P C.w = .ok z C.w ∧ RV C r z := by
    intro q hg he _ hor e1 e2
    rcases hor with ⟨rfl, rfl⟩ | ⟨rfl, rfl⟩
    · exact ⟨_, by simp only [Sem.run_bind, hg, Result.andThen_ok, e1, he, Sem.run_pure], .bool _⟩
    · exact ⟨_, by simp only [Sem.run_bind, hg, Result.andThen_ok, e2, he, Sem.run_pure], .bool _⟩
  unfold abinT at h
  split at h
  · exact sound_bin ds op t x y hu hv h
  · exact sound_bin ds op t x y hu hv h
  · have hex : ∃ q, aeq P t a b = some q ∧ (op = .eql ∧ r = .bool q ∨ op = .neq ∧ r = .bool !q) := by
      clear key
      cases op <;> simp only at h <;> try (cases h; done)
      · obtain ⟨q, hq, e⟩ := Option.map_eq_some_iff.1 h
        exact ⟨q, hq, .inl ⟨rfl, e.symm⟩⟩
      · obtain ⟨q, hq, e⟩ := Option.map_eq_some_iff.1 h
        exact ⟨q, hq, .inr ⟨rfl, e.symm⟩⟩
    obtain ⟨q, hq, hor⟩ := hex
    unfold aeq at hq
    split at hq
    · rename_i xs ys
      split at hq
      · rename_i fs hd
        split at hq
        · rename_i hc
          obtain ⟨us, rfl, _⟩ := hu.agg_inv
          obtain ⟨vs, rfl, _⟩ := hv.agg_inv
          have hfs : P.fieldsOf t = fs := by unfold Program.fieldsOf; rw [hd]
          have he : (Op.equal t (.agg us.toArray) (.agg vs.toArray)).run P C.w = .ok q C.w := by
            show (Op.equalIn (9999 + 1) t _ _).run P C.w = _
            rw [run_equalIn_struct C.w 9999 t _ _ (by rw [hfs]; exact hd) hc.1, hfs]
            exact sound_eqFs (P := P) 9998 hu hv _ hq
          exact key q (run_eqGuard_agg C.w op t x y _ _ hc.2) he (fun _ => .inl ⟨rfl, rfl⟩) hor rfl rfl
        · cases hq
      · cases hq
    · obtain rfl := hu.bool_inv
      obtain rfl := hv.bool_inv
      have he : (Op.equal t (.bool _) (.bool _)).run P C.w = .ok q C.w := sound_eq1 (P := P) 9999 t hu hv hq
      exact key q (by unfold eqGuard; cases op <;> rfl) he (fun _ => .inl ⟨rfl, rfl⟩) hor rfl rfl
    · cases hq
theorem nonNil_inv {a : AVal} {u : Value} (hu : RV C a u) (h : nonNil a = true) : ∃ p n c, u = .slice (some p) n c := by
  unfold nonNil at h
  split at h
  · rename_i x r
    cases hu with
    | lst xs A c sz cu hc hz hs h1 hm h =>
      have hsz := hz (by simp)
      have hx := hs x (.head _)
      have hlt : 0 < (flats (x :: r)).length := by simp only [flats, List.flatMap_cons, List.length_append]; omega
      obtain ⟨b, o, e, _⟩ := hm 0 _ (List.getElem?_eq_getElem hlt)
      exact ⟨_, _, _, by rw [e]⟩
  · obtain ⟨c, rfl, _⟩ := hu.sl_inv
    exact ⟨_, _, _, rfl⟩
  · cases h
theorem sound_binZ (ds : List Deferred) {ct : Array Value} (op : BinOp) (t : TypeId) (x y : Operand) {a b : AVal} {r : AVal} {u : Value} (hu : RV C a u) (hv : RV C b (Act.eval ⟨ct, ds⟩ y)) (h : abinZ P t op y a b = some r) :
    ∃ z, (do eqGuard op t x y u (Act.eval ⟨ct, ds⟩ y); binOp op t u (Act.eval ⟨ct, ds⟩ y) : Sem Value).run P C.w = .ok z C.w ∧ RV C r z := by
  unfold abinZ at h
  split at h
  · unfold nilCmp at h
    split at h
    · rename_i hn
      obtain ⟨p, n, c, rfl⟩ := nonNil_inv hu hn
      simp only [Act.eval]
      split at h
      · rename_i e hd
        cases h
        have := Lib.run_eql_slice_nil C.w t e (some p) n c 0 0 hd
        exact ⟨.bool false, by
          have hg : (eqGuard .eql t x (.const (.slice none 0 0)) (.slice (some p) n c) (.slice none 0 0)).run P C.w = .ok () C.w := by unfold eqGuard; rfl
          simp only [Sem.run_bind, hg, Result.andThen_ok, this]; rfl, .bool _⟩
      · rename_i e hd
        cases h
        have he : (Op.equal t (.slice (some p) n c) (.slice none 0 0)).run P C.w = .ok false C.w := by
          simp [Op.equal, Op.maxDepth, Lib.run_equalIn_slice_nil C.w 9999 t e (some p) n c 0 0 hd]
        have e2 : binOp .neq t (.slice (some p) n c) (.slice none 0 0) = (do pure (.bool (!(← Op.equal t (.slice (some p) n c) (.slice none 0 0))))) := rfl
        exact ⟨.bool true, by
          have hg : (eqGuard .neq t x (.const (.slice none 0 0)) (.slice (some p) n c) (.slice none 0 0)).run P C.w = .ok () C.w := by unfold eqGuard; rfl
          simp only [Sem.run_bind, hg, Result.andThen_ok, e2, he, Sem.run_pure]; rfl, .bool _⟩
      · cases h
    · cases h
  · exact sound_binT ds op t x y hu hv h
theorem sound_field (t : TypeId) (f : Nat) {a r : AVal} {u : Value} (hu : RV C a u) (h : afieldv P t a f = some r) : ∃ z, (Instr.field t u f).run P C.w = .ok z C.w ∧ RV C r z := by
  unfold afieldv at h
  cases hd : P.underlying t with
  | none => rw [hd] at h; cases h
  | some d =>
    rw [hd] at h
    cases d <;> (try simp only at h) <;> try (cases h; done)
    cases a <;> (try simp only at h) <;> try (cases h; done)
    rename_i fs cs
    cases hf : fs[f]? with
    | none => rw [hf] at h; cases h
    | some fd =>
      rw [hf] at h
      obtain ⟨vs, rfl, hl, h1, hv⟩ := hu.agg_inv
      obtain ⟨z, hz, hr⟩ := sound_pick (P := P) fd.type hl h1 hv h
      exact ⟨z, by simp [Instr.field, run_underlying hd, hf, asAgg, hz], hr⟩
/-- An element of a list that lies in memory is loaded. -/
theorem sound_load_pel (t : TypeId) {e : AVal} {off : Nat} {r : AVal} {u : Value} (hu : RV C (.pel e off) u) (h : pick P t e.flat off = some r) : ∃ z, (Instr.loadAt t u).run P C.w = .ok z C.w ∧ RV C r z := by
  obtain ⟨b, o, rfl, h1, cu, hm, hr⟩ := hu.pel_inv
  unfold pick at h
  cases hg : isAggT P t with
  | none => rw [hg] at h; cases h
  | some q =>
    rw [hg] at h
    obtain ⟨i, hi⟩ := info_of_agg hg
    cases q with
    | true =>
      simp only at h
      split at h
      · rename_i hle
        injection h with h; subst h
        have hf : ∀ j, j < sizeT P t → C.w.cell? ((⟨b, o + off, none⟩ : Addr).add j) = some (cu (off + j)) := fun j hj => by
          rw [add_at, Nat.add_assoc]
          exact (hm (off + j) _ (List.getElem?_eq_getElem (by omega))).2
        have hrun := run_loadCells (P := P) C.w ⟨b, o + off, none⟩ (sizeT P t) (fun j => cu (off + j)) hf
        refine ⟨.agg ((List.range (sizeT P t)).map fun j => cu (off + j)).toArray, by simp [Instr.loadAt, Instr.sureAddr, loadVar, run_isAggT hg, run_sizeT hi, hrun], ?_⟩
        refine .agg _ _ (by simp; omega) (fun a ha => h1 a (List.mem_of_mem_drop (List.mem_of_mem_take ha))) (fun j a v ha hv => ?_)
        rw [List.getElem?_take] at ha
        split at ha
        · rename_i hj
          rw [List.getElem?_drop] at ha
          rw [List.getElem?_map, List.getElem?_range hj] at hv
          injection hv with hv; subst hv
          exact hr _ _ ha
        · cases ha
      · cases h
    | false =>
      simp only at h
      obtain ⟨_, hc⟩ := hm off _ h
      refine ⟨cu off, ?_, hr off _ h⟩
      simp [Instr.loadAt, Instr.sureAddr, loadVar, run_isAggT hg, run_load, load, hc, Sem.run]
end
end Go.Proofs.YtkpfkadjmijmlaaGreatDoor.M
/- The machine is right, operation by operation (3): structs and slices are built. -/
namespace Go.Proofs.YtkpfkadjmijmlaaGreatDoor.M
open Go.RowKit
set_option linter.unusedVariables false
set_option linter.unusedSimpArgs false

theorem foldl_sets (off : Nat) : ∀ (l : List Value) (n : Nat) (c : Array Value), (l.zipIdx n).foldl (fun cs (p : Value × Nat) => cs.setIfInBounds (off + p.2) p.1) c = setsA c (off + n) l := by
  intro l
  induction l with
  | nil => intro n c; rfl
  | cons v l ih => intro n c; rw [List.zipIdx_cons, List.foldl_cons, ih, setsA]; rfl
theorem fold_sets (off : Nat) (vs c : Array Value) : vs.zipIdx.foldl (fun cs (p : Value × Nat) => cs.setIfInBounds (off + p.2) p.1) c = setsA c off vs.toList := by
  rw [← Array.foldl_toList, Array.toList_zipIdx, foldl_sets]
  rfl
theorem lsets_len (l : List AVal) : ∀ (cs : List AVal) (i : Nat), (lsets cs i l).length = cs.length := by
  induction l with
  | nil => intro c i; rfl
  | cons v l ih => intro c i; rw [lsets, ih, List.length_set]
theorem lsets_get (l : List AVal) : ∀ (c : List AVal) (i j : Nat), (lsets c i l)[j]? = if i ≤ j ∧ j < i + l.length ∧ j < c.length then l[j - i]? else c[j]? := by
  induction l with
  | nil => intro c i j; simp [lsets]; omega
  | cons v l ih =>
    intro c i j
    rw [lsets, ih, List.getElem?_set, List.length_set, List.length_cons]
    by_cases h1 : i + 1 ≤ j ∧ j < i + 1 + l.length ∧ j < c.length
    · rw [if_pos h1, if_pos ⟨by omega, by omega, h1.2.2⟩, show j - i = (j - (i + 1)) + 1 by omega, List.getElem?_cons_succ]
    · rw [if_neg h1]
      by_cases h2 : i = j
      · subst h2
        by_cases h3 : i < c.length
        · rw [if_pos rfl, if_pos h3, if_pos ⟨by omega, by omega, h3⟩]; simp
        · rw [if_pos rfl, if_neg h3, if_neg (by omega), List.getElem?_eq_none (by omega)]
      · rw [if_neg h2, if_neg (by omega)]
section
variable {P : Program} {C : Cx} {B : Nat} {F : Nat → Nat → Prop} {w0 : World} {hp : Heap} {tm : List Cell} {ct : Array Value}

/-- Cells stand for cells. -/
def Rels (C : Cx) (cs : List AVal) (vs : Array Value) : Prop := vs.size = cs.length ∧ ∀ (i : Nat) a, cs[i]? = some a → a.one = true ∧ ∃ u, vs[i]? = some u ∧ RV C a u
/-- A value's own cells. -/
theorem RV.cells {a : AVal} {u : Value} (h : RV C a u) (h1 : a.flat.all AVal.one = true) : Rels C a.flat u.cells := by
  have key : ∀ {a : AVal} {u : Value}, RV C a u → a.one = true → a.flat = [a] → u.cells = #[u] → Rels C a.flat u.cells := by
    intro a u h ho hf hc
    rw [hf, hc]
    refine ⟨rfl, fun i b hb => ?_⟩
    rcases i with _ | i
    · simp at hb; subst hb; exact ⟨ho, u, rfl, h⟩
    · simp at hb
  cases h with
  | agg cs vs hl ho hr =>
    refine ⟨by simpa [Value.cells, AVal.flat] using hl, fun i b hb => ⟨ho b (List.mem_of_getElem? hb), ?_⟩⟩
    have hb' : cs[i]? = some b := hb
    have hlt := (List.getElem?_eq_some_iff.1 hb').1
    exact ⟨vs[i]'(by omega), by simp [Value.cells, List.getElem?_eq_getElem (show i < vs.length by omega)], hr i b _ hb' (List.getElem?_eq_getElem (by omega))⟩
  | tup cs vs hl hr => simp [AVal.flat, AVal.one] at h1
  | bad v => simp [AVal.flat, AVal.one] at h1
  | int k n => exact key (.int k n) rfl rfl rfl
  | bool b => exact key (.bool b) rfl rfl rfl
  | str s => exact key (.str s) rfl rfl rfl
  | lst xs A c sz cu hc hz hs ho hm hr => exact key (.lst xs A c sz cu hc hz hs ho hm hr) rfl rfl rfl
  | ptr id off hid => exact key (.ptr id off hid) rfl rfl rfl
  | pel e off b o cu ho hm hr => exact key (.pel e off b o cu ho hm hr) rfl rfl rfl
  | map id hid => exact key (.map id hid) rfl rfl rfl
  | sl id off len sz c ag hid hc hx => exact key (.sl id off len sz c ag hid hc hx) rfl rfl rfl
  | clo f fs cs fv cv hf hl hr hr' => exact key (.clo f fs cs fv cv hf hl hr hr') rfl rfl rfl
  | nilp => exact key .nilp rfl rfl rfl
  | nilf => exact key .nilf rfl rfl rfl
  | nilm => exact key .nilm rfl rfl rfl
  | nils => exact key .nils rfl rfl rfl
theorem Rels.mk_agg {cs : List AVal} {vs : Array Value} (h : Rels C cs vs) : RV C (.agg cs) (.agg vs) := by
  have := RV.agg (C := C) cs vs.toList (by simpa using h.1) (fun a ha => by
    obtain ⟨i, hi⟩ := List.getElem?_of_mem ha
    exact (h.2 i a hi).1) (fun i a u ha hu => by
    obtain ⟨_, u', hu', hr⟩ := h.2 i a ha
    rw [Array.getElem?_toList] at hu
    rw [hu'] at hu; injection hu with hu; subst hu; exact hr)
  simpa using this
theorem Rels.sets {cs l : List AVal} {vs ws : Array Value} (h : Rels C cs vs) (hl : Rels C l ws) (off : Nat) : Rels C (lsets cs off l) (setsA vs off ws.toList) := by
  refine ⟨by rw [setsA_size, lsets_len]; exact h.1, fun i a ha => ?_⟩
  rw [lsets_get] at ha
  rw [setsA_get]
  have e : ws.toList.length = l.length := by simpa using hl.1
  split at ha
  · rename_i hin
    rw [if_pos (by rw [e, h.1]; exact hin)]
    obtain ⟨h1, u, h2, h3⟩ := hl.2 _ _ ha
    exact ⟨h1, u, by rw [Array.getElem?_toList]; exact h2, h3⟩
  · rename_i hin
    rw [if_neg (by rw [e, h.1]; exact hin)]
    exact h.2 i a ha
theorem fill_sound (place : Nat → Option (Nat × Nat)) : ∀ (ps : List (Nat × AVal)) (qs : List (Nat × Value)) (cs : List AVal) (vs : Array Value) {r : List AVal}, Rels C cs vs → qs.map (·.1) = ps.map (·.1) → (∀ (i : Nat) p q, ps[i]? = some p → qs[i]? = some q → RV C p.2 q.2) → afill place cs ps = some r →
    ∃ ws, Instr.fill place vs qs = some ws ∧ Rels C r ws := by
  intro ps
  induction ps with
  | nil =>
    intro qs cs vs r hr hm _ h
    have : qs = [] := by simpa using hm
    subst this
    injection h with h; subst h
    exact ⟨vs, rfl, hr⟩
  | cons p ps ih =>
    intro qs cs vs r hr hm hrel h
    obtain ⟨i, a⟩ := p
    cases qs with
    | nil => simp at hm
    | cons q qs =>
      obtain ⟨j, u⟩ := q
      simp only [List.map_cons, List.cons.injEq] at hm
      obtain ⟨e, hm⟩ := hm
      subst e
      simp only [afill] at h
      cases hp : place j with
      | none => rw [hp] at h; cases h
      | some on =>
        obtain ⟨off, n⟩ := on
        rw [hp] at h
        simp only at h
        split at h
        · rename_i hc
          have hau : RV C a u := hrel 0 (j, a) (j, u) rfl rfl
          have hcl := hau.cells hc.2.2
          obtain ⟨ws, h1, h2⟩ := ih qs _ _ (hr.sets hcl off) hm (fun i p q hp hq => hrel (i + 1) p q hp hq) h
          refine ⟨ws, ?_, h2⟩
          simp only [Instr.fill, hp]
          rw [if_neg]
          · have := fold_sets off u.cells vs
            rw [← h1]
            congr 1
          · simp only [ne_eq, decide_not, Bool.or_eq_true, Bool.not_eq_eq_eq_not, Bool.not_true, decide_eq_false_iff_not, decide_eq_true_eq, not_or, Decidable.not_not]
            rw [hcl.1, hr.1]
            omega
        · cases h
theorem rels_ofVal {z : Value} {nl : Bool} {cs : List AVal} (h : (if nl then ofValN z else ofVal z) = .agg cs) : Rels C cs z.cells := by
  have h1 : RV C (if nl then ofValN z else ofVal z) z := by split <;> first | exact RV.ofValN z | exact RV.ofVal z
  rw [h] at h1
  have := h1.cells (by
    obtain ⟨vs, _, _, h2, _⟩ := h1.agg_inv
    exact List.all_eq_true.2 fun a ha => h2 a ha)
  exact this
theorem sound_build (nl : Bool) (t : TypeId) (ps : List (Nat × AVal)) (qs : List (Nat × Value)) {r : AVal} (hm : qs.map (·.1) = ps.map (·.1)) (hrel : ∀ (i : Nat) p q, ps[i]? = some p → qs[i]? = some q → RV C p.2 q.2) (h : abuild P nl t ps = some r) :
    ∃ z, (Instr.build t qs.toArray).run P C.w = .ok z C.w ∧ RV C r z := by
  unfold abuild at h
  have key : ∀ cells, P.built t qs = some cells → (Instr.build t qs.toArray).run P C.w = .ok (.agg cells) C.w := fun cells hb => run_build C.w t qs.toArray cells hb
  cases hi : P.info? t with
  | none => rw [hi] at h; cases h
  | some it =>
    rw [hi] at h
    cases hu : P.underlying t with
    | none => rw [hu] at h; cases h
    | some d =>
      rw [hu] at h
      cases d <;> (try simp only at h) <;> try (cases h; done)
      · rename_i n e
        cases hz : it.zero with
        | none => rw [hz] at h; cases h
        | some z =>
          cases hie : P.info? e with
          | none => rw [hz, hie] at h; cases h
          | some ie =>
            rw [hz, hie] at h
            simp only at h
            cases hv : (if nl = true then ofValN z else ofVal z) <;> rw [hv] at h <;> (try simp only at h) <;> try (cases h; done)
            rename_i cs
            obtain ⟨l, hl, rfl⟩ := Option.map_eq_some_iff.1 h
            obtain ⟨ws, h1, h2⟩ := fill_sound _ ps qs cs z.cells (rels_ofVal hv) hm hrel hl
            exact ⟨_, key ws (by simp only [Program.built, hi, hu, hz, hie]; exact h1), h2.mk_agg⟩
      · rename_i fs
        cases hz : it.zero with
        | none => rw [hz] at h; cases h
        | some z =>
          cases hpl : fs.toList.mapM (fun f => (P.info? f.type).map fun i => (f.offset, i.size)) with
          | none => rw [hz, hpl] at h; cases h
          | some places =>
            rw [hz, hpl] at h
            simp only at h
            cases hv : (if nl = true then ofValN z else ofVal z) <;> rw [hv] at h <;> (try simp only at h) <;> try (cases h; done)
            rename_i cs
            obtain ⟨l, hl, rfl⟩ := Option.map_eq_some_iff.1 h
            obtain ⟨ws, h1, h2⟩ := fill_sound _ ps qs cs z.cells (rels_ofVal hv) hm hrel hl
            exact ⟨_, key ws (by simp only [Program.built, hi, hu, hz, hpl]; exact h1), h2.mk_agg⟩
/-- Elements one behind the other: all cells are filled. -/
theorem fill_seq (sz : Nat) : ∀ (qs : List (Nat × Value)) (k : Nat) (c : Array Value), (∀ (i : Nat) q, qs[i]? = some q → q.1 = k + i ∧ q.2.cells.size = sz) → (k + qs.length) * sz ≤ c.size →
    ∃ ws, Instr.fill (fun i => some (i * sz, sz)) c qs = some ws ∧ ws.size = c.size ∧ (∀ p, p < k * sz → ws[p]? = c[p]?) ∧ ∀ (i : Nat) q, qs[i]? = some q → ∀ p, p < sz → ws[(k + i) * sz + p]? = q.2.cells[p]? := by
  intro qs
  induction qs with
  | nil => intro k c _ _; exact ⟨c, rfl, rfl, fun _ _ => rfl, fun i q h => by simp at h⟩
  | cons q qs ih =>
    intro k c hq hk
    obtain ⟨j, u⟩ := q
    obtain ⟨e1, e2⟩ := hq 0 (j, u) rfl
    simp only [Nat.add_zero] at e1 e2
    subst e1
    have hfit : j * sz + sz ≤ c.size := by
      have : (j + 1) * sz ≤ (j + ((j, u) :: qs).length) * sz := Nat.mul_le_mul_right _ (by simp)
      rw [Nat.add_mul, Nat.one_mul] at this
      omega
    obtain ⟨ws, h1, h2, h3, h4⟩ := ih (j + 1) (setsA c (j * sz) u.cells.toList) (fun i q hi => by
      obtain ⟨a, b⟩ := hq (i + 1) q hi
      exact ⟨by omega, b⟩) (by rw [setsA_size]; rw [List.length_cons] at hk; rw [show j + 1 + qs.length = j + (qs.length + 1) by omega]; exact hk)
    refine ⟨ws, ?_, by rw [h2, setsA_size], fun p hp => ?_, fun i q hi p hp => ?_⟩
    · simp only [Instr.fill]
      rw [if_neg]
      · have := fold_sets (j * sz) u.cells c
        rw [← h1]
        congr 1
      · simp only [ne_eq, decide_not, Bool.or_eq_true, Bool.not_eq_eq_eq_not, Bool.not_true, decide_eq_false_iff_not, decide_eq_true_eq, not_or, Decidable.not_not]
        rw [e2]
        omega
    · rw [h3 p (by rw [Nat.add_mul, Nat.one_mul]; omega), setsA_get, if_neg (by omega)]
    · cases i with
      | zero =>
        simp at hi; subst hi
        rw [Nat.add_zero, h3 (j * sz + p) (by rw [Nat.add_mul, Nat.one_mul]; omega), setsA_get, if_pos (by rw [Array.length_toList, e2]; omega), Array.getElem?_toList]
        congr 1
        omega
      | succ i =>
        have := h4 i q hi p hp
        rw [show j + (i + 1) = j + 1 + i by omega]
        exact this
end
end Go.Proofs.YtkpfkadjmijmlaaGreatDoor.M
/- The machine is right, operation by operation (4): memory. -/
namespace Go.Proofs.YtkpfkadjmijmlaaGreatDoor.M
open Go.RowKit
set_option linter.unusedVariables false
set_option linter.unusedSimpArgs false

section
variable {P : Program} {C : Cx} {B : Nat} {F : Nat → Nat → Prop} {w0 : World} {hp : Heap} {tm : List Cell} {ct : Array Value}

theorem done_mk (ds : List Deferred) (dst : Option Tmp) {q : Out} {D : Cx} {n : Next} {u : Value} (hn : n = .value u ∨ (n = .skip ∧ u = undef)) (le : C.Le D) (hx : D.nx = q.nx) (hclr : q.clr = none)
    (hno : dst = none → WRel D B F w0 q.hp tm ct) (hd : ∀ d, dst = some d → WRel D B F w0 q.hp (tm.set d (q.v, q.own)) (ct.setIfInBounds d u)) : Done C B F w0 tm ⟨ct, ds⟩ dst q (.ok n D.w) := by
  refine ⟨D, n, u, rfl, hn, le, hx, ?_, put_defers _ _ _⟩
  cases dst with
  | none => simp only [Out.put, hclr]; exact hno rfl
  | some d => simp only [Out.put, hclr]; exact hd d rfl
theorem seq_fst : ∀ (l : List (Nat × AVal)) (k : Nat), seqParts l k = true → ∀ (i : Nat) p, l[i]? = some p → p.1 = k + i := by
  intro l
  induction l with
  | nil => intro k _ i p h; simp at h
  | cons q l ih =>
    intro k h i p hi
    obtain ⟨j, a⟩ := q
    simp only [seqParts, Bool.and_eq_true, beq_iff_eq] at h
    cases i with
    | zero => simp at hi; subst hi; exact h.1
    | succ i => have := ih (k + 1) h.2 i p hi; omega
theorem flats_at {xs : List AVal} {sz : Nat} (hs : ∀ x, x ∈ xs → x.flat.length = sz) {k : Nat} {e : AVal} (hk : xs[k]? = some e) {j : Nat} (hj : j < sz) : (flats xs)[k * sz + j]? = e.flat[j]? := by
  induction xs generalizing k with
  | nil => simp at hk
  | cons y l ih =>
    have hy := hs y (List.mem_cons_self ..)
    cases k with
    | zero =>
      simp at hk; subst hk
      simp only [flats, List.flatMap_cons, Nat.zero_mul, Nat.zero_add]
      rw [List.getElem?_append_left (by omega)]
    | succ k =>
      simp only [List.getElem?_cons_succ] at hk
      have := ih (fun x hx => hs x (List.mem_cons_of_mem _ hx)) hk
      simp only [flats, List.flatMap_cons]
      rw [List.getElem?_append_right (by rw [hy, Nat.add_mul]; omega), hy, show (k + 1) * sz + j - sz = k * sz + j by rw [Nat.add_mul]; omega]
      exact this
/-- A literal of a slice. -/
theorem sound_buildSlice (h : WRel C B F w0 hp tm ct) (ds : List Deferred) (dst : Option Tmp) (t e : TypeId) (len : Nat) (ps : List (Nat × AVal)) (qs : List (Nat × Value)) (hu : P.underlying t = some (.slice e))
    (hm : qs.map (·.1) = ps.map (·.1)) (hrel : ∀ (i : Nat) p q, ps[i]? = some p → qs[i]? = some q → RV C p.2 q.2) (h1 : seqParts ps 0 = true) (h2 : ps.length = len) (h3 : len * sizeT P e ≤ 2 ^ 24)
    (h4 : ∀ p, p ∈ ps → p.2.flat.length = sizeT P e ∧ p.2.flat.all AVal.one = true) (h5 : 0 < sizeT P e) (hz : zeroT P e = true) (mu ag : Bool) :
    ∃ r, (Instr.buildSlice t len qs.toArray).run P C.w = r ∧ Done C B F w0 tm ⟨ct, ds⟩ dst (if mu then ⟨.sl C.nx 0 len (sizeT P e) ag, false, none, C.nx + 1, (C.nx, .cells (unown (flats (ps.map (·.2))))) :: hp⟩ else ⟨.lst (ps.map (·.2)), true, none, C.nx, hp⟩) (match r with | .ok v w => .ok (.value v) w | .halt x w => .halt x w) := by
  obtain ⟨ie, hie, hsz⟩ := info_of_size h5
  have hql : qs.length = ps.length := by have := congrArg List.length hm; simpa using this
  have hpq : ∀ (i : Nat) q, qs[i]? = some q → ∃ p, ps[i]? = some p ∧ p.1 = q.1 := by
    intro i q hq
    have hlt := (List.getElem?_eq_some_iff.1 hq).1
    refine ⟨ps[i]'(by omega), List.getElem?_eq_getElem (by omega), ?_⟩
    have : (qs.map (·.1))[i]? = (ps.map (·.1))[i]? := by rw [hm]
    rw [List.getElem?_map, List.getElem?_map, hq, List.getElem?_eq_getElem (show i < ps.length by omega)] at this
    simpa using this.symm
  have hcells : ∀ (i : Nat) p q, ps[i]? = some p → qs[i]? = some q → Rels C p.2.flat q.2.cells := fun i p q hp hq => (hrel i p q hp hq).cells (h4 p (List.mem_of_getElem? hp)).2
  obtain ⟨z, hzz⟩ : ∃ z, ie.zero = some z := by
    unfold zeroT at hz
    rw [hie] at hz
    exact Option.isSome_iff_exists.1 hz
  obtain ⟨z0, hz0⟩ : ∃ z0 : Array Value, (len * sizeT P e = 0 ∧ z0 = #[]) ∨ (len * sizeT P e ≠ 0 ∧ z0 = z.cells) := by
    by_cases e0 : len * sizeT P e = 0
    · exact ⟨_, .inl ⟨e0, rfl⟩⟩
    · exact ⟨_, .inr ⟨e0, rfl⟩⟩
  let c0 : Array Value := (Array.range (len * sizeT P e)).map (z0[· % z0.size]!)
  obtain ⟨ws, f1, f2, _, f4⟩ := fill_seq (sizeT P e) qs 0 c0 (fun i q hq => by
    obtain ⟨p, hp, hpe⟩ := hpq i q hq
    refine ⟨by rw [← hpe]; exact seq_fst ps 0 h1 i p hp, ?_⟩
    rw [(hcells i p q hp hq).1]
    exact (h4 p (List.mem_of_getElem? hp)).1) (by simp [c0, hql, h2])
  have hws : ws.size = len * sizeT P e := by rw [f2]; simp [c0]
  have hs : ∀ x, x ∈ ps.map (·.2) → x.flat.length = sizeT P e := fun x hx => by obtain ⟨p, hp, rfl⟩ := List.mem_map.1 hx; exact (h4 p hp).1
  have hrun : (Instr.buildSlice t len qs.toArray).run P C.w = .ok (.slice (some ⟨C.w.heap.size, 0, none⟩) len len) (C.w.alloc (.cells ws e)) := by
    have h3' : ¬ (16777216 < len * sizeT P e) := by omega
    simp only [Instr.buildSlice, Sem.run_bind, run_underlying hu, Result.andThen_ok, run_sizeT hie]
    rw [if_neg (by omega)]
    have f1' : Instr.fill (fun i => some (i * sizeT P e, sizeT P e)) ((Array.range (len * sizeT P e)).map (z0[· % z0.size]!)) qs = some ws := f1
    rcases hz0 with ⟨e0, hz0⟩ | ⟨e0, hz0⟩
    · subst hz0
      rw [if_pos e0]
      simp only [Sem.run_bind, Sem.run_pure, Result.andThen_ok]
      rw [f1']
      simp [newRow]
    · subst hz0
      rw [if_neg e0]
      simp only [Sem.run_bind, zeroValue, typeInfo, run_program, hie, hzz, Sem.run_pure, Result.andThen_ok]
      rw [f1']
      simp [newRow]
  refine ⟨_, rfl, ?_⟩
  rw [hrun]
  have hI := h.heap.imm
  have hlen : (ps.map (·.2)).length = len := by simpa using h2
  have hfl := flats_len hs
  have hv : ∀ (i : Nat) u, (flats (ps.map (·.2)))[i]? = some u → u.one = true ∧ ∃ v, ws[i]? = some v ∧ RV C u v := by
    intro i u hi
    have hlt := (List.getElem?_eq_some_iff.1 hi).1
    rw [hfl, hlen] at hlt
    have hk : i / sizeT P e < len := Nat.div_lt_of_lt_mul (by rw [Nat.mul_comm]; exact hlt)
    have hj : i % sizeT P e < sizeT P e := Nat.mod_lt _ h5
    have ei : i = i / sizeT P e * sizeT P e + i % sizeT P e := by rw [Nat.mul_comm]; exact (Nat.div_add_mod i (sizeT P e)).symm
    have hp := List.getElem?_eq_getElem (l := ps) (i := i / sizeT P e) (by omega)
    have hq := List.getElem?_eq_getElem (l := qs) (i := i / sizeT P e) (by omega)
    have hpm : (ps.map (·.2))[i / sizeT P e]? = some ps[i / sizeT P e].2 := by rw [List.getElem?_map, hp]; rfl
    rw [ei, flats_at hs hpm hj] at hi
    have hr := hcells _ _ _ hp hq
    obtain ⟨r1, v, r2, r3⟩ := hr.2 _ _ hi
    refine ⟨r1, v, ?_, r3⟩
    have := f4 _ _ hq _ hj
    rw [Nat.zero_add, ← ei] at this
    rw [this]; exact r2
  have hone : ∀ u, u ∈ flats (ps.map (·.2)) → u.one = true := fun u hu => by obtain ⟨i, hi⟩ := List.getElem?_of_mem hu; exact (hv i u hi).1
  cases mu with
  | true =>
    have hfl' : (flats (ps.map (·.2))).length = ws.size := by rw [hfl, hlen, hws]
    obtain ⟨hW, _⟩ := h.track (unown (flats (ps.map (·.2)))) ws e (by simp [unown, hfl']) (fun i c hi => by
      simp only [unown, List.getElem?_map] at hi
      obtain ⟨y, hy, rfl⟩ := Option.map_eq_some_iff.1 hi
      obtain ⟨r1, v, r2, r3⟩ := hv i y hy
      exact ⟨r1, v, r2, r3, fun hf => by cases hf⟩)
    have hn : (C.track ws e).ι C.nx = C.w.heap.size := by simp [Cx.track]
    refine done_mk (D := C.track ws e) ds dst (.inl rfl) (h.heap.le (h.heap.grow_track ws e)) rfl rfl (fun _ => hW) (fun d _ => hW.put d ?_)
    have := RV.sl (C := C.track ws e) C.nx 0 len (sizeT P e) len ag (Nat.lt_succ_self _) (Nat.le_refl _) (fun o ho => ⟨ws[o]'(by omega), by
      rw [hn]
      exact (cell_new C.w ws e o).trans (Array.getElem?_eq_getElem (by omega))⟩)
    rw [hn] at this
    exact this
  | false =>
  have hrv := RV.lit (C := C) hI (ps.map (·.2)) (sizeT P e) ws e (fun _ => h5) hs hone (fun i u hi => (hv i u hi).2) len (by omega)
  rw [hlen] at hrv
  have hW := h.grow (grow_lit C ws e hI)
  refine done_mk (D := C.lit ws e) ds dst (.inl rfl) (h.heap.le (grow_lit C ws e hI)) rfl rfl (fun _ => hW) (fun d _ => ?_)
  have hnt : ∀ b o, ¬ Tail (.lst (ps.map (·.2))) (.slice (some ⟨C.w.heap.size, 0, none⟩) len len) b o := fun b o => by
    have := no_tail hs (some ⟨C.w.heap.size, 0, none⟩) b o
    rw [hlen] at this
    exact this
  exact hW.puto d hrv ⟨⟨_, _, _, _, rfl, rfl, fun e0 => by have := congrArg List.length e0; simpa [h2] using this⟩, fun b o ht => absurd ht (hnt b o)⟩ (fun k v' cv' _ _ b o ht => absurd ht (hnt b o))
/-- A new variable. -/
theorem sound_new (h : WRel C B F w0 hp tm ct) (ds : List Deferred) (dst : Option Tmp) (ty : TypeId) (cs : List Cell) (vs : Array Value) (hl : cs.length ≤ vs.size)
    (hc : ∀ (i : Nat) (c : Cell), cs[i]? = some c → c.1.one = true ∧ ∃ v, vs[i]? = some v ∧ RV C c.1 v ∧ Bare c v) :
    Done C B F w0 tm ⟨ct, ds⟩ dst ⟨.ptr C.nx 0, false, none, C.nx + 1, (C.nx, .cells cs) :: hp⟩ (.ok (.value (.pointer (some ⟨C.w.heap.size, 0, none⟩))) (C.w.alloc (.cells vs ty))) := by
  obtain ⟨hW, hr⟩ := h.track cs vs ty hl hc
  exact done_mk (D := C.track vs ty) ds dst (.inl rfl) (h.heap.le (h.heap.grow_track vs ty)) rfl rfl (fun _ => hW) (fun d _ => hW.put d hr)
theorem sound_alloc (h : WRel C B F w0 hp tm ct) (ds : List Deferred) (dst : Option Tmp) (t : TypeId) {z : Value} {i : TypeInfo} (hi : P.info? t = some i) (hz : i.zero = some z) (h1 : (z.cells.toList.map ofCell).all AVal.one = true) :
    ∃ v w, (Instr.alloc t true (.tuple #[])).run P C.w = .ok v w ∧ Done C B F w0 tm ⟨ct, ds⟩ dst ⟨.ptr C.nx 0, false, none, C.nx + 1, (C.nx, .cells (z.cells.toList.map fun c => (ofCell c, isNil c))) :: hp⟩ (.ok (.value v) w) := by
  refine ⟨_, _, by simp [Instr.alloc, zeroValue, typeInfo, hi, hz, newVar, newRow], sound_new h ds dst t _ z.cells (by simp) (fun j c hj => ?_)⟩
  rw [List.getElem?_map, Array.getElem?_toList] at hj
  obtain ⟨u, hu, rfl⟩ := Option.map_eq_some_iff.1 hj
  refine ⟨List.all_eq_true.1 h1 _ (List.mem_map.2 ⟨u, Array.mem_toList_iff.2 (Array.mem_of_getElem? hu), rfl⟩), u, hu, RV.ofCell u, fun hn => ?_⟩
  have := isNil_eq hn
  subst this
  exact ⟨rfl, rfl⟩
theorem sound_box (h : WRel C B F w0 hp tm ct) (ds : List Deferred) (dst : Option Tmp) (t : TypeId) {a : AVal} {u : Value} (hu : RV C a u) (h1 : a.flat.all AVal.one = true) :
    ∃ v w, (Instr.box t u).run P C.w = .ok v w ∧ Done C B F w0 tm ⟨ct, ds⟩ dst (abox a.flat C.nx hp) (.ok (.value v) w) := by
  have hc := hu.cells h1
  refine ⟨_, _, by simp [Instr.box, newVar, newRow], sound_new h ds dst t _ u.cells (by simpa using Nat.le_of_eq hc.1.symm) (fun j c hj => ?_)⟩
  rw [List.getElem?_map] at hj
  obtain ⟨x, hx, rfl⟩ := Option.map_eq_some_iff.1 hj
  obtain ⟨r1, v, r2, r3⟩ := hc.2 j x hx
  exact ⟨r1, v, r2, r3, fun hf => by cases hf⟩
/-- A variable is read. -/
theorem sound_load (h : WRel C B F w0 hp tm ct) (ds : List Deferred) (dst : Option Tmp) (ops : Array Oper) (ro : Md) (t : TypeId) {a : AVal} {u : Value} (hu : RV C a u) {q : Out} (hq : aload P ops ro dst t a C.nx hp = some q) :
    ∃ v, (Instr.loadAt t u).run P C.w = .ok v C.w ∧ Done C B F w0 tm ⟨ct, ds⟩ dst q (.ok (.value v) C.w) := by
  cases a <;> (try simp only [aload] at hq) <;> try (cases hq; done)
  · rename_i id off
    obtain ⟨rfl, hid⟩ := hu.ptr_inv
    cases hg : hget hp id with
    | none => rw [hg] at hq; cases hq
    | some blk =>
      rw [hg] at hq
      cases blk <;> (try simp only at hq) <;> try (cases hq; done)
      rename_i cs
      obtain ⟨vs, ty, hb, hsz, hcs⟩ := h.heap.blk id cs hg
      have hcell : ∀ i, C.w.cell? ⟨C.ι id, i, none⟩ = vs[i]? := fun i => by simp [World.cell?, hb]
      cases hagg : isAggT P t with
      | none => rw [hagg] at hq; cases hq
      | some b =>
        rw [hagg] at hq
        obtain ⟨ti, hti⟩ := info_of_agg hagg
        cases b with
        | true =>
          simp only at hq
          split at hq
          · rename_i hle
            injection hq with hq; subst hq
            have hlv : off + sizeT P t ≤ vs.toList.length := by rw [Array.length_toList]; omega
            have hrun := run_loadCells_list (P := P) C.w ⟨C.ι id, off, none⟩ ((vs.toList.drop off).take (sizeT P t)) (fun j v hj => by
              rw [List.getElem?_take] at hj
              split at hj
              · rw [List.getElem?_drop, Array.getElem?_toList] at hj
                rw [add_at, hcell]; exact hj
              · cases hj)
            have hlen : ((vs.toList.drop off).take (sizeT P t)).length = sizeT P t := by simp; omega
            rw [hlen] at hrun
            refine ⟨.agg ((vs.toList.drop off).take (sizeT P t)).toArray, by simp [Instr.loadAt, Instr.sureAddr, loadVar, run_isAggT hagg, run_sizeT hti, hrun], done_val h ds dst ?_⟩
            refine .agg _ _ (by simp; omega) (fun x hx => ?_) (fun i x v hx hv => ?_)
            · obtain ⟨c, hc, rfl⟩ := List.mem_map.1 hx
              obtain ⟨j, hj⟩ := List.getElem?_of_mem (List.mem_of_mem_drop (List.mem_of_mem_take hc))
              exact (hcs j c hj).1
            · rw [List.getElem?_map, List.getElem?_take] at hx
              rw [List.getElem?_take] at hv
              split at hx
              · rename_i hi
                rw [if_pos hi] at hv
                rw [List.getElem?_drop] at hx hv
                obtain ⟨c, hc, rfl⟩ := Option.map_eq_some_iff.1 hx
                obtain ⟨_, v', h2, h3⟩ := hcs _ c hc
                rw [Array.getElem?_toList, h2] at hv
                injection hv with hv; subst hv; exact h3
              · cases hx
          · cases hq
        | false =>
          simp only at hq
          cases hc : cs[off]? with
          | none => rw [hc] at hq; cases hq
          | some c =>
            rw [hc] at hq
            obtain ⟨x, f⟩ := c
            obtain ⟨_, v, hv, hr⟩ := hcs off _ hc
            have hrun : (Instr.loadAt t (.pointer (some ⟨C.ι id, off, none⟩))).run P C.w = .ok v C.w := by
              simp [Instr.loadAt, Instr.sureAddr, loadVar, run_isAggT hagg, load, Sem.run, hcell, hv]
            refine ⟨v, hrun, ?_⟩
            cases f with
            | false => simp only at hq; injection hq with hq; subst hq; exact done_val h ds dst hr
            | true =>
              simp only at hq
              split at hq
              · rename_i hf
                have hdst : ∃ d, dst = some d := by
                  cases dst with
                  | none => simp [feeds] at hf
                  | some d => exact ⟨d, rfl⟩
                obtain ⟨d, rfl⟩ := hdst
                split at hq
                · rename_i hnl
                  injection hq with hq; subst hq
                  have hx := nilL_eq hnl
                  subst hx
                  refine done_mk ds (some d) (.inl rfl) (Cx.Le.refl C) rfl rfl (fun q => by cases q) (fun d' e => ?_)
                  injection e with e; subst e
                  refine h.puto d hr (h.own (id + 1, off) _ v ⟨cs, vs, ty, hg, hc, hb, hv⟩) (fun k v' cv' _ _ b o ht => ?_)
                  obtain ⟨xs, a, n, c, x, r, h1, _, h3, _⟩ := ht
                  injection h1 with h1
                  rw [← h1] at h3
                  cases h3
                · split at hq
                  · injection hq with hq; subst hq
                    refine done_mk ds (some d) (.inl rfl) (Cx.Le.refl C) rfl rfl (fun q => by cases q) (fun d' e => ?_)
                    injection e with e; subst e
                    exact h.take hg hc (fun vs' ty' hb' => by
                      rw [hb] at hb'; injection hb' with hb'; injection hb' with hb' _; subst hb'; exact hv)
                  · injection hq with hq; subst hq; exact done_val h ds _ hr
              · injection hq with hq; subst hq; exact done_val h ds dst hr
  · rename_i e off
    obtain ⟨r, hr, rfl⟩ := val_some hq
    obtain ⟨z, hz, hrr⟩ := sound_load_pel (P := P) t hu hr
    exact ⟨z, hz, done_val h ds dst hrr⟩
/-- A variable is written. -/
theorem sound_store (h : WRel C B F w0 hp tm ct) (ds : List Deferred) (dst : Option Tmp) (ops : Array Oper) (ro : Md) (t : TypeId) {a : AVal} {u : Value} (hu : RV C a u) (x : Operand) {q : Out} (hq : astore P ops ro t a x (ev tm x) C.nx hp = some q) :
    ∃ w, (Instr.storeAt t u (Act.eval ⟨ct, ds⟩ x)).run P C.w = .ok () w ∧ Done C B F w0 tm ⟨ct, ds⟩ dst q (.ok .skip w) := by
  have hx := h.ev x ds
  generalize hxv : Act.eval ⟨ct, ds⟩ x = xv at hx
  generalize hcx : M.ev tm x = c at hq hx
  cases a <;> (try simp only [astore] at hq) <;> try (cases hq; done)
  rename_i id off
  obtain ⟨rfl, hid⟩ := hu.ptr_inv
  cases hg : hget hp id with
  | none => rw [hg] at hq; cases hq
  | some blk =>
    rw [hg] at hq
    cases blk <;> (try simp only at hq) <;> try (cases hq; done)
    rename_i cs
    have hs : (hget hp id).isSome = true := by rw [hg]; rfl
    obtain ⟨vs, ty, hb, hsz, hcs⟩ := h.heap.blk id cs hg
    split at hq
    · rename_i hcond
      obtain ⟨hro, hz, hl, hoff, h1⟩ := hcond
      obtain ⟨ti, hti, _⟩ := info_of_size hz
      have hc := hx.cells h1
      have hcell : ∀ i, C.w.cell? ⟨C.ι id, i, none⟩ = vs[i]? := fun i => by simp [World.cell?, hb]
      have hrun : (Instr.storeAt t (.pointer (some ⟨C.ι id, off, none⟩)) xv).run P C.w = .ok () (C.stores id off xv.cells.toList).w := by
        have h2 := run_storeCells_cells (P := P) (C.ι id) off xv.cells.toList 0 C.w (fun j hj => by
          rw [Nat.add_zero, hcell, Array.getElem?_eq_getElem (by rw [Array.length_toList, hc.1] at hj; omega)]; rfl) (fun j hj => by simp [World.frozen?, hb]) (fun v hv => by
          obtain ⟨j, hj⟩ := List.getElem?_of_mem hv
          have hjl := (List.getElem?_eq_some_iff.1 hj).1
          rw [Array.length_toList, hc.1] at hjl
          obtain ⟨r1, v', r2, r3⟩ := hc.2 j _ (List.getElem?_eq_getElem hjl)
          rw [Array.getElem?_toList, r2] at hj
          injection hj with hj; subst hj
          exact r3.one_cell r1)
        rw [Nat.add_zero] at h2
        have hsz' : xv.cells.size = sizeT P t := by rw [hc.1, hl]
        simp [Instr.storeAt, Instr.sureAddr, storeVar, run_sizeT hti, hsz', h2, Cx.stores]
      have le := h.heap.le_stores hs off xv.cells.toList
      have hplain : WRel (C.stores id off xv.cells.toList) B F w0 (hset hp id (.cells (setCs cs off (unownS c.1.flat)))) tm ct :=
        h.store hg off (unownS c.1.flat) xv.cells.toList (by simp [unownS, hc.1]) (by simpa [unownS] using hoff) (fun i d hd => by
          simp only [unownS, List.getElem?_map] at hd
          obtain ⟨y, hy, rfl⟩ := Option.map_eq_some_iff.1 hd
          obtain ⟨r1, v, r2, r3⟩ := hc.2 i y hy
          refine ⟨?_, v, by rw [Array.getElem?_toList]; exact r2, ?_⟩
          · cases y <;> first | exact r1 | rfl
          · by_cases hy : y = .nils
            · subst hy
              cases r3
              exact ⟨RV.ofCell (C := C) (.slice none 0 0), fun _ => ⟨rfl, rfl⟩⟩
            · have e : unS y = (y, false) := by cases y <;> first | rfl | exact absurd rfl hy
              rw [e]
              exact ⟨r3, fun hf => by cases hf⟩)
      refine ⟨_, hrun, ?_⟩
      have fin : q = Out.val C.nx (hset hp id (.cells (setCs cs off (unownS c.1.flat)))) (.tup []) → Done C B F w0 tm ⟨ct, ds⟩ dst q (.ok .skip (C.stores id off xv.cells.toList).w) := by
        rintro rfl
        exact done_mk (D := C.stores id off xv.cells.toList) ds dst (u := undef) (.inr ⟨rfl, rfl⟩) le rfl rfl (fun _ => hplain) (fun d _ => hplain.put d (RV.tup [] [] rfl (fun i a v hi => by simp at hi)))
      obtain ⟨y, f⟩ := c
      cases x with
      | global g => injection hq with hq; exact fin hq.symm
      | func g => injection hq with hq; exact fin hq.symm
      | tmp s =>
        cases f with
        | false => injection hq with hq; exact fin hq.symm
        | true =>
          simp only at hq
          split at hq
          · rename_i hmk
            injection hq with hq; subst hq
            have hts : tm[s]? = some (y, true) := by
              simp only [M.ev] at hcx
              cases ht : tm[s]? with
              | none => rw [ht] at hcx; simp at hcx
              | some c => rw [ht] at hcx; simp at hcx; rw [hcx]
            obtain ⟨v, hv, _⟩ := h.tmp s _ hts
            have hev : Act.eval ⟨ct, ds⟩ (.tmp s) = v := by
              have hlt := (Array.getElem?_eq_some_iff.1 hv).1
              have he := (Array.getElem?_eq_some_iff.1 hv).2
              simp [Act.eval, Array.getD, hlt, he]
            rw [hev] at hxv; subst hxv
            have hform := (h.own (0, s) y v ⟨hts, hv⟩).form
            obtain ⟨xs, A, n, cc, e1, e2, _⟩ := hform
            subst e1 e2
            have hW := hplain
            have hcs' : setCs cs off (unownS (AVal.lst xs).flat) = cs.set off (.lst xs, false) := rfl
            rw [hcs'] at hW
            have hoff' : off < cs.length := by simp [AVal.flat] at hoff; omega
            have hget' : hget (hset hp id (.cells (cs.set off (AVal.lst xs, false)))) id = some (.cells (cs.set off (.lst xs, false))) := by rw [hget_hset]; simp [hs]
            have hgive := hW.give (id := id) (off := off) hts hv hget' (by rw [List.getElem?_set_self hoff']) (fun vs' ty' hb' => by
              have : (C.stores id off (Value.slice A n cc).cells.toList).w.heap[C.ι id]? = some (.cells (setsA vs off [Value.slice A n cc]) ty (0, 0)) := setCells_block _ _ _ _ hb
              have hb2 : (C.stores id off (Value.slice A n cc).cells.toList).w.heap[C.ι id]? = some (.cells vs' ty' (0, 0)) := hb'
              rw [this] at hb2; injection hb2 with hb2; injection hb2 with hb2 _; subst hb2
              rw [setsA_get, if_pos ⟨Nat.le_refl _, by simp, by omega⟩]; simp)
            have hss : hset (hset hp id (.cells (cs.set off (AVal.lst xs, false)))) id (.cells ((cs.set off (.lst xs, false)).set off (.lst xs, true))) = hset hp id (.cells (cs.set off (.lst xs, true))) := by
              rw [List.set_set]
              generalize ABlk.cells (cs.set off (AVal.lst xs, false)) = b1
              generalize ABlk.cells (cs.set off (AVal.lst xs, true)) = b2
              clear hget' hW hg hs hplain fin hgive hcs hx hrun le h
              induction hp with
              | nil => rfl
              | cons p hp ih =>
                obtain ⟨i, b⟩ := p
                simp only [hset]
                by_cases e : id = i
                · simp [e, hset]
                · simp [e, hset, ih]
            rw [hss] at hgive
            refine ⟨C.stores id off _, .skip, undef, rfl, .inr ⟨rfl, rfl⟩, le, rfl, ?_, put_defers _ _ _⟩
            cases dst with
            | none => simp only [Out.put, unflag_some hts]; exact hgive
            | some d => simp only [Out.put, unflag_some hts]; exact hgive.put d (RV.tup [] [] rfl (fun i a v hi => by simp at hi))
          · injection hq with hq; exact fin hq.symm
      | const k =>
        by_cases hnil : y = .lst [] ∧ f = true
        · obtain ⟨rfl, rfl⟩ := hnil
          simp only at hq
          injection hq with hq; subst hq
          have hk : k = .slice none 0 0 := by
            simp only [M.ev, Prod.mk.injEq] at hcx
            exact isNil_eq hcx.2
          subst hk
          have hxv' : xv = .slice none 0 0 := hxv.symm
          subst hxv'
          have hW := h.store hg off [(.lst [], true)] [.slice none 0 0] rfl (by simpa [AVal.flat] using hoff) (fun i d hd => by
            rcases i with _ | i
            · simp at hd; subst hd
              exact ⟨rfl, _, rfl, RV.ofCell (C := C) (.slice none 0 0), fun _ => ⟨rfl, rfl⟩⟩
            · simp at hd)
          exact done_mk (D := C.stores id off [.slice none 0 0]) ds dst (u := undef) (.inr ⟨rfl, rfl⟩) le rfl rfl (fun _ => hW) (fun d _ => hW.put d (RV.tup [] [] rfl (fun i a v hi => by simp at hi)))
        · have : some q = some (Out.val C.nx (hset hp id (.cells (setCs cs off (unownS y.flat)))) (.tup [])) := by
            rw [← hq]
            split
            · rename_i e1 e2; cases e1
            · rename_i e1 e2; injection e2 with e2 e3; exact absurd ⟨e2, e3⟩ hnil
            · rfl
          injection this with this
          exact fin this
    · cases hq
end
end Go.Proofs.YtkpfkadjmijmlaaGreatDoor.M
