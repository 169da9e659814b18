/- An abstract machine: values without addresses, what they stand for in memory. -/
import Derived.Below
import Derived.Laws.Cells
import Derived.Laws.IdiomCopy
namespace Go.Proofs.YtleimfinniclgaaDoor.M
open Go.RowKit
set_option linter.unusedVariables false
set_option linter.unusedSimpArgs false

/-- Values: a list stands for a slice whose cells stay; ptr is a variable's address; pel an element's of a list; sl a slice of an array that may change; nils a nil slice that is known to be one (in what is stored next alone). -/
inductive AVal where
  | int (k : IntKind) (n : Int)
  | bool (b : Bool)
  | str (s : ByteArray)
  | agg (cs : List AVal)
  | lst (xs : List AVal)
  | tup (vs : List AVal)
  | ptr (id off : Nat)
  | pel (e : AVal) (off : Nat)
  | map (id : Nat)
  | sl (id off len sz : Nat) (ag : Bool)
  | clo (f : FuncId) (fs cs : List AVal)
  | nilp | nilf | nilm | nils | bad
  deriving Inhabited

def AVal.one : AVal → Bool
  | .agg _ | .tup _ | .bad => false
  | _ => true
def AVal.flat : AVal → List AVal
  | .agg cs => cs
  | v => [v]
def flats (xs : List AVal) : List AVal := xs.flatMap AVal.flat
abbrev Cell := AVal × Bool
inductive ABlk where
  | cells (cs : List Cell)
  | map (es : List (AVal × AVal))
  deriving Inhabited
abbrev Heap := List (Nat × ABlk)
def hget : Heap → Nat → Option ABlk
  | [], _ => none
  | (i, b) :: h, id => if id = i then some b else hget h id
def hset : Heap → Nat → ABlk → Heap
  | [], _, _ => []
  | (i, b) :: h, id, v => if id = i then (i, v) :: h else (i, b) :: hset h id v

def hdel (h : Heap) (id : Nat) : Heap := h.filter fun p => p.1 != id
def hlow (n : Nat) (h : Heap) : Heap := h.filter fun p => decide (p.1 < n)

structure Cx where
  ι : Nat → Nat
  I : Nat → Nat → Prop
  nx : Nat
  w : World

/-- v stands for cv. -/
inductive RV (C : Cx) : AVal → Value → Prop where
  | int (k : IntKind) (n : Int) : RV C (.int k n) (.int k n)
  | bool (b : Bool) : RV C (.bool b) (.bool b)
  | str (s : ByteArray) : RV C (.str s) (.string s)
  | agg (cs : List AVal) (vs : List Value) (hl : vs.length = cs.length) (h1 : ∀ a, a ∈ cs → a.one = true) (h : ∀ (i : Nat) a v, cs[i]? = some a → vs[i]? = some v → RV C a v) : RV C (.agg cs) (.agg vs.toArray)
  | lst (xs : List AVal) (A : Option Addr) (c sz : Nat) (cu : Nat → Value) (hc : xs.length ≤ c) (hz : xs ≠ [] → 0 < sz) (hs : ∀ x, x ∈ xs → x.flat.length = sz) (h1 : ∀ u, u ∈ flats xs → u.one = true)
      (hm : ∀ (i : Nat) u, (flats xs)[i]? = some u → ∃ b o, A = some ⟨b, o, none⟩ ∧ C.I b (o + i) ∧ C.w.cell? ⟨b, o + i, none⟩ = some (cu i)) (h : ∀ (i : Nat) u, (flats xs)[i]? = some u → RV C u (cu i)) : RV C (.lst xs) (.slice A xs.length c)
  | tup (cs : List AVal) (vs : List Value) (hl : vs.length = cs.length) (h : ∀ (i : Nat) a v, cs[i]? = some a → vs[i]? = some v → RV C a v) : RV C (.tup cs) (.tuple vs.toArray)
  | ptr (id off : Nat) (h : id < C.nx) : RV C (.ptr id off) (.pointer (some ⟨C.ι id, off, none⟩))
  | pel (e : AVal) (off b o : Nat) (cu : Nat → Value) (h1 : ∀ u, u ∈ e.flat → u.one = true) (hm : ∀ (i : Nat) u, e.flat[i]? = some u → C.I b (o + i) ∧ C.w.cell? ⟨b, o + i, none⟩ = some (cu i)) (h : ∀ (i : Nat) u, e.flat[i]? = some u → RV C u (cu i)) :
      RV C (.pel e off) (.pointer (some ⟨b, o + off, none⟩))
  | map (id : Nat) (h : id < C.nx) : RV C (.map id) (.map (some (C.ι id)))
  | sl (id off len sz c : Nat) (ag : Bool) (h : id < C.nx) (hc : len ≤ c) (hx : ∀ o, o < off + c * sz → ∃ u, C.w.cell? ⟨C.ι id, o, none⟩ = some u) : RV C (.sl id off len sz ag) (.slice (some ⟨C.ι id, off, none⟩) len c)
  | clo (f : FuncId) (fs cs : List AVal) (fv cv : List Value) (hf : fv.length = fs.length) (hl : cv.length = cs.length) (h : ∀ (i : Nat) a v, fs[i]? = some a → fv[i]? = some v → RV C a v) (h' : ∀ (i : Nat) a v, cs[i]? = some a → cv[i]? = some v → RV C a v) :
      RV C (.clo f fs cs) (.func (.func f) fv.toArray cv.toArray)
  | nilp : RV C .nilp (.pointer none)
  | nilf : RV C .nilf .nilFunc
  | nilm : RV C .nilm (.map none)
  | nils : RV C .nils (.slice none 0 0)
  | bad (v : Value) : RV C .bad v

structure Cx.Le (C D : Cx) : Prop where
  nx : C.nx ≤ D.nx
  map : ∀ i, i < C.nx → D.ι i = C.ι i
  imm : ∀ b o, C.I b o → D.I b o
  cell : ∀ b o, C.I b o → D.w.cell? ⟨b, o, none⟩ = C.w.cell? ⟨b, o, none⟩
  ex : ∀ b o u, C.w.cell? ⟨b, o, none⟩ = some u → ∃ u', D.w.cell? ⟨b, o, none⟩ = some u'
theorem Cx.Le.refl (C : Cx) : C.Le C := ⟨Nat.le_refl _, fun _ _ => rfl, fun _ _ h => h, fun _ _ _ => rfl, fun _ _ u h => ⟨u, h⟩⟩
theorem Cx.Le.trans {A B C : Cx} (h : A.Le B) (k : B.Le C) : A.Le C :=
  ⟨Nat.le_trans h.nx k.nx, fun i hi => (k.map i (Nat.lt_of_lt_of_le hi h.nx)).trans (h.map i hi), fun b o hb => k.imm b o (h.imm b o hb), fun b o hb => (k.cell b o (h.imm b o hb)).trans (h.cell b o hb), fun b o u hu => let ⟨u', hu'⟩ := h.ex b o u hu; k.ex b o u' hu'⟩

theorem RV.mono {C D : Cx} (hle : C.Le D) {v : AVal} {cv : Value} (h : RV C v cv) : RV D v cv := by
  induction h with
  | int k n => exact .int k n
  | bool b => exact .bool b
  | str s => exact .str s
  | agg cs vs hl h1 h ih => exact .agg cs vs hl h1 ih
  | lst xs A c sz cu hc hz hs h1 hm h ih =>
    refine .lst xs A c sz cu hc hz hs h1 (fun i u hu => ?_) ih
    obtain ⟨b, o, e, hi, hcell⟩ := hm i u hu
    exact ⟨b, o, e, hle.imm _ _ hi, (hle.cell _ _ hi).trans hcell⟩
  | tup cs vs hl h ih => exact .tup cs vs hl ih
  | ptr id off hid => rw [← hle.map id hid]; exact .ptr id off (Nat.lt_of_lt_of_le hid hle.nx)
  | pel e off b o cu h1 hm h ih =>
    refine .pel e off b o cu h1 (fun i u hu => ?_) ih
    obtain ⟨hi, hcell⟩ := hm i u hu
    exact ⟨hle.imm _ _ hi, (hle.cell _ _ hi).trans hcell⟩
  | map id hid => rw [← hle.map id hid]; exact .map id (Nat.lt_of_lt_of_le hid hle.nx)
  | sl id off len sz c ag hid hc hx =>
    rw [← hle.map id hid]
    refine .sl id off len sz c ag (Nat.lt_of_lt_of_le hid hle.nx) hc fun o ho => ?_
    obtain ⟨u, hu⟩ := hx o ho
    rw [hle.map id hid]
    exact hle.ex _ _ u hu
  | clo f fs cs fv cv hf hl h h' ih ih' => exact .clo f fs cs fv cv hf hl ih ih'
  | nilp => exact .nilp
  | nilf => exact .nilf
  | nilm => exact .nilm
  | nils => exact .nils
  | bad v => exact .bad v

def AVal.nilL : AVal → Bool
  | .lst [] => true
  | _ => false
theorem nilL_eq {v : AVal} (h : v.nilL = true) : v = .lst [] := by
  unfold AVal.nilL at h
  split at h
  · rfl
  · cases h
/-- The free room behind a list. -/
def Tail (v : AVal) (cv : Value) (b o : Nat) : Prop := ∃ xs a n c x r, v = .lst xs ∧ cv = .slice (some a) n c ∧ xs = x :: r ∧ b = a.block ∧ a.off + (flats xs).length ≤ o ∧ o < a.off + c * x.flat.length

structure St where
  tm : List Cell
  nx : Nat
  hp : Heap

/-- What is owned: a variable's list with the room behind it. -/
def Owned (C : Cx) (hp : Heap) (tm : List Cell) (ct : Array Value) : Nat × Nat → AVal → Value → Prop
  | (0, t), v, cv => tm[t]? = some (v, true) ∧ ct[t]? = some cv
  | (id + 1, i), v, cv => ∃ cs vs ty, hget hp id = some (.cells cs) ∧ cs[i]? = some (v, true) ∧ C.w.heap[C.ι id]? = some (.cells vs ty (0, 0)) ∧ vs[i]? = some cv

structure OwnOk (C : Cx) (B : Nat) (F : Nat → Nat → Prop) (hp : Heap) (v : AVal) (cv : Value) : Prop where
  form : ∃ xs A n c, v = .lst xs ∧ cv = .slice A n c ∧ (xs = [] → c = 0)
  cells : ∀ b o, Tail v cv b o → B ≤ b ∧ ¬ C.I b o ∧ ¬ F b o ∧ (∀ id, (hget hp id).isSome = true → b ≠ C.ι id) ∧ (∃ u, C.w.cell? ⟨b, o, none⟩ = some u) ∧ C.w.frozen? ⟨b, o, none⟩ = false

/-- A map's entries, in the order in which they came. -/
def MapRel (C : Cx) (id : Nat) (es : List (AVal × AVal)) : Prop := ∃ (ents : Array MapEntry) (clk : Nat), C.w.heap[C.ι id]? = some (.map ents clk) ∧ ents.size = es.length ∧ ∀ (i : Nat) (p : AVal × AVal), es[i]? = some p → ∃ x, ents[i]? = some x ∧ RV C p.1 x.key ∧ RV C p.2 x.val
theorem MapRel.mono {C D : Cx} {id : Nat} {es : List (AVal × AVal)} (h : MapRel C id es) (le : C.Le D) (e : D.w.heap[D.ι id]? = C.w.heap[C.ι id]?) : MapRel D id es := by
  obtain ⟨ents, clk, h1, h2, h3⟩ := h
  refine ⟨ents, clk, e.trans h1, h2, fun i p hp => ?_⟩
  obtain ⟨x, q1, q2, q3⟩ := h3 i p hp
  exact ⟨x, q1, q2.mono le, q3.mono le⟩
structure HOk (C : Cx) (B : Nat) (F : Nat → Nat → Prop) (w0 : World) (hp : Heap) : Prop where
  below : Below B w0 C.w
  base : B ≤ w0.heap.size
  ids : ∀ id, (hget hp id).isSome = true → id < C.nx
  blk : ∀ id cs, hget hp id = some (.cells cs) → ∃ vs ty, C.w.heap[C.ι id]? = some (.cells vs ty (0, 0)) ∧ cs.length ≤ vs.size ∧ ∀ (i : Nat) (c : Cell), cs[i]? = some c → c.1.one = true ∧ ∃ v, vs[i]? = some v ∧ RV C c.1 v
  inj : ∀ i j, (hget hp i).isSome = true → (hget hp j).isSome = true → C.ι i = C.ι j → i = j
  out : ∀ i, (hget hp i).isSome = true → B ≤ C.ι i ∧ C.ι i < C.w.heap.size ∧ ∀ o, ¬ C.I (C.ι i) o ∧ ¬ F (C.ι i) o
  imm : ∀ b o, C.I b o → ∃ u, C.w.cell? ⟨b, o, none⟩ = some u
  far : ∀ b o, F b o → (∃ u, C.w.cell? ⟨b, o, none⟩ = some u) ∧ C.w.frozen? ⟨b, o, none⟩ = false ∧ ¬ C.I b o
  mapb : ∀ id es, hget hp id = some (.map es) → MapRel C id es

structure WRel (C : Cx) (B : Nat) (F : Nat → Nat → Prop) (w0 : World) (hp : Heap) (tm : List Cell) (ct : Array Value) : Prop where
  heap : HOk C B F w0 hp
  size : ct.size = tm.length
  tmp : ∀ (t : Nat) (c : Cell), tm[t]? = some c → ∃ v, ct[t]? = some v ∧ RV C c.1 v
  own : ∀ k v cv, Owned C hp tm ct k v cv → OwnOk C B F hp v cv
  sep : ∀ k1 k2 v1 c1 v2 c2, Owned C hp tm ct k1 v1 c1 → Owned C hp tm ct k2 v2 c2 → k1 ≠ k2 → ∀ b o, Tail v1 c1 b o → ¬ Tail v2 c2 b o

/-- The slots change: what is owned was owned, under another key perhaps. -/
theorem WRel.slots {C : Cx} {B : Nat} {F : Nat → Nat → Prop} {w0 : World} {hp : Heap} {tm tm' : List Cell} {ct ct' : Array Value} (h : WRel C B F w0 hp tm ct) (hs : ct'.size = tm'.length)
    (ht : ∀ (t : Nat) (c : Cell), tm'[t]? = some c → ∃ v, ct'[t]? = some v ∧ RV C c.1 v) (g : Nat → Nat) (hg : ∀ t v cv, tm'[t]? = some (v, true) → ct'[t]? = some cv → tm[g t]? = some (v, true) ∧ ct[g t]? = some cv)
    (hi : ∀ t t' v v' , tm'[t]? = some (v, true) → tm'[t']? = some (v', true) → g t = g t' → t = t') : WRel C B F w0 hp tm' ct' := by
  have key : ∀ k v cv, Owned C hp tm' ct' k v cv → Owned C hp tm ct (match k with | (0, t) => (0, g t) | k => k) v cv := by
    intro k v cv ho
    obtain ⟨i, t⟩ := k
    cases i with
    | zero => exact hg t v cv ho.1 ho.2
    | succ i => exact ho
  refine ⟨h.heap, hs, ht, fun k v cv ho => h.own _ v cv (key k v cv ho), fun k1 k2 v1 c1 v2 c2 h1 h2 hne => h.sep _ _ v1 c1 v2 c2 (key _ _ _ h1) (key _ _ _ h2) ?_⟩
  obtain ⟨i, t⟩ := k1
  obtain ⟨i', t'⟩ := k2
  intro e
  apply hne
  cases i with
  | zero =>
    cases i' with
    | zero =>
      have e' : g t = g t' := by simpa using e
      rw [hi t t' v1 v2 h1.1 h2.1 e']
    | succ i' => simp at e
  | succ i =>
    cases i' with
    | zero => simp at e
    | succ i' => exact e
end Go.Proofs.YtleimfinniclgaaDoor.M
