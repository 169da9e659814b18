/- Words that the walks of this seat share: what is in memory, and how it stays. -/
import Derived.Test.YtleimfinniclgaaDoorProg
import Derived.Below
import Derived.Deep.Draws
import Derived.Deep.AppendLies
import Derived.Maps.AppendAt
import Derived.OwnWalk
import Derived.Laws.BytesArg
import Derived.Laws.MakeOwn
import Derived.Laws.OwnMore
import Derived.Deep.OwnRows
import Derived.Tactics
import Derived.Lib.ConvBytes
import Derived.Laws.Slices
import Derived.WalkKit
import Derived.KernelRfl
import Derived.RowKit3
import Derived.Deep.LoopGhost
import Derived.Deep.QuietTactic
import Derived.BigQuiet
import Derived.WideLaws
import Derived.Deep.DeepCutAuto
import Derived.Deep.CutBlock
import Derived.Deep.RegionHeld3
import Derived.Laws.Rows
import Derived.Lib.AppendStr
import Derived.ArgAppend
import Derived.Laws.IdiomCopy
import Derived.OrdersHeld
import Derived.Laws.BitsLemmas
import Derived.RowKit
import Derived.Lib.Hide
import Derived.WalkSpells
import Derived.Outline
namespace Go.Proofs.YtleimfinniclgaaDoor.X
open Go.RowKit

theorem ret_bool {a b : Bool} (h : a = b) : Ending.returned (.bool a) = .returned (.bool b) := by rw [h]
theorem ret_int {a b : Int} (h : a = b) : Ending.returned (.int .i64 a) = .returned (.int .i64 b) := by rw [h]
/-- Nothing but block g has changed, of what there was. -/
structure But (g : Nat) (w w' : World) : Prop where
  os : w'.os = w.os
  tape : w'.tape = w.tape
  output : w'.output = w.output
  size : w.heap.size ≤ w'.heap.size
  block : ∀ k, k < w.heap.size → k ≠ g → w'.heap[k]? = w.heap[k]?

theorem But.refl (g : Nat) (w : World) : But g w w := ⟨rfl, rfl, rfl, Nat.le_refl _, fun _ _ _ => rfl⟩
theorem But.trans {g : Nat} {a b c : World} (h : But g a b) (k : But g b c) : But g a c :=
  ⟨k.os.trans h.os, k.tape.trans h.tape, k.output.trans h.output, Nat.le_trans h.size k.size, fun i hi hg => (k.block i (Nat.lt_of_lt_of_le hi h.size) hg).trans (h.block i hi hg)⟩
theorem But.drew {g : Nat} {a w : World} (h : But g a w) : But g a w.drew := ⟨h.os, h.tape, h.output, h.size, h.block⟩
theorem But.drewN {g : Nat} {a w : World} (h : But g a w) (n : Nat) : But g a (w.drewN n) := ⟨h.os, h.tape, h.output, h.size, h.block⟩
theorem But.alloc {g : Nat} {a w : World} (h : But g a w) (o : Obj) : But g a (w.alloc o) :=
  h.trans ⟨rfl, rfl, rfl, by simp, fun k hk _ => Below.heap_alloc w o k hk⟩
theorem But.set {g : Nat} {a w : World} (h : But g a w) (j : Nat) (u : Value) : But g a (w.setCell ⟨g, j, none⟩ u) :=
  h.trans ⟨rfl, rfl, rfl, by simp, fun k _ hk => Below.heap_setCell w ⟨g, j, none⟩ u k hk⟩
theorem But.of_below {g : Nat} {w w' : World} (h : Below w.heap.size w w') : But g w w' := ⟨h.os, h.tape, h.output, h.size, fun k hk _ => h.block k hk⟩
theorem But.below {g : Nat} {w w' : World} (h : But g w w') (hg : w.heap.size ≤ g) : Below w.heap.size w w' := ⟨h.os, h.tape, h.output, h.size, fun k hk => h.block k hk (by omega)⟩

/-- A block of cells. -/
def Blk (w : World) (b : Nat) (cs : Array Value) (t : Nat) : Prop := w.heap[b]? = some (.cells cs t (0, 0))
theorem Blk.cell {w : World} {b : Nat} {cs : Array Value} {t : Nat} (h : Blk w b cs t) (i : Nat) : w.cell? ⟨b, i, none⟩ = cs[i]? := by
  unfold Blk at h; simp [World.cell?, h]
theorem Blk.free {w : World} {b : Nat} {cs : Array Value} {t : Nat} (h : Blk w b cs t) (i : Nat) : w.frozen? ⟨b, i, none⟩ = false := by
  unfold Blk at h; simp [World.frozen?, h]
theorem Blk.c0 {w : World} {b : Nat} {u : Value} {l : List Value} {t : Nat} (h : Blk w b (u :: l).toArray t) : w.cell? ⟨b, 0, none⟩ = some u ∧ w.frozen? ⟨b, 0, none⟩ = false := ⟨by rw [h.cell]; simp, h.free 0⟩
theorem Blk.c1 {w : World} {b : Nat} {u v : Value} {l : List Value} {t : Nat} (h : Blk w b (u :: v :: l).toArray t) : w.cell? ⟨b, 1, none⟩ = some v ∧ w.frozen? ⟨b, 1, none⟩ = false := ⟨by rw [h.cell]; simp, h.free 1⟩
theorem Blk.c2 {w : World} {b : Nat} {u v x : Value} {l : List Value} {t : Nat} (h : Blk w b (u :: v :: x :: l).toArray t) : w.cell? ⟨b, 2, none⟩ = some x ∧ w.frozen? ⟨b, 2, none⟩ = false := ⟨by rw [h.cell]; simp, h.free 2⟩
theorem Blk.c3 {w : World} {b : Nat} {u v x y : Value} {l : List Value} {t : Nat} (h : Blk w b (u :: v :: x :: y :: l).toArray t) : w.cell? ⟨b, 3, none⟩ = some y ∧ w.frozen? ⟨b, 3, none⟩ = false := ⟨by rw [h.cell]; simp, h.free 3⟩
theorem Blk.c4 {w : World} {b : Nat} {u v x y z : Value} {l : List Value} {t : Nat} (h : Blk w b (u :: v :: x :: y :: z :: l).toArray t) : w.cell? ⟨b, 4, none⟩ = some z ∧ w.frozen? ⟨b, 4, none⟩ = false := ⟨by rw [h.cell]; simp, h.free 4⟩
theorem Blk.lt {w : World} {b : Nat} {cs : Array Value} {t : Nat} (h : Blk w b cs t) : b < w.heap.size := by
  unfold Blk at h; exact (Array.getElem?_eq_some_iff.1 h).1
theorem Blk.drewN {w : World} {b : Nat} {cs : Array Value} {t : Nat} (h : Blk w b cs t) (n : Nat) : Blk (w.drewN n) b cs t := h
theorem Blk.drew {w : World} {b : Nat} {cs : Array Value} {t : Nat} (h : Blk w b cs t) : Blk w.drew b cs t := h
theorem Blk.alloc {w : World} {b : Nat} {cs : Array Value} {t : Nat} (h : Blk w b cs t) (o : Obj) : Blk (w.alloc o) b cs t := (Below.heap_alloc w o b h.lt).trans h
theorem Blk.below {w w' : World} {b : Nat} {cs : Array Value} {t : Nat} (h : Blk w b cs t) (hb : Below w.heap.size w w') : Blk w' b cs t := (hb.block b h.lt).trans h
theorem Blk.but {w w' : World} {b g : Nat} {cs : Array Value} {t : Nat} (h : Blk w b cs t) (hb : But g w w') (hg : b ≠ g) : Blk w' b cs t := (hb.block b h.lt hg).trans h
theorem Blk.set {w : World} {b : Nat} {cs : Array Value} {t : Nat} (h : Blk w b cs t) (j : Nat) (u : Value) : Blk (w.setCell ⟨b, j, none⟩ u) b (cs.setIfInBounds j u) t := by
  unfold Blk at h ⊢
  simp [World.setCell, Array.getElem?_modify, h]
theorem Blk.far {w : World} {b : Nat} {cs : Array Value} {t : Nat} (h : Blk w b cs t) {p : Addr} (hp : b ≠ p.block) (u : Value) : Blk (w.setCell p u) b cs t := (Below.heap_setCell w p u b hp).trans h
theorem Blk.new (w : World) (cs : Array Value) (t : Nat) : Blk (w.alloc (.cells cs t)) w.heap.size cs t := by
  unfold Blk; simp [World.alloc, -World.alloc_eq]

/-- KINDS: x of a type reads as the cells cs in w; the blocks that these lead to are ok. -/
structure Kn (α : Type) where
  sz : Nat
  V : World → (Nat → Prop) → α → List Value → Prop
  pos : 0 < sz
  len : ∀ {w ok x cs}, V w ok x cs → cs.length = sz
  one : ∀ {w ok x cs}, V w ok x cs → ∀ u ∈ cs, u.oneCell' = true
  mono : ∀ {w ok ok' x cs}, (∀ k, ok k → ok' k) → V w ok x cs → V w ok' x cs
  move : ∀ {w w1 : World} {ok : Nat → Prop} {x cs}, (∀ k, ok k → w1.heap[k]? = w.heap[k]?) → V w ok x cs → V w1 ok x cs
  bound : ∀ {w : World} {ok : Nat → Prop} {x cs}, V w ok x cs → V w (fun k => ok k ∧ k < w.heap.size) x cs

section
variable {α β : Type} {d : Kn α} {w w1 : World} {ok ok' : Nat → Prop} {A : Option Addr} {xs : List α} {cs : List Value} {x : α}

theorem Kn.step (h : d.V w ok x cs) (hm : ∀ k, ok k → k < w.heap.size → w1.heap[k]? = w.heap[k]?) : d.V w1 ok x cs :=
  d.mono (fun _ hk => hk.1) (d.move (fun k hk => hm k hk.1 hk.2) (d.bound h))
theorem Kn.below (h : d.V w ok x cs) (hb : Below w.heap.size w w1) : d.V w1 ok x cs := Kn.step h fun k _ hk => hb.block k hk
theorem Kn.but {g : Nat} (h : d.V w ok x cs) (hb : But g w w1) (hg : ¬ ok g) : d.V w1 ok x cs := Kn.step h fun k ho hk => hb.block k hk (by rintro rfl; exact hg ho)

/-- A row of elements behind A. -/
def Row (d : Kn α) (w : World) (ok : Nat → Prop) (A : Option Addr) (xs : List α) : Prop :=
  xs.length ≤ 140737488355328 ∧ (0 < xs.length → ∃ ad, A = some ad ∧ ok ad.block ∧ ∀ j p, xs[j]? = some p → ∃ cs, d.V w ok p cs ∧ ∀ i u, cs[i]? = some u → w.cell? (ad.add (j * d.sz + i)) = some u)
theorem Row.nil (A : Option Addr) : Row d w ok A [] := ⟨by simp, fun h => absurd h (Nat.lt_irrefl 0)⟩
theorem add_block (a : Addr) (j : Nat) : (a.add j).block = a.block := by unfold Addr.add; split <;> rfl
theorem cell_some_lt {w : World} {a : Addr} {v : Value} (h : w.cell? a = some v) : a.block < w.heap.size := World.block_lt_of_cell? w a h
theorem Row.mono (h : Row d w ok A xs) (ho : ∀ k, ok k → ok' k) : Row d w ok' A xs :=
  ⟨h.1, fun hn => by
    obtain ⟨ad, e, h1, h2⟩ := h.2 hn
    refine ⟨ad, e, ho _ h1, fun j p hj => ?_⟩
    obtain ⟨cs, h3, h4⟩ := h2 j p hj
    exact ⟨cs, d.mono ho h3, h4⟩⟩
theorem Row.move (h : Row d w ok A xs) (hm : ∀ k, ok k → w1.heap[k]? = w.heap[k]?) : Row d w1 ok A xs :=
  ⟨h.1, fun hn => by
    obtain ⟨ad, e, h1, h2⟩ := h.2 hn
    refine ⟨ad, e, h1, fun j p hj => ?_⟩
    obtain ⟨cs, h3, h4⟩ := h2 j p hj
    exact ⟨cs, d.move hm h3, fun i u hu => (World.cell?_of_block (by rw [add_block]; exact hm _ h1)).trans (h4 i u hu)⟩⟩
theorem Row.bound (h : Row d w ok A xs) : Row d w (fun k => ok k ∧ k < w.heap.size) A xs :=
  ⟨h.1, fun hn => by
    obtain ⟨ad, e, h1, h2⟩ := h.2 hn
    have hlt : ad.block < w.heap.size := by
      obtain ⟨cs, h3, h4⟩ := h2 0 _ (List.getElem?_eq_getElem hn)
      have hl := d.len h3
      have := cell_some_lt (h4 0 _ (List.getElem?_eq_getElem (by have := d.pos; omega)))
      rwa [add_block] at this
    refine ⟨ad, e, ⟨h1, hlt⟩, fun j p hj => ?_⟩
    obtain ⟨cs, h3, h4⟩ := h2 j p hj
    exact ⟨cs, d.bound h3, h4⟩⟩
theorem Row.step (h : Row d w ok A xs) (hm : ∀ k, ok k → k < w.heap.size → w1.heap[k]? = w.heap[k]?) : Row d w1 ok A xs :=
  (h.bound.move (fun k hk => hm k hk.1 hk.2)).mono (fun _ hk => hk.1)
theorem Row.below (h : Row d w ok A xs) (hb : Below w.heap.size w w1) : Row d w1 ok A xs := h.step fun k _ hk => hb.block k hk
theorem Row.but {g : Nat} (h : Row d w ok A xs) (hb : But g w w1) (hg : ¬ ok g) : Row d w1 ok A xs := h.step fun k ho hk => hb.block k hk (by rintro rfl; exact hg ho)
theorem Row.drewN (h : Row d w ok A xs) (n : Nat) : Row d (w.drewN n) ok A xs := h.move fun _ _ => rfl
theorem Row.alloc (h : Row d w ok A xs) (o : Obj) : Row d (w.alloc o) ok A xs := h.step fun k _ hk => Below.heap_alloc w o k hk
theorem Row.get (h : Row d w ok A xs) {j : Nat} (hj : j < xs.length) : ∃ ad cs, A = some ad ∧ ok ad.block ∧ d.V w ok xs[j] cs ∧ ∀ i u, cs[i]? = some u → w.cell? (ad.add (j * d.sz + i)) = some u := by
  obtain ⟨ad, e, h1, h2⟩ := h.2 (by omega)
  obtain ⟨cs, h3, h4⟩ := h2 j _ (List.getElem?_eq_getElem hj)
  exact ⟨ad, cs, e, h1, h3, h4⟩
theorem Row.take (h : Row d w ok A xs) (n : Nat) : Row d w ok A (xs.take n) :=
  ⟨by have := h.1; rw [List.length_take]; omega, fun hn => by
    rw [List.length_take] at hn
    obtain ⟨ad, e, h1, h2⟩ := h.2 (by omega)
    refine ⟨ad, e, h1, fun j p hj => ?_⟩
    rw [List.getElem?_take] at hj
    split at hj
    · exact h2 j p hj
    · cases hj⟩

/-- One cell a value. -/
def scal {α : Type} (enc : α → Value) (h1 : ∀ x, (enc x).oneCell' = true) : Kn α where
  sz := 1
  V := fun _ _ x cs => cs = [enc x]
  pos := by decide
  len := fun h => by rw [h]; rfl
  one := fun h u hu => by rw [h] at hu; rw [List.mem_singleton.1 hu]; exact h1 _
  mono := fun _ h => h
  move := fun _ h => h
  bound := fun h => h
def kInt : Kn Int := scal (Value.int .i64) (fun _ => rfl)
def kStr : Kn ByteArray := scal Value.string (fun _ => rfl)
def kBool : Kn Bool := scal Value.bool (fun _ => rfl)
theorem Row.cell_scal {enc : α → Value} {h1 : ∀ x, (enc x).oneCell' = true} (h : Row (scal enc h1) w ok A xs) {j : Nat} (hj : j < xs.length) : ∃ ad, A = some ad ∧ ok ad.block ∧ w.cell? (ad.add j) = some (enc xs[j]) := by
  obtain ⟨ad, cs, e, ho, hv, hc⟩ := h.get hj
  cases hv
  refine ⟨ad, e, ho, ?_⟩
  simpa [scal] using hc 0 _ rfl
/-- A literal of one-cell values. -/
theorem Row.lit_scal {enc : α → Value} {h1 : ∀ x, (enc x).oneCell' = true} {b t : Nat} {c : Array Value} (xs : List α) (hb : Blk w b c t) (hc : c.toList = xs.map enc) (ho : ok b) (hl : xs.length ≤ 140737488355328) : Row (scal enc h1) w ok (some ⟨b, 0, none⟩) xs :=
  ⟨hl, fun _ => ⟨_, rfl, ho, fun j p hj => ⟨_, rfl, fun i u hu => by
    have hi : i = 0 ∧ u = enc p := by
      rcases i with _ | i
      · simpa [eq_comm] using hu
      · simp at hu
    obtain ⟨rfl, rfl⟩ := hi
    have e : ((⟨b, 0, none⟩ : Addr).add (j * (scal enc h1).sz + 0)) = ⟨b, j, none⟩ := by
      simp [scal, Addr.add]
      intro h; exact h.symm
    rw [e, hb.cell, ← Array.getElem?_toList, hc, List.getElem?_map, hj]
    rfl⟩⟩⟩
theorem Row.plain {enc : α → Value} {h1 : ∀ x, (enc x).oneCell' = true} (h : Row (scal enc h1) w ok A xs) (hn : 0 < xs.length) (z : α) : ∃ b off, A = some ⟨b, off, none⟩ ∧ ok b ∧ ∀ j, j < xs.length → w.cell? ⟨b, off + j, none⟩ = some (enc (xs.getD j z)) := by
  obtain ⟨ad, e, ho, h0⟩ := h.cell_scal hn
  obtain ⟨b, off, sp⟩ := ad
  have hs : sp = none := by
    cases sp with
    | none => rfl
    | some q => simp [World.cell?, Addr.add] at h0; split at h0 <;> simp at h0
  subst hs
  refine ⟨b, off, e, ho, fun j hj => ?_⟩
  obtain ⟨ad', e', _, hj'⟩ := h.cell_scal hj
  rw [e] at e'
  injection e' with e'
  subst e'
  have : ((⟨b, off, none⟩ : Addr).add j) = ⟨b, off + j, none⟩ := by unfold Addr.add; split <;> simp_all
  rw [this] at hj'
  rw [hj', List.getD_eq_getElem?_getD, List.getElem?_eq_getElem hj]
  rfl
/-- Element j: where it begins, its cells in the walk's spelling. -/
theorem Row.at_ (h : Row d w ok A xs) {j : Nat} (hj : j < xs.length) : ∃ ad cs, A = some ad ∧ ok ad.block ∧ d.V w ok xs[j] cs ∧ (∀ u, cs[0]? = some u → w.cell? (ad.add (j * d.sz)) = some u) ∧ ∀ i u, cs[i + 1]? = some u → w.cell? ⟨(ad.add (j * d.sz)).block, (ad.add (j * d.sz)).off + (i + 1), none⟩ = some u := by
  obtain ⟨ad, cs, e, ho, hv, hc⟩ := h.get hj
  refine ⟨ad, cs, e, ho, hv, fun u hu => hc 0 u hu, fun i u hu => ?_⟩
  have h1 := hc (i + 1) u hu
  have h2 : ad.add (j * d.sz + (i + 1)) = ⟨(ad.add (j * d.sz)).block, (ad.add (j * d.sz)).off + (i + 1), none⟩ := by
    unfold Addr.add
    rw [if_neg (by omega)]
    split
    · simp
    · simp [Nat.add_assoc]
  rw [h2] at h1
  exact h1
/-- Two in line. -/
def pair {α β : Type} (a : Kn α) (b : Kn β) : Kn (α × β) where
  sz := a.sz + b.sz
  V := fun w ok x cs => ∃ c0 c1, cs = c0 ++ c1 ∧ a.V w ok x.1 c0 ∧ b.V w ok x.2 c1
  pos := by have := a.pos; omega
  len := by rintro w ok x cs ⟨c0, c1, rfl, h0, h1⟩; rw [List.length_append, a.len h0, b.len h1]
  one := by
    rintro w ok x cs ⟨c0, c1, rfl, h0, h1⟩ u hu
    rcases List.mem_append.1 hu with hu | hu
    · exact a.one h0 u hu
    · exact b.one h1 u hu
  mono := by rintro w ok ok' x cs hk ⟨c0, c1, rfl, h0, h1⟩; exact ⟨c0, c1, rfl, a.mono hk h0, b.mono hk h1⟩
  move := by rintro w w1 ok x cs hk ⟨c0, c1, rfl, h0, h1⟩; exact ⟨c0, c1, rfl, a.move hk h0, b.move hk h1⟩
  bound := by rintro w ok x cs ⟨c0, c1, rfl, h0, h1⟩; exact ⟨c0, c1, rfl, a.bound h0, b.bound h1⟩
def iso {α β : Type} (d : Kn α) (f : β → α) : Kn β where
  sz := d.sz
  V := fun w ok x cs => d.V w ok (f x) cs
  pos := d.pos
  len := d.len
  one := d.one
  mono := d.mono
  move := d.move
  bound := d.bound
def slice {α : Type} (d : Kn α) : Kn (List α) where
  sz := 1
  V := fun w ok xs cs => ∃ A c, cs = [.slice A xs.length c] ∧ xs.length ≤ c ∧ Row d w ok A xs
  pos := by decide
  len := by rintro w ok x cs ⟨A, c, rfl, _⟩; rfl
  one := by rintro w ok x cs ⟨A, c, rfl, _⟩ u hu; rw [List.mem_singleton.1 hu]; rfl
  mono := by rintro w ok ok' x cs hk ⟨A, c, rfl, h, r⟩; exact ⟨A, c, rfl, h, r.mono hk⟩
  move := by rintro w w1 ok x cs hk ⟨A, c, rfl, h, r⟩; exact ⟨A, c, rfl, h, r.move hk⟩
  bound := by rintro w ok x cs ⟨A, c, rfl, h, r⟩; exact ⟨A, c, rfl, h, r.bound⟩
end

/-! Rows of the call's own. -/
def Reps {α : Type} (R : α → List Value → Prop) (size : Nat) (ps : List α) (cs : List Value) : Prop :=
  cs.length = ps.length * size ∧ ∀ j p, ps[j]? = some p → R p ((cs.drop (j * size)).take size)
theorem Reps.none {α : Type} (R : α → List Value → Prop) (size : Nat) : Reps R size [] [] := ⟨by simp, fun j p h => by simp at h⟩
theorem Reps.snoc {α : Type} {R : α → List Value → Prop} {size : Nat} {ps : List α} {cs c : List Value} {p : α} (h : Reps R size ps cs) (hp : R p c) (hc : c.length = size) : Reps R size (ps ++ [p]) (cs ++ c) := by
  refine ⟨by rw [List.length_append, h.1, hc, List.length_append, List.length_singleton, Nat.add_mul, Nat.one_mul], fun j q hq => ?_⟩
  rcases Nat.lt_or_ge j ps.length with hj | hj
  · rw [List.getElem?_append_left hj] at hq
    have h1 : j * size + size ≤ cs.length := by rw [h.1, ← Nat.succ_mul]; exact Nat.mul_le_mul_right _ hj
    have h2 := h.2 j q hq
    rw [List.drop_append_of_le_length (by omega), List.take_append_of_le_length (by rw [List.length_drop]; omega)]
    exact h2
  · have hj' : j = ps.length := by
      have := (List.getElem?_eq_some_iff.1 hq).1
      rw [List.length_append, List.length_singleton] at this
      omega
    subst hj'
    have hq' : p = q := by simpa using hq
    subst hq'
    rw [← h.1, List.drop_left, ← hc, List.take_length]
    exact hp
theorem Reps.imp {α : Type} {R R' : α → List Value → Prop} {size : Nat} {ps : List α} {cs : List Value} (h : Reps R size ps cs) (hR : ∀ p c, R p c → R' p c) : Reps R' size ps cs := ⟨h.1, fun j p hj => hR _ _ (h.2 j p hj)⟩
theorem own_base {w : World} {base : Nat} {e : TypeId} {size n : Nat} {v : Value} {xs : List Value} (h : w.ownsRow base e size v n xs) (k : Nat) (hk : v.ownBlock = some k) : base ≤ k := by
  rcases h.2 with ⟨rfl, _⟩ | ⟨g, cap, cur, rfl, hb, _⟩
  · simp [Value.ownBlock] at hk
  · have : g = k := by simpa [Value.ownBlock] using hk
    omega
theorem own_lt {w : World} {base : Nat} {e : TypeId} {size n : Nat} {v : Value} {xs : List Value} (h : w.ownsRow base e size v n xs) (k : Nat) (hk : v.ownBlock = some k) : k < w.heap.size := by
  rcases h.2 with ⟨rfl, _⟩ | ⟨g, cap, cur, rfl, hb, hh, _⟩
  · simp [Value.ownBlock] at hk
  · have : g = k := by simpa [Value.ownBlock] using hk
    subst this
    exact (Array.getElem?_eq_some_iff.1 hh).1
theorem own_move {w w1 : World} {base : Nat} {e : TypeId} {size n : Nat} {v : Value} {xs : List Value} (h : w.ownsRow base e size v n xs) (hm : ∀ k, v.ownBlock = some k → w1.heap[k]? = w.heap[k]?) : w1.ownsRow base e size v n xs := by
  obtain ⟨h1, h2⟩ := h
  refine ⟨h1, ?_⟩
  rcases h2 with h2 | ⟨g, cap, cur, rfl, hg, hh, r⟩
  · exact .inl h2
  · exact .inr ⟨g, cap, cur, rfl, hg, (hm g (by simp [Value.ownBlock])).trans hh, r⟩
/-- v is a row (elements of type e) in a block of its own, from base on. -/
def Own {α : Type} (d : Kn α) (e : Nat) (w : World) (base : Nat) (ok : Nat → Prop) (v : Value) (xs : List α) : Prop :=
  xs.length ≤ 140737488355328 ∧ (∀ k, v.ownBlock = some k → ok k) ∧ ∃ inner, w.ownsRow base e d.sz v xs.length inner ∧ Reps (d.V w (fun k => ok k ∧ some k ≠ v.ownBlock)) d.sz xs inner
section
variable {α : Type} {d : Kn α} {e : Nat} {w w1 : World} {base : Nat} {ok ok' : Nat → Prop} {v : Value} {xs : List α}
theorem Own.nil (w : World) (base : Nat) : Own d e w base ok (.slice none 0 0) [] := ⟨by simp, by simp [Value.ownBlock], [], ⟨by simp, .inl ⟨rfl, rfl⟩⟩, Reps.none _ _⟩
theorem Own.mono (h : Own d e w base ok v xs) (ho : ∀ k, ok k → ok' k) : Own d e w base ok' v xs := by
  obtain ⟨h1, h2, inner, h3, h4⟩ := h
  exact ⟨h1, fun k hk => ho k (h2 k hk), inner, h3, h4.imp fun _ _ hp => d.mono (fun k hk => ⟨ho k hk.1, hk.2⟩) hp⟩
theorem Own.step (h : Own d e w base ok v xs) (hm : ∀ k, ok k → k < w.heap.size → w1.heap[k]? = w.heap[k]?) : Own d e w1 base ok v xs := by
  obtain ⟨h1, h2, inner, h3, h4⟩ := h
  exact ⟨h1, h2, inner, own_move h3 fun k hk => hm k (h2 k hk) (own_lt h3 k hk), h4.imp fun _ _ hp => Kn.step hp fun k hk => hm k hk.1⟩
theorem Own.below (h : Own d e w base ok v xs) (hb : Below w.heap.size w w1) : Own d e w1 base ok v xs := h.step fun k _ hk => hb.block k hk
theorem Own.but {g : Nat} (h : Own d e w base ok v xs) (hb : But g w w1) (hg : ¬ ok g) : Own d e w1 base ok v xs := h.step fun k ho hk => hb.block k hk (by rintro rfl; exact hg ho)
theorem Own.drewN (h : Own d e w base ok v xs) (n : Nat) : Own d e (w.drewN n) base ok v xs := h.step fun _ _ _ => rfl
theorem Own.alloc (h : Own d e w base ok v xs) (o : Obj) : Own d e (w.alloc o) base ok v xs := h.step fun k _ hk => Below.heap_alloc w o k hk
theorem Own.far (h : Own d e w base ok v xs) {p : Addr} (hp : ¬ ok p.block) (u : Value) : Own d e (w.setCell p u) base ok v xs := h.step fun k ho _ => Below.heap_setCell w p u k (by rintro rfl; exact hp ho)
theorem Own.row (h : Own d e w base ok v xs) : ∃ A c, v = .slice A xs.length c ∧ xs.length ≤ c ∧ Row d w ok A xs := by
  obtain ⟨h1, h2, inner, ⟨h5, h6⟩, h4⟩ := h
  rcases h6 with ⟨rfl, hn⟩ | ⟨g, cap, cur, rfl, hg, hh, hnc, hcm, hcs, htk⟩
  · exact ⟨none, 0, by rw [hn], by omega, by omega, fun h => by omega⟩
  · refine ⟨some ⟨g, 0, none⟩, cap, rfl, hnc, h1, fun hn => ⟨_, rfl, h2 g rfl, fun j p hj => ⟨_, d.mono (fun _ hk => hk.1) (h4.2 j p hj), fun i u hu => ?_⟩⟩⟩
    have e1 : ((⟨g, 0, none⟩ : Addr).add (j * d.sz + i)) = ⟨g, j * d.sz + i, none⟩ := by
      unfold Addr.add; split <;> simp_all
    have hi : i < d.sz := by
      have := (List.getElem?_eq_some_iff.1 hu).1
      rw [List.length_take] at this
      omega
    rw [List.getElem?_take, if_pos hi, List.getElem?_drop, ← htk, List.getElem?_take] at hu
    split at hu
    · rw [e1, show w.cell? ⟨g, j * d.sz + i, none⟩ = cur[j * d.sz + i]? by simp [World.cell?, hh], ← Array.getElem?_toList]
      exact hu
    · cases hu
theorem Own.base_le (h : Own d e w base ok v xs) : Own d e w base (fun k => ok k ∧ k < w.heap.size) v xs := by
  obtain ⟨h1, h2, inner, h3, h4⟩ := h
  exact ⟨h1, fun k hk => ⟨h2 k hk, own_lt h3 k hk⟩, inner, h3, h4.imp fun _ _ hp => d.mono (fun k hk => ⟨⟨hk.1.1, hk.2⟩, hk.1.2⟩) (d.bound hp)⟩
end
/-- What an append leaves. -/
theorem own_appended {α : Type} {d : Kn α} {e base : Nat} {ok : Nat → Prop} {W w1 : World} {v v1 : Value} {xs : List α} {p : α} {cs : List Value} {inner : List Value} (hl : xs.length + 1 ≤ 140737488355328) (h0 : ∀ k, v.ownBlock = some k → ok k) (hr : Reps (d.V W (fun k => ok k ∧ some k ≠ v.ownBlock)) d.sz xs inner)
    (hp : d.V W (fun k => ok k ∧ some k ≠ v.ownBlock) p cs) (hfresh : ∀ k, W.heap.size ≤ k → ok k)
    (hown : w1.ownsRow base e d.sz v1 (xs.length + 1) (inner ++ cs)) (hg : W.grownBy w1 v.ownBlock) (hat : v1.ownBlock = v.ownBlock ∨ ∃ b, v1.ownBlock = some b ∧ W.heap.size ≤ b) : Own d e w1 base ok v1 (xs ++ [p]) := by
  have hne : ∀ k, some k ≠ v.ownBlock → k < W.heap.size → some k ≠ v1.ownBlock := by
    intro k hk hlt
    rcases hat with hat | ⟨b, hb, hle⟩
    · rw [hat]; exact hk
    · rw [hb]
      intro he
      injection he with he
      omega
  have step : ∀ {q : α} {c : List Value}, d.V W (fun k => ok k ∧ some k ≠ v.ownBlock) q c → d.V w1 (fun k => ok k ∧ some k ≠ v1.ownBlock) q c := by
    intro q c hq
    have h1 := d.move (w1 := w1) (fun k hk => hg.block k hk.2 hk.1.2) (d.bound hq)
    exact d.mono (fun k hk => ⟨hk.1.1, hne k hk.1.2 hk.2⟩) h1
  refine ⟨by simpa using hl, fun k hk => ?_, inner ++ cs, by rw [List.length_append, List.length_singleton]; exact hown, ?_⟩
  · rcases hat with hat | ⟨b, hb, hle⟩
    · exact h0 k (hat ▸ hk)
    · rw [hb] at hk
      injection hk with hk
      exact hfresh k (by omega)
  · exact (hr.imp fun _ _ hq => step hq).snoc (step hp) (d.len hp)
section
variable {P : Program} {ops : Array Oper} {rest : List Oper} {o : Oper} {a : Act} {Q : Exit → Act → World → Prop} {α : Type}
/-- append(v, x), behind 'at_builtin'; the goal's world is 'W.alloc' of the variadic's box; x's cells are cs. -/
theorem own_append {d : Kn α} {W : World} {base t e : Nat} {s x : Operand} {z : Value} {bytes : Nat} {v : Value} {xs : List α} {ok : Nat → Prop}
    (HO : Own d e W base ok v xs) (p : α) (cs : List Value) (hp : d.V W (fun k => ok k ∧ some k ≠ v.ownBlock) p cs) (hfresh : ∀ k, W.heap.size ≤ k → ok k) (hbase : base ≤ W.heap.size)
    (ht : P.underlying t = some (.slice e)) (hinfo : (P.info? e).map (fun i => (i.zero, i.size, i.bytes)) = some (some z, d.sz, bytes)) (hz : z.cells.size = d.sz) (hb0 : 0 < bytes) (hl : (xs.length + 1) * bytes ≤ 140737488355328)
    (hgd : o.guard = none) (ho : o.op = .call { callee := .builtin .append, args := #[s, x], argTypes := #[t, t] })
    (hs : a.eval s = v) (hx : a.eval x = .slice (some ⟨W.heap.size, 0, none⟩) 1 1)
    (h : ∀ v1 w1, Own d e w1 base ok v1 (xs ++ [p]) → W.grownBy w1 v.ownBlock → (v1.ownBlock = v.ownBlock ∨ ∃ b, v1.ownBlock = some b ∧ W.heap.size ≤ b) → wpList P ops Q rest (a.put o.dst v1) w1) :
    wpList P ops Q (o :: rest) a (W.alloc (.cells cs.toArray e)) := by
  obtain ⟨_, h0, inner, hown, hr⟩ := HO
  obtain ⟨i0, hi, hzz⟩ := Option.map_eq_some_iff.1 hinfo
  simp only [Prod.mk.injEq] at hzz
  obtain ⟨hz0, hz1, hz2⟩ := hzz
  have hlen : xs.length + 1 ≤ 140737488355328 := Nat.le_trans (Nat.le_mul_of_pos_right _ hb0) hl
  refine wpList_append_own_at (W.alloc (.cells cs.toArray e)) hgd s x t ho base e i0 z d.sz bytes ht hi hz0 hz1 hz2 hz d.pos v xs.length inner hs (own_move hown fun k hk => Below.heap_alloc W _ k (own_lt hown k hk)) ⟨W.heap.size, 0, none⟩ 1 1 cs hx (by rw [d.len hp]; simp)
    (by simpa using World.news_of_block (cs := cs.toArray) (t := e) (fr := (0, 0)) (heap_alloc_new W (.cells cs.toArray e))) (d.one hp) (by simp only [maxLen]; omega) hl (by simp; omega) ?_
  intro v1 w1 hown1 hg _ hat
  have hg' := World.grownBy.trans (World.grownBy_alloc W _ _) hg
  have hat' : v1.ownBlock = v.ownBlock ∨ ∃ b, v1.ownBlock = some b ∧ W.heap.size ≤ b := by
    rcases hat with hat | hat
    · exact .inl hat
    · exact .inr ⟨_, hat, by simp⟩
  exact h v1 w1 (own_appended hlen h0 hr hp hfresh hown1 hg' hat') hg' hat'
end

/-- A store into a block that is newer than w0 leaves what was readable at w0. -/
theorem cell_old {w0 w : World} {a : Addr} {v : Value} (h : w0.cell? a = some v) (hB : Below w0.heap.size w0 w) {p : Addr} (hp : w0.heap.size ≤ p.block) (u : Value) : (w.setCell p u).cell? a = some v :=
  ((hB.setCell hp u).cell (cell_some_lt h)).trans h

/-- What Stream is at block g: its list came in by w0; at most m numbers have been drawn. -/
def St (w0 w : World) (g m : Nat) : Prop := w0.heap.size ≤ g ∧ ∃ A c xs, ∃ at_ : Nat, at_ ≤ m ∧ Blk w g #[.slice A xs.length c, .int .i64 at_] 25 ∧ xs.length ≤ c ∧ Row kInt w0 (fun _ => True) A xs
theorem St.more {w0 w : World} {g m m' : Nat} (h : St w0 w g m) (hm : m ≤ m') : St w0 w g m' := by
  obtain ⟨hg, A, c, xs, at_, ha, r⟩ := h
  exact ⟨hg, A, c, xs, at_, by omega, r⟩
theorem St.below {w0 w w' : World} {g m : Nat} (h : St w0 w g m) (hb : Below w.heap.size w w') : St w0 w' g m := by
  obtain ⟨hg, A, c, xs, at_, ha, r, r'⟩ := h
  exact ⟨hg, A, c, xs, at_, ha, r.below hb, r'⟩
theorem St.but {w0 w w' : World} {g b m : Nat} (h : St w0 w g m) (hb : But b w w') (hg : g ≠ b) : St w0 w' g m := by
  obtain ⟨hg, A, c, xs, at_, ha, r, r'⟩ := h
  exact ⟨hg, A, c, xs, at_, ha, r.but hb ‹_›, r'⟩
theorem St.alloc {w0 w : World} {g m : Nat} (h : St w0 w g m) (o : Obj) : St w0 (w.alloc o) g m := h.below ((Below.refl _ _).alloc (Nat.le_refl _) o)
theorem St.keep {w0 w w' : World} {g m : Nat} (h : St w0 w g m) (hB : Below w0.heap.size w0 w) (hk : But g w w') : Below w0.heap.size w0 w' :=
  hB.trans ⟨hk.os, hk.tape, hk.output, hk.size, fun k hk' => hk.block k (Nat.lt_of_lt_of_le hk' hB.size) (by have := h.1; omega)⟩
theorem below_al {w0 w : World} (h : Below w0.heap.size w0 w) (o : Obj) : Below w0.heap.size w0 (w.alloc o) := h.alloc h.size o
theorem St.lt {w0 w : World} {g m : Nat} (h : St w0 w g m) : g < w.heap.size := by
  obtain ⟨hg, A, c, xs, at_, ha, r, r'⟩ := h
  exact r.lt
section
variable {α : Type} {d : Kn α} {e : Nat} {w : World} {base : Nat} {ok : Nat → Prop} {v : Value} {xs : List α}
theorem Own.head (h : Own d e w base ok v xs) (hn : 0 < xs.length) : ∃ b c, v = .slice (some ⟨b, 0, none⟩) xs.length c ∧ base ≤ b ∧ ok b ∧ xs.length ≤ c ∧ b < w.heap.size ∧ (∀ i, w.frozen? ⟨b, i, none⟩ = false) ∧ ∀ i, i < xs.length * d.sz → ∃ u, w.cell? ⟨b, i, none⟩ = some u := by
  obtain ⟨h1, h2, inner, ⟨h5, h6⟩, h4⟩ := h
  rcases h6 with ⟨rfl, hn'⟩ | ⟨g, cap, cur, rfl, hg, hh, hnc, hcm, hcs, htk⟩
  · omega
  · refine ⟨g, cap, rfl, hg, h2 g rfl, hnc, (Array.getElem?_eq_some_iff.1 hh).1, fun i => by simp [World.frozen?, hh], fun i hi => ?_⟩
    have : i < cur.size := by
      rw [hcs]
      exact Nat.lt_of_lt_of_le hi (Nat.mul_le_mul_right _ hnc)
    exact ⟨cur[i], by simp [World.cell?, hh, this]⟩
theorem Own.set {b n c : Nat} (h : Own d e w base ok (.slice (some ⟨b, 0, none⟩) n c) xs) {j i : Nat} (hj : j < xs.length) (hi : i < d.sz) (u : Value) (p : α)
    (hp : ∀ cs, d.V w (fun k => ok k ∧ some k ≠ some b) xs[j] cs → d.V w (fun k => ok k ∧ some k ≠ some b) p (cs.set i u)) : Own d e (w.setCell ⟨b, j * d.sz + i, none⟩ u) base ok (.slice (some ⟨b, 0, none⟩) n c) (xs.set j p) := by
  obtain ⟨h1, h2, inner, ⟨h5, h6⟩, h4⟩ := h
  rcases h6 with ⟨hv, hn⟩ | ⟨g, cap, cur, hv, hg, hh, hnc, hcm, hcs, htk⟩
  · cases hv
  · have e1 : b = g ∧ n = xs.length ∧ c = cap := by simpa using hv
    obtain ⟨rfl, rfl, rfl⟩ := e1
    have hlt : j * d.sz + i < xs.length * d.sz := by
      have : (j + 1) * d.sz ≤ xs.length * d.sz := Nat.mul_le_mul_right _ hj
      rw [Nat.add_mul, Nat.one_mul] at this
      omega
    have hblk : (w.setCell ⟨b, j * d.sz + i, none⟩ u).heap[b]? = some (.cells (cur.setIfInBounds (j * d.sz + i) u) e (0, 0)) := by
      simp [World.setCell, Array.getElem?_modify, hh]
    refine ⟨by simpa using h1, h2, inner.set (j * d.sz + i) u, ⟨by simpa using h5, .inr ⟨b, c, _, by simp, hg, hblk, by simpa using hnc, hcm, by simpa using hcs, ?_⟩⟩, by simpa using h4.1, fun k q hk => ?_⟩
    · rw [List.length_set, Array.toList_setIfInBounds, List.take_set, htk]
    · have far : ∀ {q : α} {l : List Value}, d.V w (fun k => ok k ∧ some k ≠ some b) q l → d.V (w.setCell ⟨b, j * d.sz + i, none⟩ u) (fun k => ok k ∧ some k ≠ some b) q l := fun hq =>
        Kn.step hq fun k hk _ => Below.heap_setCell w _ u k (fun e => hk.2 (by rw [e]))
      rw [List.getElem?_set] at hk
      have hil : inner.length = xs.length * d.sz := h5
      by_cases hkj : j = k
      · subst hkj
        rw [if_pos rfl, if_pos hj] at hk
        have hq : p = q := by simpa using hk
        subst hq
        have h7 := hp _ (h4.2 j _ (List.getElem?_eq_getElem hj))
        have h8 : ((inner.set (j * d.sz + i) u).drop (j * d.sz)).take d.sz = ((inner.drop (j * d.sz)).take d.sz).set i u := by
          rw [List.drop_set, if_neg (by omega), List.take_set]
          congr 1
          omega
        rw [h8]
        exact far h7
      · rw [if_neg hkj] at hk
        have h7 := h4.2 k _ hk
        have h8 : ((inner.set (j * d.sz + i) u).drop (k * d.sz)).take d.sz = (inner.drop (k * d.sz)).take d.sz := by
          apply List.ext_getElem?
          intro m
          rw [List.getElem?_take, List.getElem?_take]
          split
          · rw [List.getElem?_drop, List.getElem?_drop, List.getElem?_set, if_neg]
            intro e
            rcases Nat.lt_or_gt_of_ne hkj with hlt | hgt
            · have : (j + 1) * d.sz ≤ k * d.sz := Nat.mul_le_mul_right _ hlt
              rw [Nat.add_mul, Nat.one_mul] at this
              omega
            · have : (k + 1) * d.sz ≤ j * d.sz := Nat.mul_le_mul_right _ hgt
              rw [Nat.add_mul, Nat.one_mul] at this
              omega
          · rfl
        rw [h8]
        exact far h7
end
theorem Own.at_ {α : Type} {d : Kn α} {e : Nat} {w : World} {base : Nat} {ok : Nat → Prop} {xs : List α} {b n c : Nat} (h : Own d e w base ok (.slice (some ⟨b, 0, none⟩) n c) xs) {i : Nat} (hi : i < xs.length * d.sz) : (∃ u, w.cell? ⟨b, i, none⟩ = some u) ∧ w.frozen? ⟨b, i, none⟩ = false := by
  have hn : 0 < xs.length := by
    rcases Nat.eq_zero_or_pos xs.length with h0 | h0
    · rw [h0, Nat.zero_mul] at hi; omega
    · exact h0
  obtain ⟨b', c', e', _, _, _, _, hf, hc⟩ := h.head hn
  obtain ⟨rfl, rfl, rfl⟩ : b = b' ∧ n = xs.length ∧ c = c' := by simpa using e'
  exact ⟨hc i hi, hf i⟩
theorem Own.set1 {α : Type} {enc : α → Value} {h1 : ∀ x, (enc x).oneCell' = true} {e : Nat} {w : World} {base : Nat} {ok : Nat → Prop} {xs : List α} {b n c : Nat} (h : Own (scal enc h1) e w base ok (.slice (some ⟨b, 0, none⟩) n c) xs) {j : Nat} (hj : j < xs.length) (p : α) : Own (scal enc h1) e (w.setCell ⟨b, j, none⟩ (enc p)) base ok (.slice (some ⟨b, 0, none⟩) n c) (xs.set j p) := by
  have := h.set hj (i := 0) (by simp [scal]) (enc p) p (fun cs hv => by
    have : cs = [enc xs[j]] := hv
    subst this
    rfl)
  simpa [scal] using this
/-- A store into a row that is newer than base. -/
theorem But.setO {g : Nat} {w W : World} (h : But g w W) {p : Addr} (hp : w.heap.size ≤ p.block) (u : Value) : But g w (W.setCell p u) :=
  ⟨h.os, h.tape, h.output, by simpa using h.size, fun k hk hkg => (Below.heap_setCell W p u k (by omega)).trans (h.block k hk hkg)⟩
theorem St.far {w0 w : World} {g m : Nat} (h : St w0 w g m) {p : Addr} (hp : g ≠ p.block) (u : Value) : St w0 (w.setCell p u) g m := by
  obtain ⟨h0, A, c, xs, at_, ha, r, r'⟩ := h
  exact ⟨h0, A, c, xs, at_, ha, r.far hp u, r'⟩
theorem Blk.grown {w w1 : World} {b : Nat} {cs : Array Value} {t : Nat} (h : Blk w b cs t) {row : Option Nat} (hg : w.grownBy w1 row) (hne : some b ≠ row) : Blk w1 b cs t := (hg.block b h.lt hne).trans h
theorem St.grown {w0 w w1 : World} {g m : Nat} (h : St w0 w g m) {row : Option Nat} (hg : w.grownBy w1 row) (hne : some g ≠ row) : St w0 w1 g m := by
  obtain ⟨h0, A, c, xs, at_, ha, r, r'⟩ := h
  exact ⟨h0, A, c, xs, at_, ha, r.grown hg hne, r'⟩
theorem Own.base {α : Type} {d : Kn α} {e : Nat} {w : World} {base : Nat} {ok : Nat → Prop} {v : Value} {xs : List α} (h : Own d e w base ok v xs) (k : Nat) (hk : v.ownBlock = some k) : base ≤ k := by
  obtain ⟨h1, h2, inner, h3, h4⟩ := h
  exact own_base h3 k hk
theorem But.grown {g : Nat} {w W w1 : World} (h : But g w W) {row : Option Nat} (hg : W.grownBy w1 row) (hb : ∀ k, row = some k → w.heap.size ≤ k) : But g w w1 :=
  ⟨hg.os.trans h.os, hg.tape.trans h.tape, hg.output.trans h.output, Nat.le_trans h.size hg.size, fun k hk hkg =>
    (hg.block k (Nat.lt_of_lt_of_le hk h.size) fun e => by have := hb k e.symm; omega).trans (h.block k hk hkg)⟩
theorem ne_own {α : Type} {d : Kn α} {e g : Nat} {w : World} {base : Nat} {v : Value} {xs : List α} (h : Own d e w base (· ≠ g) v xs) : some g ≠ v.ownBlock := fun e => h.2.1 g e.symm rfl
theorem infoInt : (Tryd.prog.info? 3).map (fun i => (i.zero, i.size, i.bytes)) = some (some (.int .i64 0), 1, 8) := by kernel_rfl

/-- Nothing but the blocks of S has changed, of what there was. -/
structure Ch (S : Nat → Prop) (w w' : World) : Prop where
  os : w'.os = w.os
  tape : w'.tape = w.tape
  output : w'.output = w.output
  size : w.heap.size ≤ w'.heap.size
  block : ∀ k, k < w.heap.size → ¬ S k → w'.heap[k]? = w.heap[k]?
theorem Ch.refl (S : Nat → Prop) (w : World) : Ch S w w := ⟨rfl, rfl, rfl, Nat.le_refl _, fun _ _ _ => rfl⟩
theorem Ch.trans' {S S' : Nat → Prop} {a b c : World} (h : Ch S a b) (k : Ch S' b c) (hS : ∀ i, i < a.heap.size → S' i → S i) : Ch S a c :=
  ⟨k.os.trans h.os, k.tape.trans h.tape, k.output.trans h.output, Nat.le_trans h.size k.size, fun i hi hg => (k.block i (Nat.lt_of_lt_of_le hi h.size) (fun e => hg (hS i hi e))).trans (h.block i hi hg)⟩
theorem Ch.trans {S : Nat → Prop} {a b c : World} (h : Ch S a b) (k : Ch S b c) : Ch S a c := h.trans' k fun _ _ e => e
theorem Ch.mono {S S' : Nat → Prop} {a b : World} (h : Ch S a b) (hS : ∀ i, i < a.heap.size → S i → S' i) : Ch S' a b := ⟨h.os, h.tape, h.output, h.size, fun k hk hn => h.block k hk fun e => hn (hS k hk e)⟩
theorem Ch.drewN {S : Nat → Prop} {a w : World} (h : Ch S a w) (n : Nat) : Ch S a (w.drewN n) := ⟨h.os, h.tape, h.output, h.size, h.block⟩
theorem Ch.of_below {S : Nat → Prop} {w w' : World} (h : Below w.heap.size w w') : Ch S w w' := ⟨h.os, h.tape, h.output, h.size, fun k hk _ => h.block k hk⟩
theorem Ch.below {S : Nat → Prop} {w w' : World} (h : Ch S w w') (hS : ∀ k, k < w.heap.size → ¬ S k) : Below w.heap.size w w' := ⟨h.os, h.tape, h.output, h.size, fun k hk => h.block k hk (hS k hk)⟩
theorem Ch.low {S : Nat → Prop} {B : Nat} {w w' : World} (h : Ch S w w') (hB : B ≤ w.heap.size) (hS : ∀ k, k < B → ¬ S k) : Below B w w' := ⟨h.os, h.tape, h.output, h.size, fun k hk => h.block k (Nat.lt_of_lt_of_le hk hB) (hS k hk)⟩
theorem Ch.alloc {S : Nat → Prop} {a w : World} (h : Ch S a w) (o : Obj) : Ch S a (w.alloc o) :=
  h.trans (Ch.of_below ((Below.refl _ _).alloc (Nat.le_refl _) o))
theorem Ch.set {S : Nat → Prop} {a w : World} (h : Ch S a w) {p : Addr} (hp : S p.block ∨ a.heap.size ≤ p.block) (u : Value) : Ch S a (w.setCell p u) :=
  h.trans' (S' := fun k => k = p.block) ⟨rfl, rfl, rfl, by simp, fun k _ hk => Below.heap_setCell w p u k hk⟩ fun i hi e => by
    subst e
    rcases hp with hp | hp
    · exact hp
    · omega
theorem Ch.grown {S : Nat → Prop} {a w w1 : World} (h : Ch S a w) {row : Option Nat} (hg : w.grownBy w1 row) (hr : ∀ k, row = some k → S k ∨ a.heap.size ≤ k) : Ch S a w1 :=
  h.trans' (S' := fun k => row = some k) ⟨hg.os, hg.tape, hg.output, hg.size, fun k hk hn => hg.block k hk fun e => hn e.symm⟩ fun i hi e => by
    rcases hr i e with h | h
    · exact h
    · omega
theorem Ch.of_but {g : Nat} {S : Nat → Prop} {w w' : World} (h : But g w w') (hS : S g) : Ch S w w' := ⟨h.os, h.tape, h.output, h.size, fun k hk hn => h.block k hk fun e => hn (e ▸ hS)⟩
theorem Ch.but {g : Nat} {S : Nat → Prop} {w w' : World} (h : Ch S w w') (hS : ∀ k, k < w.heap.size → S k → k = g) : But g w w' := ⟨h.os, h.tape, h.output, h.size, fun k hk hn => h.block k hk fun e => hn (hS k hk e)⟩
theorem Blk.ch {w w' : World} {b : Nat} {cs : Array Value} {t : Nat} {S : Nat → Prop} (h : Blk w b cs t) (hb : Ch S w w') (hn : ¬ S b) : Blk w' b cs t := (hb.block b h.lt hn).trans h
theorem Row.ch {α : Type} {d : Kn α} {w w1 : World} {ok : Nat → Prop} {A : Option Addr} {xs : List α} {S : Nat → Prop} (h : Row d w ok A xs) (hb : Ch S w w1) (hn : ∀ k, ok k → ¬ S k) : Row d w1 ok A xs := h.step fun k ho hk => hb.block k hk (hn k ho)

/-- A row of numbers in a block of its own, from base on. -/
def NRow (w : World) (base : Nat) (v : Value) (xs : List Nat) : Prop := w.ownsRow base 3 1 v xs.length (xs.map fun n : Nat => Value.int .i64 n)
theorem NRow.nil (w : World) (base : Nat) : NRow w base (.slice none 0 0) [] := ⟨rfl, .inl ⟨rfl, rfl⟩⟩
theorem NRow.lt {w : World} {base : Nat} {v : Value} {xs : List Nat} (h : NRow w base v xs) (k : Nat) (hk : v.ownBlock = some k) : k < w.heap.size := own_lt h k hk
theorem NRow.base {w : World} {base : Nat} {v : Value} {xs : List Nat} (h : NRow w base v xs) (k : Nat) (hk : v.ownBlock = some k) : base ≤ k := own_base h k hk
theorem NRow.move {w w1 : World} {base : Nat} {v : Value} {xs : List Nat} (h : NRow w base v xs) (hm : ∀ k, v.ownBlock = some k → w1.heap[k]? = w.heap[k]?) : NRow w1 base v xs := own_move h hm
theorem NRow.ch {w w1 : World} {base : Nat} {v : Value} {xs : List Nat} {S : Nat → Prop} (h : NRow w base v xs) (hc : Ch S w w1) (hn : ∀ k, v.ownBlock = some k → ¬ S k) : NRow w1 base v xs := h.move fun k hk => hc.block k (h.lt k hk) (hn k hk)
theorem NRow.ne {w : World} {base : Nat} {v : Value} {xs : List Nat} (h : NRow w base v xs) {b : Nat} {cs : Array Value} {t : Nat} (hb : Blk w b cs t) (ht : t ≠ 3) (k : Nat) (hk : v.ownBlock = some k) : k ≠ b := by
  rintro rfl
  rcases h.2 with ⟨rfl, _⟩ | ⟨g, cap, cur, rfl, _, hh, _⟩
  · simp [Value.ownBlock] at hk
  · have : g = k := by simpa [Value.ownBlock] using hk
    subst this
    unfold Blk at hb
    rw [hb] at hh
    injection hh with hh
    injection hh with _ he
    exact ht he
theorem NRow.slice {w : World} {base : Nat} {v : Value} {xs : List Nat} (h : NRow w base v xs) : ∃ A c, v = .slice A xs.length c ∧ xs.length ≤ c := by
  rcases h.2 with ⟨rfl, hn⟩ | ⟨g, cap, cur, rfl, _, _, hc, _⟩
  · exact ⟨none, 0, by rw [hn], by omega⟩
  · exact ⟨_, cap, rfl, hc⟩
def kNat : Kn Nat := scal (fun n : Nat => Value.int .i64 n) (fun _ => rfl)
theorem NRow.row {w : World} {base : Nat} {v : Value} {xs : List Nat} (h : NRow w base v xs) (hl : xs.length ≤ 140737488355328) : ∃ A c, v = .slice A xs.length c ∧ xs.length ≤ c ∧ Row kNat w (fun k => v.ownBlock = some k) A xs := by
  rcases h.2 with ⟨rfl, hn⟩ | ⟨g, cap, cur, rfl, _, hh, hc, _, hcs, htk⟩
  · have : xs = [] := List.eq_nil_of_length_eq_zero hn
    subst this
    exact ⟨none, 0, rfl, by simp, Row.nil _⟩
  · refine ⟨_, cap, rfl, hc, hl, fun hn => ⟨_, rfl, rfl, fun j p hj => ⟨_, rfl, fun i u hu => ?_⟩⟩⟩
    have hi : i = 0 ∧ u = .int .i64 p := by
      rcases i with _ | i
      · simpa [eq_comm] using hu
      · simp at hu
    obtain ⟨rfl, rfl⟩ := hi
    have e1 : ((⟨g, 0, none⟩ : Addr).add (j * kNat.sz + 0)) = ⟨g, j, none⟩ := by
      simp [kNat, scal, Addr.add]
      intro h; exact h.symm
    have hjl : j < xs.length := (List.getElem?_eq_some_iff.1 hj).1
    have hx : cur.toList[j]? = some (.int .i64 p) := by
      have h2 : (cur.toList.take (xs.length * 1))[j]? = some (.int .i64 p) := by rw [htk, List.getElem?_map, hj]; rfl
      rw [List.getElem?_take, if_pos (by omega)] at h2
      exact h2
    rw [e1, show w.cell? ⟨g, j, none⟩ = cur[j]? by simp [World.cell?, hh], ← Array.getElem?_toList]
    exact hx
section
variable {P : Program} {ops : Array Oper} {rest : List Oper} {o : Oper} {a : Act} {Q : Exit → Act → World → Prop}
/-- append(v, ys..), ys a literal of numbers: behind 'at_builtin'; the goal's world is 'W.alloc' of the literal. -/
theorem nrow_append {W : World} {base t m : Nat} {s x : Operand} {v : Value} {xs : List Nat} (HO : NRow W base v xs) (ys : List Nat) (cs : List Value) (hcs : cs = ys.map fun n : Nat => Value.int .i64 n) (hm : ys.length = m) (hbase : base ≤ W.heap.size)
    (ht : P.underlying t = some (.slice 3)) (hinfo : (P.info? 3).map (fun i => (i.zero, i.size, i.bytes)) = some (some (.int .i64 0), 1, 8)) (hl : (xs.length + m) * 8 ≤ 140737488355328)
    (hgd : o.guard = none) (ho : o.op = .call { callee := .builtin .append, args := #[s, x], argTypes := #[t, t] })
    (hs : a.eval s = v) (hx : a.eval x = .slice (some ⟨W.heap.size, 0, none⟩) m m)
    (h : ∀ v1 w1, NRow w1 base v1 (xs ++ ys) → W.grownBy w1 v.ownBlock → (v1.ownBlock = v.ownBlock ∨ ∃ b, v1.ownBlock = some b ∧ W.heap.size ≤ b) → wpList P ops Q rest (a.put o.dst v1) w1) :
    wpList P ops Q (o :: rest) a (W.alloc (.cells cs.toArray 3)) := by
  obtain ⟨i0, hi, hzz⟩ := Option.map_eq_some_iff.1 hinfo
  simp only [Prod.mk.injEq] at hzz
  obtain ⟨hz0, hz1, hz2⟩ := hzz
  subst hcs hm
  refine wpList_append_own_at (W.alloc (.cells (ys.map fun n : Nat => Value.int .i64 n).toArray 3)) hgd s x t ho base 3 i0 (.int .i64 0) 1 8 ht hi hz0 hz1 hz2 rfl (by decide) v xs.length _ hs (own_move HO fun k hk => Below.heap_alloc W _ k (own_lt HO k hk)) ⟨W.heap.size, 0, none⟩ ys.length ys.length (ys.map fun n : Nat => Value.int .i64 n) hx (by simp)
    (by simpa using World.news_of_block (cs := (ys.map fun n : Nat => Value.int .i64 n).toArray) (t := 3) (fr := (0, 0)) (heap_alloc_new W (.cells (ys.map fun n : Nat => Value.int .i64 n).toArray 3))) (by intro u hu; obtain ⟨n, _, rfl⟩ := List.mem_map.1 hu; rfl) (by simp only [maxLen]; omega) hl (by simp; omega) ?_
  intro v1 w1 hown1 hg _ hat
  refine h v1 w1 (by unfold NRow; rw [List.length_append, List.map_append]; exact hown1) (World.grownBy.trans (World.grownBy_alloc W _ _) hg) ?_
  rcases hat with hat | hat
  · exact .inl hat
  · exact .inr ⟨_, hat, by simp⟩
end

/-- A whole struct is stored. -/
def setsW (w : World) (b : Nat) : Nat → List Value → World
  | _, [] => w
  | i, v :: l => setsW (w.setCell ⟨b, i, none⟩ v) b (i + 1) l
def setsA (c : Array Value) : Nat → List Value → Array Value
  | _, [] => c
  | i, v :: l => setsA (c.setIfInBounds i v) (i + 1) l
theorem setsA_get (l : List Value) : ∀ (c : Array Value) (i j : Nat), (setsA c i l)[j]? = if i ≤ j ∧ j < i + l.length ∧ j < c.size then l[j - i]? else c[j]? := by
  induction l with
  | nil => intro c i j; simp [setsA]; omega
  | cons v l ih =>
    intro c i j
    rw [setsA, ih, Array.getElem?_setIfInBounds, Array.size_setIfInBounds, List.length_cons]
    by_cases h1 : i + 1 ≤ j ∧ j < i + 1 + l.length ∧ j < c.size
    · rw [if_pos h1, if_pos ⟨by omega, by omega, h1.2.2⟩, show j - i = (j - (i + 1)) + 1 by omega, List.getElem?_cons_succ]
    · rw [if_neg h1]
      by_cases h2 : i = j
      · subst h2
        by_cases h3 : i < c.size
        · rw [if_pos rfl, if_pos h3, if_pos ⟨by omega, by omega, h3⟩]; simp
        · rw [if_pos rfl, if_neg h3, if_neg (by omega), Array.getElem?_eq_none (by omega)]
      · rw [if_neg h2, if_neg (by omega)]
theorem Blk.setsW {b t : Nat} (l : List Value) : ∀ {w : World} {c : Array Value} (i : Nat), Blk w b c t → Blk (setsW w b i l) b (setsA c i l) t := by
  induction l with
  | nil => intro w c i h; exact h
  | cons v l ih => intro w c i h; exact ih (i + 1) (h.set i v)
theorem Blk.stored {w : World} {b t : Nat} {c : Array Value} (h : Blk w b c t) (l : List Value) (hl : c.size = l.length) : Blk (X.setsW w b 0 l) b l.toArray t := by
  have h1 := Blk.setsW l 0 h
  have e : setsA c 0 l = l.toArray := by
    apply Array.ext_getElem?
    intro j
    rw [setsA_get]
    split
    · simp
    · rw [Array.getElem?_eq_none (by omega), Array.getElem?_eq_none (by simp; omega)]
  rw [e] at h1
  exact h1
theorem Ch.setsW {S : Nat → Prop} {b : Nat} (l : List Value) : ∀ {a w : World} (i : Nat), Ch S a w → (S b ∨ a.heap.size ≤ b) → Ch S a (setsW w b i l) := by
  induction l with
  | nil => intro a w i h _; exact h
  | cons v l ih => intro a w i h hb; exact ih (i + 1) (h.set (p := ⟨b, i, none⟩) hb v) hb
end Go.Proofs.YtleimfinniclgaaDoor.X
