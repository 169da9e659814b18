/- The machine's state and the world: new blocks, stores. -/
import Derived.Test.YtleimfinniclgaaDoorMA
namespace Go.Proofs.YtleimfinniclgaaDoor.M
open Go.RowKit
set_option linter.unusedVariables false
set_option linter.unusedSimpArgs false

theorem cell_lt {w : World} {b o : Nat} {u : Value} (h : w.cell? ⟨b, o, none⟩ = some u) : b < w.heap.size := World.block_lt_of_cell? w _ h
theorem hget_hset (h : Heap) (id : Nat) (v : ABlk) (j : Nat) : hget (hset h id v) j = if j = id then (if (hget h id).isSome = true then some v else none) else hget h j := by
  induction h with
  | nil => simp [hset, hget]
  | cons p h ih =>
    obtain ⟨i, b⟩ := p
    by_cases e : id = i
    · subst e
      by_cases ej : j = id
      · subst ej; simp [hset, hget]
      · simp [hset, hget, ej]
    · by_cases ej : j = i
      · subst ej
        simp [hset, hget, e]
        intro h'; exact absurd h'.symm e
      · simp only [hset, hget, if_neg e, if_neg ej]
        rw [ih]

section
variable {C D : Cx} {B : Nat} {F : Nat → Nat → Prop} {w0 : World} {hp : Heap} {tm : List Cell} {ct : Array Value}

/-- All blocks that were there stay as they were; lists may have been made in new ones. -/
structure Grow (C D : Cx) : Prop where
  below : Below C.w.heap.size C.w D.w
  nx : C.nx ≤ D.nx
  map : ∀ i, i < C.nx → D.ι i = C.ι i
  imm : ∀ b o, C.I b o → D.I b o
  new : ∀ b o, D.I b o → C.I b o ∨ C.w.heap.size ≤ b
  newc : ∀ b o, D.I b o → C.w.heap.size ≤ b → ∃ u, D.w.cell? ⟨b, o, none⟩ = some u

theorem Grow.cell (h : Grow C D) {b o : Nat} (hb : b < C.w.heap.size) : D.w.cell? ⟨b, o, none⟩ = C.w.cell? ⟨b, o, none⟩ := h.below.cell (p := ⟨b, o, none⟩) hb
theorem Grow.frozen (h : Grow C D) {b o : Nat} (hb : b < C.w.heap.size) : D.w.frozen? ⟨b, o, none⟩ = C.w.frozen? ⟨b, o, none⟩ := h.below.frozen (p := ⟨b, o, none⟩) hb
theorem HOk.le (h : HOk C B F w0 hp) (g : Grow C D) : C.Le D := by
  refine ⟨g.nx, g.map, g.imm, fun b o hb => ?_, fun b o u hu => ⟨u, (g.cell (cell_lt hu)).trans hu⟩⟩
  obtain ⟨u, hu⟩ := h.imm b o hb
  exact g.cell (cell_lt hu)
theorem HOk.grow (h : HOk C B F w0 hp) (g : Grow C D) : HOk D B F w0 hp := by
  have le := h.le g
  have hB : B ≤ C.w.heap.size := Nat.le_trans h.base h.below.size
  have hι : ∀ i, (hget hp i).isSome = true → D.ι i = C.ι i := fun i hi => g.map i (h.ids i hi)
  refine ⟨h.below.trans (g.below.mono hB), h.base, fun i hi => Nat.lt_of_lt_of_le (h.ids i hi) g.nx, fun id cs hc => ?_, fun i j hi hj e => ?_, fun i hi => ?_, fun b o hb => ?_, fun b o hb => ?_, fun id es hg => (h.mapb id es hg).mono le (by
    have hs : (hget hp id).isSome = true := by rw [hg]; rfl
    rw [hι id hs, g.below.block _ (h.out id hs).2.1])⟩
  · obtain ⟨vs, ty, h1, h2, h3⟩ := h.blk id cs hc
    have hs : (hget hp id).isSome = true := by rw [hc]; rfl
    refine ⟨vs, ty, ?_, h2, fun i c hi => ?_⟩
    · rw [hι id hs, g.below.block _ (h.out id hs).2.1]; exact h1
    · obtain ⟨h4, v, h5, h6⟩ := h3 i c hi
      exact ⟨h4, v, h5, h6.mono le⟩
  · rw [hι i hi, hι j hj] at e
    exact h.inj i j hi hj e
  · obtain ⟨h1, h2, h3⟩ := h.out i hi
    rw [hι i hi]
    refine ⟨h1, Nat.lt_of_lt_of_le h2 g.below.size, fun o => ⟨fun hI => ?_, (h3 o).2⟩⟩
    rcases g.new _ _ hI with h4 | h4
    · exact (h3 o).1 h4
    · omega
  · rcases g.new _ _ hb with h4 | h4
    · obtain ⟨u, hu⟩ := h.imm b o h4
      exact ⟨u, (g.cell (cell_lt hu)).trans hu⟩
    · exact g.newc b o hb h4
  · obtain ⟨⟨u, hu⟩, h1, h2⟩ := h.far b o hb
    refine ⟨⟨u, (g.cell (cell_lt hu)).trans hu⟩, (g.frozen (cell_lt hu)).trans h1, fun hI => ?_⟩
    rcases g.new _ _ hI with h4 | h4
    · exact h2 h4
    · have := cell_lt hu; omega
theorem OwnOk.grow {v : AVal} {cv : Value} (k : OwnOk C B F hp v cv) (h : HOk C B F w0 hp) (g : Grow C D) : OwnOk D B F hp v cv := by
  refine ⟨k.form, fun b o ht => ?_⟩
  obtain ⟨h1, h2, h3, h4, ⟨u, h5⟩, h6⟩ := k.cells b o ht
  have hlt := cell_lt h5
  refine ⟨h1, fun hI => ?_, h3, fun id hid => ?_, ⟨u, (g.cell hlt).trans h5⟩, (g.frozen hlt).trans h6⟩
  · rcases g.new _ _ hI with h7 | h7
    · exact h2 h7
    · omega
  · rw [g.map id (h.ids id hid)]; exact h4 id hid
theorem Owned.back (h : HOk C B F w0 hp) (g : Grow C D) {k : Nat × Nat} {v : AVal} {cv : Value} (ho : Owned D hp tm ct k v cv) : Owned C hp tm ct k v cv := by
  obtain ⟨i, t⟩ := k
  cases i with
  | zero => exact ho
  | succ id =>
    obtain ⟨cs, vs, ty, h1, h2, h3, h4⟩ := ho
    have hs : (hget hp id).isSome = true := by rw [h1]; rfl
    rw [g.map id (h.ids id hs), g.below.block _ (h.out id hs).2.1] at h3
    exact ⟨cs, vs, ty, h1, h2, h3, h4⟩
theorem WRel.grow (h : WRel C B F w0 hp tm ct) (g : Grow C D) : WRel D B F w0 hp tm ct :=
  ⟨h.heap.grow g, h.size, fun t c ht => let ⟨v, h1, h2⟩ := h.tmp t c ht; ⟨v, h1, h2.mono (h.heap.le g)⟩,
    fun k v cv ho => (h.own k v cv (ho.back h.heap g)).grow h.heap g, fun k1 k2 v1 c1 v2 c2 h1 h2 => h.sep k1 k2 v1 c1 v2 c2 (h1.back h.heap g) (h2.back h.heap g)⟩

/-- A slot is written. -/
theorem WRel.put (h : WRel C B F w0 hp tm ct) (d : Nat) {v : AVal} {cv : Value} (hv : RV C v cv) : WRel C B F w0 hp (tm.set d (v, false)) (ct.setIfInBounds d cv) := by
  refine h.slots (by simp [h.size]) (fun t c ht => ?_) id (fun t v' cv' ht hc => ?_) (fun t t' _ _ _ _ e => e)
  · rw [List.getElem?_set] at ht
    by_cases e : d = t
    · subst e
      rw [if_pos rfl] at ht
      split at ht
      · rename_i hl
        injection ht with ht; subst ht
        exact ⟨cv, by simp [Array.getElem?_setIfInBounds, h.size, hl], hv⟩
      · cases ht
    · rw [if_neg e] at ht
      obtain ⟨v', h1, h2⟩ := h.tmp t c ht
      exact ⟨v', by rw [Array.getElem?_setIfInBounds, if_neg e]; exact h1, h2⟩
  · rw [List.getElem?_set] at ht
    by_cases e : d = t
    · subst e
      rw [if_pos rfl] at ht
      split at ht <;> simp at ht
    · rw [if_neg e] at ht
      rw [Array.getElem?_setIfInBounds, if_neg e] at hc
      exact ⟨ht, hc⟩
/-- A slot is written that owns: the value owned is new, or another slot's that gives it up. -/
theorem WRel.puts (h : WRel C B F w0 hp tm ct) (d s : Nat) {v : AVal} {cv : Value} (hs : tm[s]? = some (v, true)) (hcs : ct[s]? = some cv) : WRel C B F w0 hp ((tm.set s (v, false)).set d (v, true)) (ct.setIfInBounds d cv) := by
  obtain ⟨cv', h1, hv⟩ := h.tmp s _ hs
  rw [hcs] at h1; injection h1 with h1; subst h1
  have hsl : s < tm.length := (List.getElem?_eq_some_iff.1 hs).1
  have get : ∀ t c, ((tm.set s (v, false)).set d (v, true))[t]? = some c → (t = d ∧ c = (v, true)) ∨ (t ≠ d ∧ t = s ∧ c = (v, false)) ∨ (t ≠ d ∧ t ≠ s ∧ tm[t]? = some c) := by
    intro t c ht
    rw [List.getElem?_set] at ht
    by_cases e : d = t
    · subst e
      rw [if_pos rfl] at ht
      split at ht
      · injection ht with ht; exact .inl ⟨rfl, ht.symm⟩
      · cases ht
    · rw [if_neg e, List.getElem?_set] at ht
      by_cases e' : s = t
      · subst e'
        rw [if_pos rfl, if_pos hsl] at ht
        injection ht with ht
        exact .inr (.inl ⟨fun h => e h.symm, rfl, ht.symm⟩)
      · rw [if_neg e'] at ht
        exact .inr (.inr ⟨fun h => e h.symm, fun h => e' h.symm, ht⟩)
  have getc : ∀ (t : Nat), t ≠ d → (ct.setIfInBounds d cv)[t]? = ct[t]? := fun t ht => by rw [Array.getElem?_setIfInBounds, if_neg (fun e => ht e.symm)]
  have getd : ∀ c, ((tm.set s (v, false)).set d (v, true))[d]? = some c → (ct.setIfInBounds d cv)[d]? = some cv := by
    intro c hc
    have hl := (List.getElem?_eq_some_iff.1 hc).1
    simp at hl
    simp [Array.getElem?_setIfInBounds, h.size, hl]
  refine h.slots (by simp [h.size]) (fun t c ht => ?_) (fun t => if t = d then s else t) (fun t v' cv' ht hc => ?_) (fun t t' v1 v2 ht ht' e => ?_)
  · rcases get t c ht with ⟨rfl, rfl⟩ | ⟨hd, rfl, rfl⟩ | ⟨hd, hne, hc⟩
    · exact ⟨cv, getd _ ht, hv⟩
    · exact ⟨cv, by rw [getc _ hd]; exact hcs, hv⟩
    · obtain ⟨v', h1, h2⟩ := h.tmp t c hc
      exact ⟨v', by rw [getc _ hd]; exact h1, h2⟩
  · rcases get t _ ht with ⟨rfl, e⟩ | ⟨hd, rfl, e⟩ | ⟨hd, hne, h3⟩
    · simp at e; subst e
      rw [getd _ ht] at hc
      injection hc with hc; subst hc
      simp [hs, hcs]
    · simp at e
    · rw [if_neg hd]
      exact ⟨h3, by rw [getc _ hd] at hc; exact hc⟩
  · rcases get t _ ht with ⟨rfl, _⟩ | ⟨hd, rfl, e1⟩ | ⟨hd, hne, h3⟩
    · rcases get t' _ ht' with ⟨rfl, _⟩ | ⟨hd', rfl, e2⟩ | ⟨hd', hne', h3'⟩
      · rfl
      · simp at e2
      · rw [if_pos rfl, if_neg hd'] at e; exact absurd e.symm hne'
    · simp at e1
    · rcases get t' _ ht' with ⟨rfl, _⟩ | ⟨hd', rfl, e2⟩ | ⟨hd', hne', h3'⟩
      · rw [if_neg hd, if_pos rfl] at e; exact absurd e hne
      · simp at e2
      · rw [if_neg hd, if_neg hd'] at e; exact e
end
end Go.Proofs.YtleimfinniclgaaDoor.M
