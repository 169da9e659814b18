/- The machine's state and the world: stores; what is owned changes its place. -/
import Derived.Test.YtleimfinniclgaaDoorMC
namespace Go.Proofs.YtleimfinniclgaaDoor.M
open Go.RowKit
set_option linter.unusedVariables false
set_option linter.unusedSimpArgs false

def setsA (c : Array Value) : Nat → List Value → Array Value
  | _, [] => c
  | i, v :: l => setsA (c.setIfInBounds i v) (i + 1) l
theorem setsA_size (l : List Value) : ∀ (c : Array Value) (i : Nat), (setsA c i l).size = c.size := by
  induction l with
  | nil => intro c i; rfl
  | cons v l ih => intro c i; rw [setsA, ih, Array.size_setIfInBounds]
theorem setsA_get (l : List Value) : ∀ (c : Array Value) (i j : Nat), (setsA c i l)[j]? = if i ≤ j ∧ j < i + l.length ∧ j < c.size then l[j - i]? else c[j]? := by
  induction l with
  | nil => intro c i j; simp [setsA]; omega
  | cons v l ih =>
    intro c i j
    rw [setsA, ih, Array.getElem?_setIfInBounds, Array.size_setIfInBounds, List.length_cons]
    by_cases h1 : i + 1 ≤ j ∧ j < i + 1 + l.length ∧ j < c.size
    · rw [if_pos h1, if_pos ⟨by omega, by omega, h1.2.2⟩, show j - i = (j - (i + 1)) + 1 by omega, List.getElem?_cons_succ]
    · rw [if_neg h1]
      by_cases h2 : i = j
      · subst h2
        by_cases h3 : i < c.size
        · rw [if_pos rfl, if_pos h3, if_pos ⟨by omega, by omega, h3⟩]; simp
        · rw [if_pos rfl, if_neg h3, if_neg (by omega), Array.getElem?_eq_none (by omega)]
      · rw [if_neg h2, if_neg (by omega)]
def setCs (cs : List Cell) : Nat → List Cell → List Cell
  | _, [] => cs
  | i, c :: l => setCs (cs.set i c) (i + 1) l
theorem setCs_len (l : List Cell) : ∀ (cs : List Cell) (i : Nat), (setCs cs i l).length = cs.length := by
  induction l with
  | nil => intro c i; rfl
  | cons v l ih => intro c i; rw [setCs, ih, List.length_set]
theorem setCs_get (l : List Cell) : ∀ (c : List Cell) (i j : Nat), (setCs c i l)[j]? = if i ≤ j ∧ j < i + l.length ∧ j < c.length then l[j - i]? else c[j]? := by
  induction l with
  | nil => intro c i j; simp [setCs]; omega
  | cons v l ih =>
    intro c i j
    rw [setCs, ih, List.getElem?_set, List.length_set, List.length_cons]
    by_cases h1 : i + 1 ≤ j ∧ j < i + 1 + l.length ∧ j < c.length
    · rw [if_pos h1, if_pos ⟨by omega, by omega, h1.2.2⟩, show j - i = (j - (i + 1)) + 1 by omega, List.getElem?_cons_succ]
    · rw [if_neg h1]
      by_cases h2 : i = j
      · subst h2
        by_cases h3 : i < c.length
        · rw [if_pos rfl, if_pos h3, if_pos ⟨by omega, by omega, h3⟩]; simp
        · rw [if_pos rfl, if_neg h3, if_neg (by omega), List.getElem?_eq_none (by omega)]
      · rw [if_neg h2, if_neg (by omega)]
theorem setCell_block (w : World) (b o : Nat) (v : Value) {cur : Array Value} {ty : TypeId} {fr : Nat × Nat} (h : w.heap[b]? = some (.cells cur ty fr)) : (w.setCell ⟨b, o, none⟩ v).heap[b]? = some (.cells (cur.setIfInBounds o v) ty fr) := by
  simp [World.setCell, Array.getElem?_modify, h]
theorem setCells_block (b : Nat) : ∀ (vs : List Value) (o : Nat) (w : World) {cur : Array Value} {ty : TypeId} {fr : Nat × Nat}, w.heap[b]? = some (.cells cur ty fr) → (w.setCells b o vs).heap[b]? = some (.cells (setsA cur o vs) ty fr)
  | [], _, _, _, _, _, h => h
  | v :: r, o, w, _, _, _, h => setCells_block b r (o + 1) _ (setCell_block w b o v h)
theorem setCells_other (b k : Nat) (hk : k ≠ b) : ∀ (vs : List Value) (o : Nat) (w : World), (w.setCells b o vs).heap[k]? = w.heap[k]?
  | [], _, _ => rfl
  | v :: r, o, w => (setCells_other b k hk r (o + 1) _).trans (Below.heap_setCell w ⟨b, o, none⟩ v k hk)
theorem setCells_size (b : Nat) : ∀ (vs : List Value) (o : Nat) (w : World), (w.setCells b o vs).heap.size = w.heap.size
  | [], _, _ => rfl
  | v :: r, o, w => by rw [World.setCells, setCells_size b r (o + 1)]; simp [World.setCell]
theorem below_setCells {B : Nat} {a : World} (b : Nat) (hb : B ≤ b) : ∀ (vs : List Value) (o : Nat) (w : World), Below B a w → Below B a (w.setCells b o vs)
  | [], _, _, h => h
  | v :: r, o, w, h => below_setCells b hb r (o + 1) _ (h.setCell (p := ⟨b, o, none⟩) hb v)

section
variable {C : Cx} {B : Nat} {F : Nat → Nat → Prop} {w0 : World} {hp hp' : Heap} {tm tm' : List Cell} {ct ct' : Array Value}

/-- The places of what is owned change, the world stays. -/
theorem WRel.rekey (h : WRel C B F w0 hp tm ct) (hsome : ∀ id, (hget hp' id).isSome = (hget hp id).isSome)
    (hblk : ∀ id cs, hget hp' id = some (.cells cs) → ∃ vs ty, C.w.heap[C.ι id]? = some (.cells vs ty (0, 0)) ∧ cs.length ≤ vs.size ∧ ∀ (i : Nat) (c : Cell), cs[i]? = some c → c.1.one = true ∧ ∃ v, vs[i]? = some v ∧ RV C c.1 v)
    (hmap : ∀ id es, hget hp' id = some (.map es) → hget hp id = some (.map es)) (hs : ct'.size = tm'.length) (ht : ∀ (t : Nat) (c : Cell), tm'[t]? = some c → ∃ v, ct'[t]? = some v ∧ RV C c.1 v)
    (g : Nat × Nat → Nat × Nat) (hg : ∀ k v cv, Owned C hp' tm' ct' k v cv → Owned C hp tm ct (g k) v cv)
    (hi : ∀ k k' v cv v' cv', Owned C hp' tm' ct' k v cv → Owned C hp' tm' ct' k' v' cv' → g k = g k' → k = k') : WRel C B F w0 hp' tm' ct' :=
  ⟨⟨h.heap.below, h.heap.base, fun id hid => h.heap.ids id (by rw [← hsome]; exact hid), hblk, fun i j a b => h.heap.inj i j (by rw [← hsome]; exact a) (by rw [← hsome]; exact b), fun i a => h.heap.out i (by rw [← hsome]; exact a), h.heap.imm, h.heap.far, fun id es hg => h.heap.mapb id es (hmap id es hg)⟩,
    hs, ht, fun k v cv ho => let q := h.own _ v cv (hg k v cv ho); ⟨q.form, fun b o t => let ⟨a1, a2, a3, a4, a5, a6⟩ := q.cells b o t; ⟨a1, a2, a3, fun id hid => a4 id (by rw [← hsome]; exact hid), a5, a6⟩⟩,
    fun k1 k2 v1 c1 v2 c2 h1 h2 hne => h.sep _ _ v1 c1 v2 c2 (hg _ _ _ h1) (hg _ _ _ h2) fun e => hne (hi _ _ _ _ _ _ h1 h2 e)⟩

theorem cell_setCells_ex (b off : Nat) (vs : List Value) (w : World) {b' o : Nat} {u : Value} (h : w.cell? ⟨b', o, none⟩ = some u) : ∃ u', (w.setCells b off vs).cell? ⟨b', o, none⟩ = some u' := by
  by_cases e : b' = b
  · subst e
    have h0 := h
    simp only [World.cell?] at h
    split at h
    · rename_i cur ty fr hb
      have hb' := setCells_block b' vs off w hb
      (try simp only at h)
      have ho : o < cur.size := (Array.getElem?_eq_some_iff.1 h).1
      refine ⟨(setsA cur off vs)[o]'(by rw [setsA_size]; exact ho), ?_⟩
      simp only [World.cell?, hb']
      exact Array.getElem?_eq_getElem _
    all_goals cases h
  · exact ⟨u, (World.cell?_of_block (setCells_other _ _ e _ _ _)).trans h⟩
def Cx.stores (C : Cx) (id off : Nat) (vs : List Value) : Cx := { C with w := C.w.setCells (C.ι id) off vs }
theorem HOk.le_stores (h : HOk C B F w0 hp) {id : Nat} (hid : (hget hp id).isSome = true) (off : Nat) (vs : List Value) : C.Le (C.stores id off vs) :=
  ⟨Nat.le_refl _, fun _ _ => rfl, fun _ _ h => h, fun b o hb => World.cell?_of_block (by
    show (C.w.setCells (C.ι id) off vs).heap[b]? = _
    refine setCells_other _ _ (fun e => ?_) _ _ _
    subst e
    exact ((h.out id hid).2.2 o).1 hb), fun b o u hu => cell_setCells_ex _ _ _ _ hu⟩
/-- Cells of a variable are written. -/
theorem WRel.store (h : WRel C B F w0 hp tm ct) {id : Nat} {cs : List Cell} (hid : hget hp id = some (.cells cs)) (off : Nat) (new : List Cell) (vs : List Value) (hl : vs.length = new.length) (hoff : off + new.length ≤ cs.length)
    (hc : ∀ (i : Nat) (c : Cell), new[i]? = some c → c.1.one = true ∧ ∃ v, vs[i]? = some v ∧ RV C c.1 v ∧ Bare c v) : WRel (C.stores id off vs) B F w0 (hset hp id (.cells (setCs cs off new))) tm ct := by
  have hs : (hget hp id).isSome = true := by rw [hid]; rfl
  have le := h.heap.le_stores hs off vs
  have hget' : ∀ j, hget (hset hp id (.cells (setCs cs off new))) j = if j = id then some (.cells (setCs cs off new)) else hget hp j := fun j => by rw [hget_hset]; simp [hs]
  have hsome : ∀ j, (hget (hset hp id (.cells (setCs cs off new))) j).isSome = (hget hp j).isSome := fun j => by
    rw [hget']
    split
    · rename_i e; subst e; rw [hs]; rfl
    · rfl
  obtain ⟨vs0, ty, hb, hsz, hcells⟩ := h.heap.blk id cs hid
  have hB := h.heap.out id hs
  have hother : ∀ k, k ≠ C.ι id → (C.stores id off vs).w.heap[k]? = C.w.heap[k]? := fun k hk => setCells_other _ _ hk _ _ _
  have hsame : (C.stores id off vs).w.heap[C.ι id]? = some (.cells (setsA vs0 off vs) ty (0, 0)) := setCells_block _ _ _ _ hb
  have hcell : ∀ b o, b ≠ C.ι id → (C.stores id off vs).w.cell? ⟨b, o, none⟩ = C.w.cell? ⟨b, o, none⟩ := fun b o hk => World.cell?_of_block (hother b hk)
  have hfroz : ∀ b o, b ≠ C.ι id → (C.stores id off vs).w.frozen? ⟨b, o, none⟩ = C.w.frozen? ⟨b, o, none⟩ := fun b o hk => World.frozen?_of_block (hother b hk)
  have hown : ∀ k v cv, Owned (C.stores id off vs) (hset hp id (.cells (setCs cs off new))) tm ct k v cv → (v = .lst [] ∧ cv = .slice none 0 0) ∨ Owned C hp tm ct k v cv := by
    intro k v cv ho
    obtain ⟨i, t⟩ := k
    cases i with
    | zero => exact .inr ho
    | succ j =>
      obtain ⟨cs', vs', ty', h1, h2, h3, h4⟩ := ho
      rw [hget'] at h1
      by_cases e : j = id
      · subst e
        rw [if_pos rfl] at h1; injection h1 with h1; injection h1 with h1; subst h1
        have h3' : (C.stores j off vs).w.heap[C.ι j]? = some (.cells vs' ty' (0, 0)) := h3
        rw [hsame] at h3'; injection h3' with h3'; injection h3' with h3' _; subst h3'
        rw [setCs_get] at h2
        rw [setsA_get] at h4
        split at h2
        · rename_i hin
          rw [if_pos (by omega)] at h4
          obtain ⟨_, v', h5, _, h7⟩ := hc _ _ h2
          rw [h4] at h5; injection h5 with h5; subst h5
          exact .inl (h7 rfl)
        · rename_i hin
          rw [if_neg (by omega)] at h4
          exact .inr ⟨cs, vs0, ty, hid, h2, hb, h4⟩
      · rw [if_neg e] at h1
        have hj : (hget hp j).isSome = true := by rw [h1]; rfl
        have h3' : (C.stores id off vs).w.heap[C.ι j]? = some (.cells vs' ty' (0, 0)) := h3
        rw [hother _ (fun q => e (h.heap.inj j id hj hs q))] at h3'
        exact .inr ⟨cs', vs', ty', h1, h2, h3', h4⟩
  have hbare : ∀ v cv, v = AVal.lst [] ∧ cv = .slice none 0 0 → ∀ b o, ¬ Tail v cv b o := by
    rintro v cv ⟨rfl, rfl⟩ b o ⟨xs, a, n, c, x, r, h1, h2, _⟩
    simp at h2
  refine ⟨⟨below_setCells _ hB.1 _ _ _ h.heap.below, h.heap.base, fun j hj => h.heap.ids j (by rw [← hsome]; exact hj), fun j cs' hj => ?_, fun i j a b => h.heap.inj i j (by rw [← hsome]; exact a) (by rw [← hsome]; exact b), fun i a => ?_, fun b o hb' => ?_, fun b o hb' => ?_, fun j es hg => (by
    rw [hget'] at hg
    split at hg
    · cases hg
    · rename_i e
      have hj : (hget hp j).isSome = true := by rw [hg]; rfl
      exact (h.heap.mapb j es hg).mono le (hother _ (fun q => e (h.heap.inj j id hj hs q))))⟩, h.size, fun t c ht => ?_, fun k v cv ho => ?_, fun k1 k2 v1 c1 v2 c2 h1 h2 hne b o ht => ?_⟩
  · rw [hget'] at hj
    by_cases e : j = id
    · subst e
      rw [if_pos rfl] at hj; injection hj with hj; injection hj with hj; subst hj
      refine ⟨_, ty, hsame, by rw [setsA_size, setCs_len]; exact hsz, fun i c hi => ?_⟩
      rw [setCs_get] at hi
      rw [setsA_get]
      split at hi
      · rename_i hin
        rw [if_pos (by omega)]
        obtain ⟨q1, v, q2, q3, _⟩ := hc _ _ hi
        exact ⟨q1, v, q2, q3.mono le⟩
      · rename_i hin
        rw [if_neg (by omega)]
        obtain ⟨q1, v, q2, q3⟩ := hcells _ _ hi
        exact ⟨q1, v, q2, q3.mono le⟩
    · rw [if_neg e] at hj
      have hj' : (hget hp j).isSome = true := by rw [hj]; rfl
      obtain ⟨vs', ty', q1, q2, q3⟩ := h.heap.blk j cs' hj
      refine ⟨vs', ty', (hother _ (fun q => e (h.heap.inj j id hj' hs q))).trans q1, q2, fun i c hi => ?_⟩
      obtain ⟨r1, v, r2, r3⟩ := q3 i c hi
      exact ⟨r1, v, r2, r3.mono le⟩
  · obtain ⟨q1, q2, q3⟩ := h.heap.out i (by rw [← hsome]; exact a)
    exact ⟨q1, by show _ < (C.w.setCells _ _ _).heap.size; rw [setCells_size]; exact q2, q3⟩
  · obtain ⟨u, hu⟩ := h.heap.imm b o hb'
    exact ⟨u, (hcell b o (fun e => (hB.2.2 o).1 (e ▸ hb'))).trans hu⟩
  · obtain ⟨⟨u, hu⟩, q0, q⟩ := h.heap.far b o hb'
    have hne : b ≠ C.ι id := fun e => (hB.2.2 o).2 (e ▸ hb')
    exact ⟨⟨u, (hcell b o hne).trans hu⟩, (hfroz b o hne).trans q0, q⟩
  · obtain ⟨v, q1, q2⟩ := h.tmp t c ht
    exact ⟨v, q1, q2.mono le⟩
  · rcases hown k v cv ho with e | ho'
    · exact ⟨⟨[], none, 0, 0, e.1, e.2, fun _ => rfl⟩, fun b o ht => absurd ht (hbare v cv e b o)⟩
    · have q := h.own k v cv ho'
      refine ⟨q.form, fun b o t => ?_⟩
      obtain ⟨a1, a2, a3, a4, ⟨u, a5⟩, a6⟩ := q.cells b o t
      have hne := a4 id hs
      exact ⟨a1, a2, a3, fun j hj => a4 j (by rw [← hsome]; exact hj), ⟨u, (hcell b o hne).trans a5⟩, (hfroz b o hne).trans a6⟩
  · rcases hown k1 v1 c1 h1 with e | h1'
    · exact absurd ht (hbare _ _ e b o)
    · rcases hown k2 v2 c2 h2 with e | h2'
      · exact hbare _ _ e b o
      · exact h.sep k1 k2 v1 c1 v2 c2 h1' h2' hne b o ht
/-- A slot gives what it owns to a cell that holds the same. -/
theorem WRel.give (h : WRel C B F w0 hp tm ct) {s : Nat} {v : AVal} {cv : Value} (hs : tm[s]? = some (v, true)) (hcs : ct[s]? = some cv) {id off : Nat} {cs : List Cell} (hid : hget hp id = some (.cells cs)) (hoff : cs[off]? = some (v, false))
    (hsame : ∀ vs ty, C.w.heap[C.ι id]? = some (.cells vs ty (0, 0)) → vs[off]? = some cv) : WRel C B F w0 (hset hp id (.cells (cs.set off (v, true)))) (tm.set s (v, false)) ct := by
  have hss : (hget hp id).isSome = true := by rw [hid]; rfl
  have hget' : ∀ j, hget (hset hp id (.cells (cs.set off (v, true)))) j = if j = id then some (.cells (cs.set off (v, true))) else hget hp j := fun j => by rw [hget_hset]; simp [hss]
  have own : ∀ k v' cv', Owned C (hset hp id (.cells (cs.set off (v, true)))) (tm.set s (v, false)) ct k v' cv' → (k = (id + 1, off) ∧ Owned C hp tm ct (0, s) v' cv') ∨ (k ≠ (id + 1, off) ∧ k ≠ (0, s) ∧ Owned C hp tm ct k v' cv') := by
    intro k v' cv' ho
    obtain ⟨i, t⟩ := k
    cases i with
    | zero =>
      obtain ⟨h1, h2⟩ := ho
      rw [List.getElem?_set] at h1
      by_cases e : s = t
      · subst e
        rw [if_pos rfl] at h1
        split at h1 <;> simp at h1
      · rw [if_neg e] at h1
        exact .inr ⟨by simp, by simp; exact fun q => e q.symm, h1, h2⟩
    | succ j =>
      obtain ⟨cs', vs', ty', h1, h2, h3, h4⟩ := ho
      rw [hget'] at h1
      by_cases e : j = id
      · subst e
        rw [if_pos rfl] at h1; injection h1 with h1; injection h1 with h1; subst h1
        rw [List.getElem?_set] at h2
        by_cases e' : off = t
        · subst e'
          rw [if_pos rfl] at h2
          split at h2
          · injection h2 with h2
            simp at h2; subst h2
            have := hsame _ _ h3
            rw [this] at h4; injection h4 with h4; subst h4
            exact .inl ⟨rfl, hs, hcs⟩
          · cases h2
        · rw [if_neg e'] at h2
          exact .inr ⟨by simp; exact fun q => e' q.symm, by simp, cs, vs', ty', hid, h2, h3, h4⟩
      · rw [if_neg e] at h1
        exact .inr ⟨by simp; intro q; exact absurd q e, by simp, cs', vs', ty', h1, h2, h3, h4⟩
  refine h.rekey (fun j => ?_) (fun j cs' hj => ?_) (fun j es hj => (by
    rw [hget'] at hj
    split at hj
    · cases hj
    · exact hj)) (by simp [h.size]) (fun t c ht => ?_) (fun k => if k = (id + 1, off) then (0, s) else k) (fun k v' cv' ho => ?_) (fun k k' v1 c1 v2 c2 h1 h2 e => ?_)
  · rw [hget']
    split
    · rename_i e; subst e; rw [hss]; rfl
    · rfl
  · rw [hget'] at hj
    by_cases e : j = id
    · subst e
      rw [if_pos rfl] at hj; injection hj with hj; injection hj with hj; subst hj
      obtain ⟨vs', ty', q1, q2, q3⟩ := h.heap.blk j cs hid
      refine ⟨vs', ty', q1, by simpa using q2, fun i c hi => ?_⟩
      rw [List.getElem?_set] at hi
      by_cases e' : off = i
      · subst e'
        rw [if_pos rfl] at hi
        split at hi
        · injection hi with hi; subst hi
          have := q3 _ _ hoff
          exact this
        · cases hi
      · rw [if_neg e'] at hi; exact q3 i c hi
    · rw [if_neg e] at hj; exact h.heap.blk j cs' hj
  · rw [List.getElem?_set] at ht
    by_cases e : s = t
    · subst e
      rw [if_pos rfl] at ht
      split at ht
      · injection ht with ht; subst ht
        have := h.tmp s _ hs
        exact this
      · cases ht
    · rw [if_neg e] at ht; exact h.tmp t c ht
  · rcases own k v' cv' ho with ⟨rfl, q⟩ | ⟨q1, _, q3⟩
    · rw [if_pos rfl]; exact q
    · rw [if_neg q1]; exact q3
  · rcases own k v1 c1 h1 with ⟨rfl, _⟩ | ⟨q1, q2, _⟩
    · rcases own k' v2 c2 h2 with ⟨rfl, _⟩ | ⟨r1, r2, _⟩
      · rfl
      · rw [if_pos rfl, if_neg r1] at e; exact absurd e.symm r2
    · rcases own k' v2 c2 h2 with ⟨rfl, _⟩ | ⟨r1, r2, _⟩
      · rw [if_neg q1, if_pos rfl] at e; exact absurd e q2
      · rw [if_neg q1, if_neg r1] at e; exact e
/-- A slot takes what a cell owns. -/
theorem WRel.take (h : WRel C B F w0 hp tm ct) {d : Nat} {v : AVal} {cv : Value} {id off : Nat} {cs : List Cell} (hid : hget hp id = some (.cells cs)) (hoff : cs[off]? = some (v, true))
    (hsame : ∀ vs ty, C.w.heap[C.ι id]? = some (.cells vs ty (0, 0)) → vs[off]? = some cv) : WRel C B F w0 (hset hp id (.cells (cs.set off (v, false)))) (tm.set d (v, true)) (ct.setIfInBounds d cv) := by
  have hss : (hget hp id).isSome = true := by rw [hid]; rfl
  have hget' : ∀ j, hget (hset hp id (.cells (cs.set off (v, false)))) j = if j = id then some (.cells (cs.set off (v, false))) else hget hp j := fun j => by rw [hget_hset]; simp [hss]
  obtain ⟨vs, ty, q1, q2, q3⟩ := h.heap.blk id cs hid
  have hvo := hsame vs ty q1
  obtain ⟨_, v0, q4, q5⟩ := q3 off _ hoff
  rw [hvo] at q4; injection q4 with q4; subst q4
  have howc : Owned C hp tm ct (id + 1, off) v cv := ⟨cs, vs, ty, hid, hoff, q1, hvo⟩
  have hd : ∀ c, (tm.set d (v, true))[d]? = some c → (ct.setIfInBounds d cv)[d]? = some cv := fun c hc => by
    have hl := (List.getElem?_eq_some_iff.1 hc).1
    simp at hl
    simp [Array.getElem?_setIfInBounds, h.size, hl]
  have own : ∀ k v' cv', Owned C (hset hp id (.cells (cs.set off (v, false)))) (tm.set d (v, true)) (ct.setIfInBounds d cv) k v' cv' → (k = (0, d) ∧ Owned C hp tm ct (id + 1, off) v' cv') ∨ (k ≠ (0, d) ∧ k ≠ (id + 1, off) ∧ Owned C hp tm ct k v' cv') := by
    intro k v' cv' ho
    obtain ⟨i, t⟩ := k
    cases i with
    | zero =>
      obtain ⟨h1, h2⟩ := ho
      by_cases e : d = t
      · subst e
        rw [hd _ h1] at h2; injection h2 with h2; subst h2
        rw [List.getElem?_set, if_pos rfl] at h1
        split at h1
        · injection h1 with h1
          simp at h1; subst h1
          exact .inl ⟨rfl, howc⟩
        · cases h1
      · rw [List.getElem?_set, if_neg e] at h1
        rw [Array.getElem?_setIfInBounds, if_neg e] at h2
        exact .inr ⟨by simp; exact fun q => e q.symm, by simp, h1, h2⟩
    | succ j =>
      obtain ⟨cs', vs', ty', h1, h2, h3, h4⟩ := ho
      rw [hget'] at h1
      by_cases e : j = id
      · subst e
        rw [if_pos rfl] at h1; injection h1 with h1; injection h1 with h1; subst h1
        rw [List.getElem?_set] at h2
        by_cases e' : off = t
        · subst e'
          rw [if_pos rfl] at h2
          split at h2 <;> simp at h2
        · rw [if_neg e'] at h2
          exact .inr ⟨by simp, by simp; exact fun q => e' q.symm, cs, vs', ty', hid, h2, h3, h4⟩
      · rw [if_neg e] at h1
        exact .inr ⟨by simp, by simp; intro q; exact absurd q e, cs', vs', ty', h1, h2, h3, h4⟩
  refine h.rekey (fun j => ?_) (fun j cs' hj => ?_) (fun j es hj => (by
    rw [hget'] at hj
    split at hj
    · cases hj
    · exact hj)) (by simp [h.size]) (fun t c ht => ?_) (fun k => if k = (0, d) then (id + 1, off) else k) (fun k v' cv' ho => ?_) (fun k k' v1 c1 v2 c2 h1 h2 e => ?_)
  · rw [hget']
    split
    · rename_i e; subst e; rw [hss]; rfl
    · rfl
  · rw [hget'] at hj
    by_cases e : j = id
    · subst e
      rw [if_pos rfl] at hj; injection hj with hj; injection hj with hj; subst hj
      refine ⟨vs, ty, q1, by simpa using q2, fun i c hi => ?_⟩
      rw [List.getElem?_set] at hi
      by_cases e' : off = i
      · subst e'
        rw [if_pos rfl] at hi
        split at hi
        · injection hi with hi; subst hi
          have := q3 _ _ hoff
          exact this
        · cases hi
      · rw [if_neg e'] at hi; exact q3 i c hi
    · rw [if_neg e] at hj; exact h.heap.blk j cs' hj
  · by_cases e : d = t
    · subst e
      refine ⟨cv, hd _ ht, ?_⟩
      rw [List.getElem?_set, if_pos rfl] at ht
      split at ht
      · injection ht with ht; subst ht; exact q5
      · cases ht
    · rw [List.getElem?_set, if_neg e] at ht
      obtain ⟨v', r1, r2⟩ := h.tmp t c ht
      exact ⟨v', by rw [Array.getElem?_setIfInBounds, if_neg e]; exact r1, r2⟩
  · rcases own k v' cv' ho with ⟨rfl, q⟩ | ⟨q1, _, q3⟩
    · rw [if_pos rfl]; exact q
    · rw [if_neg q1]; exact q3
  · rcases own k v1 c1 h1 with ⟨rfl, _⟩ | ⟨q1, q2, _⟩
    · rcases own k' v2 c2 h2 with ⟨rfl, _⟩ | ⟨r1, r2, _⟩
      · rfl
      · rw [if_pos rfl, if_neg r1] at e; exact absurd e.symm r2
    · rcases own k' v2 c2 h2 with ⟨rfl, _⟩ | ⟨r1, r2, _⟩
      · rw [if_neg q1, if_pos rfl] at e; exact absurd e q2
      · rw [if_neg q1, if_neg r1] at e; exact e
end
end Go.Proofs.YtleimfinniclgaaDoor.M
