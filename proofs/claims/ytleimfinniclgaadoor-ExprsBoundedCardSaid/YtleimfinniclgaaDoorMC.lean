/- The machine's state and the world: variables and literals are made, variables are written. -/
import Derived.Test.YtleimfinniclgaaDoorMB
namespace Go.Proofs.YtleimfinniclgaaDoor.M
open Go.RowKit
set_option linter.unusedVariables false
set_option linter.unusedSimpArgs false

theorem alloc_at (w : World) (o : Obj) : (w.alloc o).heap[w.heap.size]? = some o := by
  show (w.heap.push o)[w.heap.size]? = _
  simp
theorem below_alloc' (w : World) (o : Obj) : Below w.heap.size w (w.alloc o) := (Below.refl _ _).alloc (Nat.le_refl _) o
section
variable {C : Cx} {B : Nat} {F : Nat → Nat → Prop} {w0 : World} {hp : Heap} {tm : List Cell} {ct : Array Value}

/-- Nothing is owned but what is bare: nil. -/
def Bare (c : Cell) (v : Value) : Prop := c.2 = true → c.1 = .lst [] ∧ v = .slice none 0 0

def Cx.track (C : Cx) (vs : Array Value) (ty : TypeId) : Cx := { ι := fun i => if i = C.nx then C.w.heap.size else C.ι i, I := C.I, nx := C.nx + 1, w := C.w.alloc (.cells vs ty (0, 0)) }
theorem HOk.grow_track (h : HOk C B F w0 hp) (vs : Array Value) (ty : TypeId) : Grow C (C.track vs ty) :=
  ⟨below_alloc' _ _, Nat.le_succ _, fun i hi => by simp [Cx.track]; omega, fun _ _ h => h, fun _ _ h => .inl h, fun b o hI hb => by
    obtain ⟨u, hu⟩ := h.imm b o hI
    have := cell_lt hu
    omega⟩
/-- A new variable. -/
theorem WRel.track (h : WRel C B F w0 hp tm ct) (cs : List Cell) (vs : Array Value) (ty : TypeId) (hl : cs.length ≤ vs.size)
    (hc : ∀ (i : Nat) (c : Cell), cs[i]? = some c → c.1.one = true ∧ ∃ v, vs[i]? = some v ∧ RV C c.1 v ∧ Bare c v) :
    WRel (C.track vs ty) B F w0 ((C.nx, .cells cs) :: hp) tm ct ∧ RV (C.track vs ty) (.ptr C.nx 0) (.pointer (some ⟨C.w.heap.size, 0, none⟩)) := by
  have g := h.heap.grow_track vs ty
  have le := h.heap.le g
  have hD := h.grow g
  have hB : B ≤ C.w.heap.size := Nat.le_trans h.heap.base h.heap.below.size
  have hιn : (C.track vs ty).ι C.nx = C.w.heap.size := by simp [Cx.track]
  have hιo : ∀ i, (hget hp i).isSome = true → (C.track vs ty).ι i = C.ι i := fun i hi => g.map i (h.heap.ids i hi)
  have hno : hget hp C.nx = none := by
    cases e : hget hp C.nx with
    | none => rfl
    | some b => exact absurd (h.heap.ids C.nx (by rw [e]; rfl)) (Nat.lt_irrefl _)
  have hgn : hget ((C.nx, ABlk.cells cs) :: hp) C.nx = some (.cells cs) := by simp [hget]
  have hgo : ∀ i, i ≠ C.nx → hget ((C.nx, ABlk.cells cs) :: hp) i = hget hp i := fun i hi => by simp [hget, hi]
  have hlt : ∀ i, (hget hp i).isSome = true → i ≠ C.nx := fun i hi e => by subst e; rw [hno] at hi; cases hi
  have hnew : (C.track vs ty).w.heap[C.w.heap.size]? = some (.cells vs ty (0, 0)) := alloc_at _ _
  have hown : ∀ k v cv, Owned (C.track vs ty) ((C.nx, .cells cs) :: hp) tm ct k v cv → (v = .lst [] ∧ cv = .slice none 0 0) ∨ Owned C hp tm ct k v cv := by
    intro k v cv ho
    obtain ⟨i, t⟩ := k
    cases i with
    | zero => exact .inr ho
    | succ id =>
      obtain ⟨cs', vs', ty', h1, h2, h3, h4⟩ := ho
      by_cases e : id = C.nx
      · subst e
        rw [hgn] at h1; injection h1 with h1; injection h1 with h1; subst h1
        rw [hιn, hnew] at h3; injection h3 with h3; injection h3 with h3 h3'; subst h3
        obtain ⟨_, v', h5, _, h7⟩ := hc t _ h2
        rw [h4] at h5; injection h5 with h5; subst h5
        exact .inl (h7 rfl)
      · rw [hgo id e] at h1
        exact .inr (Owned.back h.heap g (k := (id + 1, t)) ⟨cs', vs', ty', h1, h2, h3, h4⟩)
  have hbare : ∀ v cv, v = AVal.lst [] ∧ cv = .slice none 0 0 → ∀ b o, ¬ Tail v cv b o := by
    rintro v cv ⟨rfl, rfl⟩ b o ⟨xs, a, n, c, x, r, h1, h2, _⟩
    simp at h2
  refine ⟨⟨⟨hD.heap.below, hD.heap.base, fun i hi => ?_, fun id cs' hg' => ?_, fun i j hi hj e => ?_, fun i hi => ?_, hD.heap.imm, hD.heap.far, fun id es hg => (by
    by_cases e : id = C.nx
    · subst e; rw [hgn] at hg; cases hg
    · rw [hgo id e] at hg; exact hD.heap.mapb id es hg)⟩, h.size, hD.tmp, fun k v cv ho => ?_, fun k1 k2 v1 c1 v2 c2 h1 h2 hne b o ht => ?_⟩, ?_⟩
  · by_cases e : i = C.nx
    · subst e; exact Nat.lt_succ_self _
    · rw [hgo i e] at hi; exact Nat.lt_succ_of_lt (h.heap.ids i hi)
  · by_cases e : id = C.nx
    · subst e
      rw [hgn] at hg'; injection hg' with hg'; injection hg' with hg'; subst hg'
      refine ⟨vs, ty, by rw [hιn]; exact hnew, hl, fun i c hi => ?_⟩
      obtain ⟨h1, v, h2, h3, _⟩ := hc i c hi
      exact ⟨h1, v, h2, h3.mono le⟩
    · rw [hgo id e] at hg'; exact hD.heap.blk id cs' hg'
  · by_cases ei : i = C.nx
    · by_cases ej : j = C.nx
      · rw [ei, ej]
      · rw [hgo j ej] at hj
        rw [ei, hιn, hιo j hj] at e
        have := (h.heap.out j hj).2.1
        omega
    · rw [hgo i ei] at hi
      by_cases ej : j = C.nx
      · rw [ej, hιn, hιo i hi] at e
        have := (h.heap.out i hi).2.1
        omega
      · rw [hgo j ej] at hj
        exact hD.heap.inj i j hi hj e
  · by_cases e : i = C.nx
    · subst e
      rw [hιn]
      refine ⟨hB, by simp [Cx.track], fun o => ⟨fun hI => ?_, fun hF => ?_⟩⟩
      · obtain ⟨u, hu⟩ := h.heap.imm _ _ hI
        exact absurd (cell_lt hu) (Nat.lt_irrefl _)
      · obtain ⟨⟨u, hu⟩, _⟩ := h.heap.far _ _ hF
        exact absurd (cell_lt hu) (Nat.lt_irrefl _)
    · rw [hgo i e] at hi; exact hD.heap.out i hi
  · rcases hown k v cv ho with e | ho'
    · exact ⟨⟨[], none, 0, 0, e.1, e.2, fun _ => rfl⟩, fun b o ht => absurd ht (hbare v cv e b o)⟩
    · have k1 := (h.own k v cv ho').grow h.heap g
      refine ⟨k1.form, fun b o ht => ?_⟩
      obtain ⟨h1, h2, h3, h4, h5, h6⟩ := k1.cells b o ht
      refine ⟨h1, h2, h3, fun id hid => ?_, h5, h6⟩
      by_cases e : id = C.nx
      · subst e
        rw [hιn]
        obtain ⟨_, _, _, _, ⟨u, hu⟩, _⟩ := (h.own k v cv ho').cells b o ht
        have := cell_lt hu
        omega
      · rw [hgo id e] at hid; exact h4 id hid
  · rcases hown k1 v1 c1 h1 with e | h1'
    · exact absurd ht (hbare _ _ e b o)
    · rcases hown k2 v2 c2 h2 with e | h2'
      · exact hbare _ _ e b o
      · exact h.sep k1 k2 v1 c1 v2 c2 h1' h2' hne b o ht
  · have := RV.ptr (C := C.track vs ty) C.nx 0 (Nat.lt_succ_self _)
    rwa [hιn] at this

def Cx.lit (C : Cx) (vs : Array Value) (ty : TypeId) : Cx := { ι := C.ι, I := fun b o => C.I b o ∨ (b = C.w.heap.size ∧ o < vs.size), nx := C.nx, w := C.w.alloc (.cells vs ty (0, 0)) }
theorem cell_new (w : World) (vs : Array Value) (ty : TypeId) (o : Nat) : (w.alloc (.cells vs ty (0, 0))).cell? ⟨w.heap.size, o, none⟩ = vs[o]? := by
  have := alloc_at w (.cells vs ty (0, 0))
  simp only [World.cell?, this]
  simp
theorem grow_lit (C : Cx) (vs : Array Value) (ty : TypeId) (hI : ∀ b o, C.I b o → ∃ u, C.w.cell? ⟨b, o, none⟩ = some u) : Grow C (C.lit vs ty) :=
  ⟨below_alloc' _ _, Nat.le_refl _, fun _ _ => rfl, fun _ _ h => .inl h, fun b o h => h.imp id fun h => by rw [h.1]; exact Nat.le_refl _, fun b o h hb => by
    rcases h with h | ⟨rfl, ho⟩
    · obtain ⟨u, hu⟩ := hI b o h
      have := cell_lt hu
      omega
    · exact ⟨vs[o], by rw [show (C.lit vs ty).w = C.w.alloc (.cells vs ty (0, 0)) from rfl, cell_new]; simp [ho]⟩⟩
/-- A new list: all cells of a new block. -/
theorem RV.lit (hI : ∀ b o, C.I b o → ∃ u, C.w.cell? ⟨b, o, none⟩ = some u) (xs : List AVal) (sz : Nat) (vs : Array Value) (ty : TypeId) (hz : xs ≠ [] → 0 < sz) (hs : ∀ x, x ∈ xs → x.flat.length = sz) (h1 : ∀ u, u ∈ flats xs → u.one = true)
    (hv : ∀ (i : Nat) u, (flats xs)[i]? = some u → ∃ v, vs[i]? = some v ∧ RV C u v) (c : Nat) (hc : xs.length ≤ c) : RV (C.lit vs ty) (.lst xs) (.slice (some ⟨C.w.heap.size, 0, none⟩) xs.length c) := by
  have g := grow_lit C vs ty hI
  have le : C.Le (C.lit vs ty) := ⟨g.nx, g.map, g.imm, fun b o hb => by obtain ⟨u, hu⟩ := hI b o hb; exact g.cell (cell_lt hu), fun b o u hu => ⟨u, (g.cell (cell_lt hu)).trans hu⟩⟩
  refine .lst xs _ c sz (fun i => vs.getD i undef) hc hz hs h1 (fun i u hu => ?_) (fun i u hu => ?_)
  · obtain ⟨v, h2, h3⟩ := hv i u hu
    have hi : i < vs.size := (Array.getElem?_eq_some_iff.1 h2).1
    refine ⟨_, 0, rfl, .inr ⟨rfl, by omega⟩, ?_⟩
    rw [show (C.lit vs ty).w = C.w.alloc (.cells vs ty (0, 0)) from rfl, cell_new]
    simp [hi, Array.getD]
  · obtain ⟨v, h2, h3⟩ := hv i u hu
    have hi : i < vs.size := (Array.getElem?_eq_some_iff.1 h2).1
    have : vs.getD i undef = v := by
      have := (Array.getElem?_eq_some_iff.1 h2).2
      simp [Array.getD, hi, this]
    rw [this]
    exact h3.mono le
theorem flats_len {xs : List AVal} {sz : Nat} (hs : ∀ x, x ∈ xs → x.flat.length = sz) : (flats xs).length = xs.length * sz := by
  induction xs with
  | nil => simp [flats]
  | cons x r ih =>
    have h1 := ih fun y hy => hs y (List.mem_cons_of_mem _ hy)
    have h2 := hs x (List.mem_cons_self ..)
    simp only [flats, List.flatMap_cons, List.length_append, List.length_cons] at h1 ⊢
    rw [h1, h2, Nat.add_mul, Nat.one_mul, Nat.add_comm]
/-- No room is left: c is the length. -/
theorem no_tail {xs : List AVal} {sz : Nat} (hs : ∀ x, x ∈ xs → x.flat.length = sz) (A : Option Addr) (b o : Nat) : ¬ Tail (.lst xs) (.slice A xs.length xs.length) b o := by
  rintro ⟨xs', a, n, c, x, r, h1, h2, h3, h4, h5, h6⟩
  injection h1 with h1
  subst h1
  injection h2 with _ _ h7
  subst h7
  rw [flats_len hs] at h5
  rw [hs x (by rw [h3]; exact List.mem_cons_self ..)] at h6
  omega
theorem WRel.puto (h : WRel C B F w0 hp tm ct) (d : Nat) {v : AVal} {cv : Value} (hv : RV C v cv) (ho : OwnOk C B F hp v cv)
    (hd : ∀ k v' cv', Owned C hp tm ct k v' cv' → k ≠ (0, d) → ∀ b o, Tail v cv b o → ¬ Tail v' cv' b o) : WRel C B F w0 hp (tm.set d (v, true)) (ct.setIfInBounds d cv) := by
  have get : ∀ t c, (tm.set d (v, true))[t]? = some c → (t = d ∧ c = (v, true) ∧ (ct.setIfInBounds d cv)[t]? = some cv) ∨ (t ≠ d ∧ tm[t]? = some c ∧ (ct.setIfInBounds d cv)[t]? = ct[t]?) := by
    intro t c ht
    rw [List.getElem?_set] at ht
    by_cases e : d = t
    · subst e
      rw [if_pos rfl] at ht
      split at ht
      · rename_i hl
        injection ht with ht
        exact .inl ⟨rfl, ht.symm, by simp [Array.getElem?_setIfInBounds, h.size, hl]⟩
      · cases ht
    · rw [if_neg e] at ht
      exact .inr ⟨fun h => e h.symm, ht, by rw [Array.getElem?_setIfInBounds, if_neg e]⟩
  have own : ∀ k v' cv', Owned C hp (tm.set d (v, true)) (ct.setIfInBounds d cv) k v' cv' → (k = (0, d) ∧ v' = v ∧ cv' = cv) ∨ (k ≠ (0, d) ∧ Owned C hp tm ct k v' cv') := by
    intro k v' cv' ho'
    obtain ⟨i, t⟩ := k
    cases i with
    | zero =>
      rcases get t _ ho'.1 with ⟨rfl, e, e'⟩ | ⟨e, e1, e2⟩
      · have h2 := ho'.2
        rw [e'] at h2
        injection h2 with h2
        simp at e
        exact .inl ⟨rfl, e, h2.symm⟩
      · have h2 := ho'.2
        rw [e2] at h2
        exact .inr ⟨by simp; exact e, e1, h2⟩
    | succ id => exact .inr ⟨by simp, ho'⟩
  refine ⟨h.heap, by simp [h.size], fun t c ht => ?_, fun k v' cv' ho' => ?_, fun k1 k2 v1 c1 v2 c2 h1 h2 hne b o ht ht' => ?_⟩
  · rcases get t c ht with ⟨rfl, rfl, e⟩ | ⟨e, e1, e2⟩
    · exact ⟨cv, e, hv⟩
    · obtain ⟨v', h1, h2⟩ := h.tmp t c e1
      exact ⟨v', by rw [e2]; exact h1, h2⟩
  · rcases own k v' cv' ho' with ⟨_, rfl, rfl⟩ | ⟨_, h1⟩
    · exact ho
    · exact h.own k v' cv' h1
  · rcases own k1 v1 c1 h1 with ⟨e1, rfl, rfl⟩ | ⟨e1, h1'⟩
    · rcases own k2 v2 c2 h2 with ⟨e2, rfl, rfl⟩ | ⟨e2, h2'⟩
      · exact hne (e1.trans e2.symm)
      · exact hd k2 v2 c2 h2' e2 b o ht ht'
    · rcases own k2 v2 c2 h2 with ⟨e2, rfl, rfl⟩ | ⟨e2, h2'⟩
      · exact hd k1 v1 c1 h1' e1 b o ht' ht
      · exact h.sep k1 k2 v1 c1 v2 c2 h1' h2' hne b o ht ht'
/-- A slot gives up what it owns. -/
theorem WRel.drop (h : WRel C B F w0 hp tm ct) (s : Nat) {v : AVal} {fl : Bool} (hs : tm[s]? = some (v, fl)) : WRel C B F w0 hp (tm.set s (v, false)) ct := by
  refine h.slots (by simp [h.size]) (fun t c ht => ?_) id (fun t v' cv' ht hc => ?_) (fun t t' _ _ _ _ e => e)
  · rw [List.getElem?_set] at ht
    by_cases e : s = t
    · subst e
      rw [if_pos rfl] at ht
      split at ht
      · injection ht with ht
        obtain ⟨v', h1, h2⟩ := h.tmp s _ hs
        exact ⟨v', h1, by rw [← ht]; exact h2⟩
      · cases ht
    · rw [if_neg e] at ht; exact h.tmp t c ht
  · rw [List.getElem?_set] at ht
    by_cases e : s = t
    · subst e
      rw [if_pos rfl] at ht
      split at ht <;> simp at ht
    · rw [if_neg e] at ht; exact ⟨ht, hc⟩
end
end Go.Proofs.YtleimfinniclgaaDoor.M
