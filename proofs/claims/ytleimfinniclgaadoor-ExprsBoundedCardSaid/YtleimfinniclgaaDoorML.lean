/- append to arrays that change. -/
import Derived.Test.YtleimfinniclgaaDoorMQ
namespace Go.Proofs.YtleimfinniclgaaDoor.M
open Go.RowKit
set_option linter.unusedVariables false
set_option linter.unusedSimpArgs false

theorem hget_hdel (h : Heap) (id j : Nat) : hget (hdel h id) j = if j = id then none else hget h j := by
  induction h with
  | nil => simp [hdel, hget]
  | cons p h ih =>
    obtain ⟨i, b⟩ := p
    have e : hdel ((i, b) :: h) id = if i = id then hdel h id else (i, b) :: hdel h id := by
      unfold hdel
      rw [List.filter_cons]
      by_cases hi : i = id <;> simp [hi]
    rw [e]
    by_cases hi : i = id
    · rw [if_pos hi, ih]
      subst hi
      by_cases hj : j = i
      · simp [hj]
      · simp [hj, hget]
    · rw [if_neg hi]
      simp only [hget]
      by_cases hj : j = i
      · subst hj; simp [hi]
      · rw [if_neg hj, if_neg hj, ih]
theorem hget_hlow (h : Heap) (n j : Nat) : hget (hlow n h) j = if j < n then hget h j else none := by
  induction h with
  | nil => simp [hlow, hget]
  | cons p h ih =>
    obtain ⟨i, b⟩ := p
    have e : hlow n ((i, b) :: h) = if i < n then (i, b) :: hlow n h else hlow n h := by
      unfold hlow
      rw [List.filter_cons]
      by_cases hi : i < n <;> simp [hi]
    rw [e]
    by_cases hi : i < n
    · rw [if_pos hi]
      simp only [hget]
      by_cases hj : j = i
      · subst hj; simp [hi]
      · rw [if_neg hj, if_neg hj, ih]
    · rw [if_neg hi, ih]
      simp only [hget]
      by_cases hj : j = i
      · subst hj; simp [hi]
      · rw [if_neg hj]
section
variable {P : Program} {C : Cx} {B : Nat} {F : Nat → Nat → Prop} {w0 : World} {hp : Heap} {tm : List Cell} {ct : Array Value}
/-- Fewer variables are told of. -/
theorem WRel.fewer (h : WRel C B F w0 hp tm ct) {hp' : Heap} (hs : ∀ i b, hget hp' i = some b → hget hp i = some b) : WRel C B F w0 hp' tm ct := by
  have hs' : ∀ i, (hget hp' i).isSome = true → (hget hp i).isSome = true := fun i hi => by
    obtain ⟨b, hb⟩ := Option.isSome_iff_exists.1 hi
    rw [hs i b hb]; rfl
  have ho : ∀ k v cv, Owned C hp' tm ct k v cv → Owned C hp tm ct k v cv := by
    intro k v cv ho
    obtain ⟨i, t⟩ := k
    cases i with
    | zero => exact ho
    | succ id => obtain ⟨cs, vs, ty, h1, h2⟩ := ho; exact ⟨cs, vs, ty, hs id _ h1, h2⟩
  exact ⟨⟨h.heap.below, h.heap.base, fun id hid => h.heap.ids id (hs' id hid), fun id cs hc => h.heap.blk id cs (hs id _ hc), fun i j a b => h.heap.inj i j (hs' i a) (hs' j b), fun i a => h.heap.out i (hs' i a), h.heap.imm, h.heap.far, fun id es hg => h.heap.mapb id es (hs id _ hg)⟩,
    h.size, h.tmp, fun k v cv hk => let q := h.own k v cv (ho k v cv hk); ⟨q.form, fun b o t => let ⟨a1, a2, a3, a4, a5, a6⟩ := q.cells b o t; ⟨a1, a2, a3, fun id hid => a4 id (hs' id hid), a5, a6⟩⟩,
    fun k1 k2 v1 c1 v2 c2 h1 h2 => h.sep k1 k2 v1 c1 v2 c2 (ho _ _ _ h1) (ho _ _ _ h2)⟩
theorem WRel.hdel (h : WRel C B F w0 hp tm ct) (id : Nat) : WRel C B F w0 (hdel hp id) tm ct := h.fewer fun i b hb => by
  rw [hget_hdel] at hb
  split at hb
  · cases hb
  · exact hb
def Cx.adopt (C : Cx) (b off : Nat) (vs : List Value) : Cx := { ι := fun i => if i = C.nx then b else C.ι i, I := C.I, nx := C.nx + 1, w := C.w.setCells b off vs }
/-- A block that nobody tells of is written, and is told of under a new number. -/
theorem WRel.adopt (h : WRel C B F w0 hp tm ct) (b off : Nat) (vs : List Value) {vs0 : Array Value} {ty : TypeId} (hb : C.w.heap[b]? = some (.cells vs0 ty (0, 0))) (hB : B ≤ b) (hfree : ∀ i, (hget hp i).isSome = true → C.ι i ≠ b) (hIF : ∀ o, ¬ C.I b o ∧ ¬ F b o)
    (htl : ∀ k v cv, Owned C hp tm ct k v cv → ∀ o, ¬ Tail v cv b o) (cs : List AVal) (hl : cs.length ≤ vs0.size) (hc : ∀ (i : Nat) a, cs[i]? = some a → a.one = true ∧ ∃ v, (setsA vs0 off vs)[i]? = some v ∧ RV C a v) :
    C.Le (C.adopt b off vs) ∧ WRel (C.adopt b off vs) B F w0 ((C.nx, .cells (unown cs)) :: hp) tm ct := by
  have hn : (C.adopt b off vs).ι C.nx = b := by simp [Cx.adopt]
  have ho : ∀ i, i < C.nx → (C.adopt b off vs).ι i = C.ι i := fun i hi => by simp [Cx.adopt]; omega
  have hoi : ∀ i, (hget hp i).isSome = true → (C.adopt b off vs).ι i = C.ι i := fun i hi => ho i (h.heap.ids i hi)
  have hother : ∀ k, k ≠ b → (C.adopt b off vs).w.heap[k]? = C.w.heap[k]? := fun k hk => setCells_other _ _ hk _ _ _
  have hsame : (C.adopt b off vs).w.heap[b]? = some (.cells (setsA vs0 off vs) ty (0, 0)) := setCells_block _ _ _ _ hb
  have hcell : ∀ b' o, b' ≠ b → (C.adopt b off vs).w.cell? ⟨b', o, none⟩ = C.w.cell? ⟨b', o, none⟩ := fun b' o hk => World.cell?_of_block (hother b' hk)
  have hfroz : ∀ b' o, b' ≠ b → (C.adopt b off vs).w.frozen? ⟨b', o, none⟩ = C.w.frozen? ⟨b', o, none⟩ := fun b' o hk => World.frozen?_of_block (hother b' hk)
  have hIb : ∀ b' o, C.I b' o → b' ≠ b := fun b' o hI e => (hIF o).1 (e ▸ hI)
  have le : C.Le (C.adopt b off vs) := ⟨Nat.le_succ _, ho, fun _ _ h => h, fun b' o hI => hcell b' o (hIb b' o hI), fun b' o u hu => cell_setCells_ex _ _ _ _ hu⟩
  have hno : hget hp C.nx = none := by
    cases e : hget hp C.nx with
    | none => rfl
    | some b => exact absurd (h.heap.ids C.nx (by rw [e]; rfl)) (Nat.lt_irrefl _)
  have hgn : hget ((C.nx, ABlk.cells (unown cs)) :: hp) C.nx = some (.cells (unown cs)) := by simp [hget]
  have hgo : ∀ i, i ≠ C.nx → hget ((C.nx, ABlk.cells (unown cs)) :: hp) i = hget hp i := fun i hi => by simp [hget, hi]
  have hbl : b < C.w.heap.size := (Array.getElem?_eq_some_iff.1 hb).1
  have hown : ∀ k v cv, Owned (C.adopt b off vs) ((C.nx, .cells (unown cs)) :: hp) tm ct k v cv → Owned C hp tm ct k v cv := by
    intro k v cv ho'
    obtain ⟨i, t⟩ := k
    cases i with
    | zero => exact ho'
    | succ id =>
      obtain ⟨cs', vs', ty', h1, h2, h3, h4⟩ := ho'
      by_cases e : id = C.nx
      · subst e
        rw [hgn] at h1; injection h1 with h1; injection h1 with h1; subst h1
        simp only [unown, List.getElem?_map] at h2
        obtain ⟨y, _, hy⟩ := Option.map_eq_some_iff.1 h2
        cases hy
      · rw [hgo id e] at h1
        have his : (hget hp id).isSome = true := by rw [h1]; rfl
        rw [hoi id his, hother _ (hfree id his)] at h3
        exact ⟨cs', vs', ty', h1, h2, h3, h4⟩
  refine ⟨le, ⟨below_setCells b hB vs off _ h.heap.below, h.heap.base, fun i hi => ?_, fun id cs' hg' => ?_, fun i j hi hj e => ?_, fun i hi => ?_, fun b' o hI => ?_, fun b' o hF => ?_, fun id es hg => (by
    by_cases e : id = C.nx
    · subst e; rw [hgn] at hg; cases hg
    · rw [hgo id e] at hg
      have his : (hget hp id).isSome = true := by rw [hg]; rfl
      exact (h.heap.mapb id es hg).mono le (by rw [hoi id his]; exact hother _ (hfree id his)))⟩, h.size, fun t c ht => ?_, fun k v cv hk => ?_, fun k1 k2 v1 c1 v2 c2 h1 h2 => h.sep k1 k2 v1 c1 v2 c2 (hown _ _ _ h1) (hown _ _ _ h2)⟩
  · by_cases e : i = C.nx
    · subst e; exact Nat.lt_succ_self _
    · rw [hgo i e] at hi; exact Nat.lt_succ_of_lt (h.heap.ids i hi)
  · by_cases e : id = C.nx
    · subst e
      rw [hgn] at hg'; injection hg' with hg'; injection hg' with hg'; subst hg'
      refine ⟨_, ty, by rw [hn]; exact hsame, by simpa [unown, setsA_size] using hl, fun i c hi => ?_⟩
      simp only [unown, List.getElem?_map] at hi
      obtain ⟨y, hy, rfl⟩ := Option.map_eq_some_iff.1 hi
      obtain ⟨q1, v, q2, q3⟩ := hc i y hy
      exact ⟨q1, v, q2, q3.mono le⟩
    · rw [hgo id e] at hg'
      have his : (hget hp id).isSome = true := by rw [hg']; rfl
      obtain ⟨vs', ty', q1, q2, q3⟩ := h.heap.blk id cs' hg'
      refine ⟨vs', ty', by rw [hoi id his, hother _ (hfree id his)]; exact q1, q2, fun i c hi => ?_⟩
      obtain ⟨r1, v, r2, r3⟩ := q3 i c hi
      exact ⟨r1, v, r2, r3.mono le⟩
  · by_cases ei : i = C.nx
    · by_cases ej : j = C.nx
      · rw [ei, ej]
      · rw [hgo j ej] at hj
        rw [ei, hn, hoi j hj] at e
        exact absurd e.symm (hfree j hj)
    · rw [hgo i ei] at hi
      by_cases ej : j = C.nx
      · rw [ej, hn, hoi i hi] at e
        exact absurd e (hfree i hi)
      · rw [hgo j ej] at hj
        rw [hoi i hi, hoi j hj] at e
        exact h.heap.inj i j hi hj e
  · by_cases e : i = C.nx
    · subst e
      rw [hn]
      exact ⟨hB, by show _ < (C.w.setCells _ _ _).heap.size; rw [setCells_size]; exact hbl, hIF⟩
    · rw [hgo i e] at hi
      rw [hoi i hi]
      obtain ⟨q1, q2, q3⟩ := h.heap.out i hi
      exact ⟨q1, by show _ < (C.w.setCells _ _ _).heap.size; rw [setCells_size]; exact q2, q3⟩
  · obtain ⟨u, hu⟩ := h.heap.imm b' o hI
    exact ⟨u, (hcell b' o (hIb b' o hI)).trans hu⟩
  · obtain ⟨⟨u, hu⟩, q0, q⟩ := h.heap.far b' o hF
    have hne : b' ≠ b := fun e => (hIF o).2 (e ▸ hF)
    exact ⟨⟨u, (hcell b' o hne).trans hu⟩, (hfroz b' o hne).trans q0, q⟩
  · obtain ⟨v, q1, q2⟩ := h.tmp t c ht
    exact ⟨v, q1, q2.mono le⟩
  · have hk' := hown k v cv hk
    have q := h.own k v cv hk'
    refine ⟨q.form, fun b' o t => ?_⟩
    obtain ⟨a1, a2, a3, a4, ⟨u, a5⟩, a6⟩ := q.cells b' o t
    have hne : b' ≠ b := fun e => htl k v cv hk' o (e ▸ t)
    refine ⟨a1, a2, a3, fun id hid => ?_, ⟨u, (hcell b' o hne).trans a5⟩, (hfroz b' o hne).trans a6⟩
    by_cases e : id = C.nx
    · subst e; rw [hn]; exact hne
    · rw [hgo id e] at hid
      rw [hoi id hid]; exact a4 id hid
theorem WRel.drew (h : WRel C B F w0 hp tm ct) : ∃ D : Cx, D.w = C.w.drew ∧ C.Le D ∧ D.nx = C.nx ∧ WRel D B F w0 hp tm ct := by
  have g : Grow C { C with w := C.w.drew } := ⟨(Below.refl _ _).drew, Nat.le_refl _, fun _ _ => rfl, fun _ _ h => h, fun _ _ h => .inl h, fun b o hI hb => by
    obtain ⟨u, hu⟩ := h.heap.imm b o hI
    have := cell_lt hu
    omega⟩
  exact ⟨_, rfl, h.heap.le g, rfl, h.grow g⟩
/-- What append takes the second argument for. -/
theorem cellsOf_run (h : HOk C B F w0 hp) {e : TypeId} {y : AVal} {k : Nat} {ys : List AVal} (hy : cellsOf P e y hp = some (k, ys)) {cy : Value} (hr : RV C y cy) :
    ∃ A2 c2, ∃ vs2 : List Value, cy = .slice A2 k c2 ∧ vs2.length = k * sizeT P e ∧ ys.length = k * sizeT P e ∧ (∀ (i : Nat) v, vs2[i]? = some v → ∃ b o, A2 = some ⟨b, o, none⟩ ∧ C.w.cell? ⟨b, o + i, none⟩ = some v) ∧
      ∀ (i : Nat) u, ys[i]? = some u → u.one = true ∧ ∃ v, vs2[i]? = some v ∧ RV C u v := by
  unfold cellsOf at hy
  split at hy
  · rename_i zs
    split at hy
    · rename_i hall
      injection hy with hy; injection hy with e1 e2; subst e1 e2
      obtain ⟨A, c, sz, rfl, hc, hpz, hs, h1, vs, hvl, hvm, hvr⟩ := hr.lst_inv
      have hs' : ∀ x, x ∈ zs → x.flat.length = sizeT P e := fun x hx => by
        have := List.all_eq_true.1 hall x hx
        simpa using this
      have hl := flats_len hs'
      refine ⟨A, c, vs, rfl, by rw [hvl, hl], hl, fun i v hi => let ⟨b, o, q1, _, q3⟩ := hvm i v hi; ⟨b, o, q1, q3⟩, fun i u hu => ⟨h1 u (List.mem_of_getElem? hu), ?_⟩⟩
      have hlt := (List.getElem?_eq_some_iff.1 hu).1
      have hv := List.getElem?_eq_getElem (l := vs) (i := i) (by omega)
      exact ⟨_, hv, hvr i u _ hu hv⟩
    · cases hy
  · rename_i id off n sz ag
    split at hy
    · rename_i cs hg
      split at hy
      · rename_i hc
        obtain ⟨rfl, hle⟩ := hc
        injection hy with hy; injection hy with e1 e2; subst e1 e2
        obtain ⟨c, rfl, hid, hcl, hx⟩ := hr.sl_inv
        obtain ⟨vs, ty, hb, hsz, hcs⟩ := h.blk id cs hg
        have hcell : ∀ i, C.w.cell? ⟨C.ι id, i, none⟩ = vs[i]? := fun i => by simp [World.cell?, hb]
        refine ⟨_, c, (vs.toList.drop off).take (n * sizeT P e), rfl, by simp; omega, by simp; omega, fun i v hi => ⟨_, _, rfl, ?_⟩, fun i u hu => ?_⟩
        · rw [List.getElem?_take] at hi
          split at hi
          · rw [List.getElem?_drop, Array.getElem?_toList] at hi
            rw [hcell]; exact hi
          · cases hi
        · rw [List.getElem?_map, List.getElem?_take] at hu
          split at hu
          · rename_i hi
            rw [List.getElem?_drop] at hu
            obtain ⟨c', hc', rfl⟩ := Option.map_eq_some_iff.1 hu
            obtain ⟨q1, v, q2, q3⟩ := hcs _ c' hc'
            refine ⟨q1, v, ?_, q3⟩
            rw [List.getElem?_take, if_pos hi, List.getElem?_drop, Array.getElem?_toList]
            exact q2
          · cases hu
      · cases hy
    · cases hy
  · cases hy
/-- A new array, behind a draw. -/
theorem WRel.grown (h : WRel C B F w0 hp tm ct) (cs : List AVal) (blk : Array Value) (e : TypeId) (hl : cs.length ≤ blk.size) (hc : ∀ (i : Nat) a, cs[i]? = some a → a.one = true ∧ ∃ v, blk[i]? = some v ∧ RV C a v) (n cap sz : Nat) (ag : Bool) (hcap : cap * sz ≤ blk.size) (hn : n ≤ cap) :
    ∃ D : Cx, D.w = C.w.drew.alloc (.cells blk e) ∧ C.Le D ∧ D.nx = C.nx + 1 ∧ WRel D B F w0 ((C.nx, .cells (unown cs)) :: hp) tm ct ∧ RV D (.sl C.nx 0 n sz ag) (.slice (some ⟨C.w.heap.size, 0, none⟩) n cap) := by
  obtain ⟨E, hw, le, hx, hW⟩ := h.drew
  have hsz : E.w.heap.size = C.w.heap.size := by rw [hw]; rfl
  obtain ⟨hT, _⟩ := hW.track (unown cs) blk e (by simpa [unown] using hl) (fun i c hi => by
    simp only [unown, List.getElem?_map] at hi
    obtain ⟨y, hy, rfl⟩ := Option.map_eq_some_iff.1 hi
    obtain ⟨r1, v, r2, r3⟩ := hc i y hy
    exact ⟨r1, v, r2, r3.mono le, fun hf => by cases hf⟩)
  have hι : (E.track blk e).ι E.nx = E.w.heap.size := by simp [Cx.track]
  rw [← hx, ← hsz]
  refine ⟨E.track blk e, by show E.w.alloc _ = _; rw [hw], le.trans (hW.heap.le (hW.heap.grow_track blk e)), rfl, hT, ?_⟩
  have := RV.sl (C := E.track blk e) E.nx 0 n sz cap ag (Nat.lt_succ_self _) hn (fun o ho => ⟨blk[o]'(by omega), by
    rw [hι]
    exact (cell_new E.w blk e o).trans (Array.getElem?_eq_getElem (by omega))⟩)
  rw [hι] at this
  exact this
/-- append to an array that changes. -/
theorem WRel.append_sl (h : WRel C B F w0 hp tm ct) {id n : Nat} {ag : Bool} {cs : List Cell} {cx cy : Value} {y : AVal} {k : Nat} {ys : List AVal} (t t2 ty e e2 : TypeId) (i : TypeInfo) (z : Value) (ht : P.underlying t = some (.slice e)) (ht2 : P.underlying t2 = some (.slice e2)) (hi : P.info? e = some i) (hz : i.zero = some z) (hzs : z.cells.size = i.size) (hbz : i.bytes ≠ 0) (hpos : 0 < i.size)
    (hx : RV C (.sl id 0 n i.size ag) cx) (hg : hget hp id = some (.cells cs)) (hle : n * i.size ≤ cs.length) (hy : cellsOf P e y hp = some (k, ys)) (hyr : RV C y cy) (hb : (n + k) * i.bytes ≤ 140737488355328) (ag' : Bool) :
    ∃ D cv, (Builtin.append_ #[t, t2] ty #[cx, cy]).run P C.w = .ok cv D.w ∧ C.Le D ∧ D.nx = C.nx + 1 ∧ WRel D B F w0 ((C.nx, .cells (unown ((cs.take (n * i.size)).map (·.1) ++ ys))) :: M.hdel hp id) tm ct ∧ RV D (.sl C.nx 0 (n + k) i.size ag') cv := by
  have hsi : sizeT P e = i.size := by simp [sizeT, hi]
  obtain ⟨A2, c2, vs2, rfl, hv2, hyl, hvm, hvr⟩ := cellsOf_run (P := P) h.heap hy hyr
  rw [hsi] at hv2 hyl
  obtain ⟨c, rfl, hid, hcl, hxc⟩ := hx.sl_inv
  obtain ⟨vs0, ty0, hb0, hsz0, hcs⟩ := h.heap.blk id cs hg
  have hs : (hget hp id).isSome = true := by rw [hg]; rfl
  have hcell : ∀ i, C.w.cell? ⟨C.ι id, i, none⟩ = vs0[i]? := fun i => by simp [World.cell?, hb0]
  have hd2 : ∀ k, (TypeDesc.slice e2) ≠ .int k := fun k q => by cases q
  have hlenY : (Builtin.lenOf (.slice A2 k c2)).run P C.w = .ok k C.w := rfl
  have hD := h.hdel id
  have hone : ∀ v ∈ vs2, v.oneCell' = true := by
    intro v hv
    obtain ⟨j, hj⟩ := List.getElem?_of_mem hv
    have hjl := (List.getElem?_eq_some_iff.1 hj).1
    obtain ⟨q1, v', q2, q3⟩ := hvr j _ (List.getElem?_eq_getElem (l := ys) (i := j) (by omega))
    rw [hj] at q2; injection q2 with q2; subst q2
    exact q3.one_cell q1
  have hold : ∀ (j : Nat) a, ((cs.take (n * i.size)).map (·.1))[j]? = some a → j < n * i.size ∧ a.one = true ∧ ∃ v, vs0[j]? = some v ∧ RV C a v := by
    intro j a ha
    rw [List.getElem?_map, List.getElem?_take] at ha
    split at ha
    · rename_i hj
      obtain ⟨c', hc', rfl⟩ := Option.map_eq_some_iff.1 ha
      obtain ⟨q1, v, q2, q3⟩ := hcs _ c' hc'
      exact ⟨hj, q1, v, q2, q3⟩
    · cases ha
  have hol : ((cs.take (n * i.size)).map (·.1)).length = n * i.size := by simp; omega
  by_cases hfit : n + k ≤ c
  · have hmul := Nat.mul_le_mul_right i.size hfit
    rw [Nat.add_mul] at hmul
    have hroom : n * i.size + k * i.size ≤ vs0.size := by
      rcases Nat.eq_zero_or_pos (n * i.size + k * i.size) with h0 | h0
      · omega
      · obtain ⟨u, hu⟩ := hxc (n * i.size + k * i.size - 1) (by omega)
        rw [hcell] at hu
        have := (Array.getElem?_eq_some_iff.1 hu).1
        omega
    have hst : (storeCells ((⟨C.ι id, 0, none⟩ : Addr).add (n * i.size)) vs2).run P C.w = .ok () (C.w.setCells (C.ι id) (n * i.size) vs2) := by
      have h2 := run_storeCells_cells (P := P) (C.ι id) (n * i.size) vs2 0 C.w (fun j hj => by
        rw [Nat.add_zero, hcell, Array.getElem?_eq_getElem (by omega)]; rfl) (fun j hj => by simp [World.frozen?, hb0]) hone
      rw [Nat.add_zero] at h2
      rw [add_at, Nat.zero_add]
      exact h2
    obtain ⟨o1, o2, o3⟩ := h.heap.out id hs
    obtain ⟨le, hW⟩ := hD.adopt (C.ι id) (n * i.size) vs2 hb0 o1 (fun j hj e => by
      rw [hget_hdel] at hj
      split at hj
      · cases hj
      · rename_i hne
        exact hne (h.heap.inj j id hj hs e)) o3 (fun q v cv hq o t => by
      have hq' : Owned C hp tm ct q v cv := by
        obtain ⟨a, b⟩ := q
        cases a with
        | zero => exact hq
        | succ j =>
          obtain ⟨cs', vs', ty', g1, g2⟩ := hq
          rw [hget_hdel] at g1
          split at g1
          · cases g1
          · exact ⟨cs', vs', ty', g1, g2⟩
      exact ((h.own q v cv hq').cells _ _ t).2.2.2.1 id hs rfl) ((cs.take (n * i.size)).map (·.1) ++ ys) (by rw [List.length_append, hol, hyl]; exact hroom) (fun j a ha => by
      rcases Nat.lt_or_ge j (n * i.size) with hlt | hge
      · rw [List.getElem?_append_left (by omega)] at ha
        obtain ⟨_, q1, v, q2, q3⟩ := hold j a ha
        exact ⟨q1, v, by rw [setsA_get, if_neg (by omega)]; exact q2, q3⟩
      · rw [List.getElem?_append_right (by omega), hol] at ha
        obtain ⟨q1, v, q2, q3⟩ := hvr _ a ha
        have hjl := (List.getElem?_eq_some_iff.1 q2).1
        exact ⟨q1, v, by rw [setsA_get, if_pos (by omega)]; exact q2, q3⟩)
    refine ⟨_, _, run_append_in (P := P) C.w t t2 ty e i _ ht ht2 hd2 hi _ n c k (.slice A2 k c2) vs2 hlenY (run_first (P := P) C.w i.size k c2 A2 vs2 hv2 hvm) hfit _ (fun a ha => by injection ha with ha; subst ha; exact hst) (fun q => by cases q), le, rfl, hW, ?_⟩
    have hn : (C.adopt (C.ι id) (n * i.size) vs2).ι C.nx = C.ι id := by simp [Cx.adopt]
    have := RV.sl (C := C.adopt (C.ι id) (n * i.size) vs2) C.nx 0 (n + k) i.size c ag' (Nat.lt_succ_self _) hfit (fun o ho => by
      rw [hn]
      obtain ⟨u, hu⟩ := hxc o ho
      exact cell_setCells_ex _ _ _ _ hu)
    rw [hn] at this
    exact this
  · have hf := run_first (P := P) C.w.drew i.size k c2 A2 vs2 hv2 hvm
    have holdl : (vs0.toList.take (n * i.size)).length = n * i.size := by simp; omega
    have hfo := run_first (P := P) C.w.drew i.size n c (some ⟨C.ι id, 0, none⟩) (vs0.toList.take (n * i.size)) holdl (fun j v hj => ⟨_, _, rfl, by
      rw [List.getElem?_take] at hj
      split at hj
      · show C.w.cell? _ = _
        rw [Nat.zero_add, hcell, ← Array.getElem?_toList]; exact hj
      · cases hj⟩)
    have hrun := run_append_out (P := P) C.w t t2 ty e i z _ ht ht2 hd2 hi hz _ n c k (.slice A2 k c2) _ vs2 hlenY hfit hf hfo hb hbz
    generalize hcap : grownCap C.w (n + k) c e = cap at hrun
    have hcapge : n + k ≤ cap := by rw [← hcap]; exact grownCap_ge _ _ _ _
    generalize hblk : (vs0.toList.take (n * i.size)).toArray ++ vs2.toArray ++ Builtin.zeroCells z.cells (cap - (n + k)) = blk at hrun
    have hbs : blk.size = cap * i.size := by
      rw [← hblk]
      simp only [Array.size_append, List.size_toArray, size_zeroCells, hzs, holdl, hv2]
      rw [← Nat.add_mul, ← Nat.add_mul]
      congr 1
      omega
    have hbl : ∀ (j : Nat) (v : Value), (vs0.toList.take (n * i.size) ++ vs2)[j]? = some v → blk[j]? = some v := by
      intro j v hj
      have hjl := (List.getElem?_eq_some_iff.1 hj).1
      rw [List.length_append] at hjl
      rw [← hblk, Array.getElem?_append_left (by simpa using hjl), List.append_toArray]
      simpa using hj
    have hmul := Nat.mul_le_mul_right i.size hcapge
    rw [Nat.add_mul] at hmul
    obtain ⟨D, hw, le, hx', hW, hrv⟩ := hD.grown ((cs.take (n * i.size)).map (·.1) ++ ys) blk e (by rw [List.length_append, hol, hyl, hbs]; exact hmul) (fun j a ha => by
      rcases Nat.lt_or_ge j (n * i.size) with hlt | hge
      · rw [List.getElem?_append_left (by omega)] at ha
        obtain ⟨hj, q1, v, q2, q3⟩ := hold j a ha
        refine ⟨q1, v, hbl j v ?_, q3⟩
        rw [List.getElem?_append_left (by omega), List.getElem?_take, if_pos hj, Array.getElem?_toList]
        exact q2
      · rw [List.getElem?_append_right (by omega), hol] at ha
        obtain ⟨q1, v, q2, q3⟩ := hvr _ a ha
        refine ⟨q1, v, hbl j v ?_, q3⟩
        rw [List.getElem?_append_right (by omega), holdl]
        exact q2) (n + k) cap i.size ag' (by omega) hcapge
    exact ⟨D, _, by rw [hw]; exact hrun, le, hx', hW, hrv⟩
/-- append of something to nil. -/
theorem WRel.append_nil (h : WRel C B F w0 hp tm ct) {cy : Value} {y : AVal} {k : Nat} {ys : List AVal} (t t2 ty e e2 : TypeId) (i : TypeInfo) (z : Value) (ht : P.underlying t = some (.slice e)) (ht2 : P.underlying t2 = some (.slice e2)) (hi : P.info? e = some i) (hz : i.zero = some z) (hzs : z.cells.size = i.size) (hbz : i.bytes ≠ 0)
    (hy : cellsOf P e y hp = some (k, ys)) (hyr : RV C y cy) (hk : k ≠ 0) (hb : k * i.bytes ≤ 140737488355328) (ag' : Bool) (A : Option Addr) :
    ∃ D cv, (Builtin.append_ #[t, t2] ty #[.slice A 0 0, cy]).run P C.w = .ok cv D.w ∧ C.Le D ∧ D.nx = C.nx + 1 ∧ WRel D B F w0 ((C.nx, .cells (unown ys)) :: hp) tm ct ∧ RV D (.sl C.nx 0 k i.size ag') cv := by
  have hsi : sizeT P e = i.size := by simp [sizeT, hi]
  obtain ⟨A2, c2, vs2, rfl, hv2, hyl, hvm, hvr⟩ := cellsOf_run (P := P) h.heap hy hyr
  rw [hsi] at hv2 hyl
  have hd2 : ∀ k, (TypeDesc.slice e2) ≠ .int k := fun k q => by cases q
  have hlenY : (Builtin.lenOf (.slice A2 k c2)).run P C.w = .ok k C.w := rfl
  have hf := run_first (P := P) C.w.drew i.size k c2 A2 vs2 hv2 hvm
  have hfo := run_first (P := P) C.w.drew i.size 0 0 A [] (by simp) (fun j v hj => by simp at hj)
  have hrun := run_append_out (P := P) C.w t t2 ty e i z _ ht ht2 hd2 hi hz A 0 0 k (.slice A2 k c2) [] vs2 hlenY (by omega) hf hfo (by simpa using hb) hbz
  generalize hcap : grownCap C.w (0 + k) 0 e = cap at hrun
  have hcapge : k ≤ cap := by have := grownCap_ge C.w (0 + k) 0 e; omega
  generalize hblk : ([] : List Value).toArray ++ vs2.toArray ++ Builtin.zeroCells z.cells (cap - (0 + k)) = blk at hrun
  have hbs : blk.size = cap * i.size := by
    rw [← hblk]
    simp only [Array.size_append, List.size_toArray, size_zeroCells, hzs, hv2, List.length_nil, Nat.zero_add]
    rw [← Nat.add_mul]
    congr 1
    omega
  have hbl : ∀ (j : Nat) (v : Value), vs2[j]? = some v → blk[j]? = some v := by
    intro j v hj
    have hjl := (List.getElem?_eq_some_iff.1 hj).1
    rw [← hblk, Array.getElem?_append_left (by simpa using hjl)]
    simpa using hj
  have hmul := Nat.mul_le_mul_right i.size hcapge
  obtain ⟨D, hw, le, hx', hW, hrv⟩ := h.grown ys blk e (by rw [hyl, hbs]; exact hmul) (fun j a ha => by
    obtain ⟨q1, v, q2, q3⟩ := hvr j a ha
    exact ⟨q1, v, hbl j v q2, q3⟩) k cap i.size ag' (by omega) hcapge
  rw [Nat.zero_add] at hrun
  exact ⟨D, _, by rw [hw]; exact hrun, le, hx', hW, hrv⟩
end
end Go.Proofs.YtleimfinniclgaaDoor.M
