/- append of lists. -/
import Derived.Test.YtleimfinniclgaaDoorME
namespace Go.Proofs.YtleimfinniclgaaDoor.M
open Go.RowKit
set_option linter.unusedVariables false
set_option linter.unusedSimpArgs false

theorem flats_append (xs ys : List AVal) : flats (xs ++ ys) = flats xs ++ flats ys := by simp [flats]
section
variable {P : Program} {C : Cx} {B : Nat} {F : Nat → Nat → Prop} {w0 : World} {hp : Heap} {tm : List Cell} {ct : Array Value}

theorem RV.one_cell {v : AVal} {cv : Value} (h : RV C v cv) (h1 : v.one = true) : cv.oneCell' = true := by
  cases h <;> first | rfl | (simp [AVal.one] at h1)
/-- What a list is in memory. -/
theorem RV.lst_inv {xs : List AVal} {cv : Value} (h : RV C (.lst xs) cv) : ∃ A c sz, cv = .slice A xs.length c ∧ xs.length ≤ c ∧ (xs ≠ [] → 0 < sz) ∧ (∀ x, x ∈ xs → x.flat.length = sz) ∧ (∀ u, u ∈ flats xs → u.one = true) ∧
    ∃ vs : List Value, vs.length = (flats xs).length ∧ (∀ (i : Nat) v, vs[i]? = some v → ∃ b o, A = some ⟨b, o, none⟩ ∧ C.I b (o + i) ∧ C.w.cell? ⟨b, o + i, none⟩ = some v) ∧ ∀ (i : Nat) u v, (flats xs)[i]? = some u → vs[i]? = some v → RV C u v := by
  cases h with
  | lst _ A c sz cu hc hz hs h1 hm h =>
    refine ⟨A, c, sz, rfl, hc, hz, hs, h1, (List.range (flats xs).length).map cu, by simp, fun i v hi => ?_, fun i u v hu hi => ?_⟩
    · rw [List.getElem?_map] at hi
      obtain ⟨j, hj, rfl⟩ := Option.map_eq_some_iff.1 hi
      have hlt := (List.getElem?_eq_some_iff.1 hj).1
      simp at hlt
      rw [List.getElem?_range hlt] at hj
      injection hj with hj; subst hj
      exact hm i _ (List.getElem?_eq_getElem hlt)
    · rw [List.getElem?_map] at hi
      obtain ⟨j, hj, rfl⟩ := Option.map_eq_some_iff.1 hi
      have hlt := (List.getElem?_eq_some_iff.1 hu).1
      rw [List.getElem?_range hlt] at hj
      injection hj with hj; subst hj
      exact h i u hu
theorem RV.lst_mk {xs : List AVal} {A : Option Addr} {c sz : Nat} (hc : xs.length ≤ c) (hz : xs ≠ [] → 0 < sz) (hs : ∀ x, x ∈ xs → x.flat.length = sz) (h1 : ∀ u, u ∈ flats xs → u.one = true)
    (vs : List Value) (hl : vs.length = (flats xs).length) (hm : ∀ (i : Nat) v, vs[i]? = some v → ∃ b o, A = some ⟨b, o, none⟩ ∧ C.I b (o + i) ∧ C.w.cell? ⟨b, o + i, none⟩ = some v) (h : ∀ (i : Nat) u v, (flats xs)[i]? = some u → vs[i]? = some v → RV C u v) : RV C (.lst xs) (.slice A xs.length c) := by
  refine .lst xs A c sz (fun i => vs.getD i undef) hc hz hs h1 (fun i u hu => ?_) (fun i u hu => ?_)
  · have hlt := (List.getElem?_eq_some_iff.1 hu).1
    have hv : vs[i]? = some (vs.getD i undef) := by rw [List.getD_eq_getElem?_getD, List.getElem?_eq_getElem (by omega)]; rfl
    exact hm i _ hv
  · have hlt := (List.getElem?_eq_some_iff.1 hu).1
    exact h i u _ hu (by rw [List.getD_eq_getElem?_getD, List.getElem?_eq_getElem (by omega)]; rfl)
theorem tail_of {xs : List AVal} {b o c sz : Nat} (hne : xs ≠ []) (hs : ∀ x, x ∈ xs → x.flat.length = sz) {b' o' : Nat} : Tail (.lst xs) (.slice (some ⟨b, o, none⟩) xs.length c) b' o' ↔ b' = b ∧ o + xs.length * sz ≤ o' ∧ o' < o + c * sz := by
  constructor
  · rintro ⟨xs', a, n, c', x, r, h1, h2, h3, h4, h5, h6⟩
    injection h1 with h1; subst h1
    injection h2 with h2 _ h7; injection h2 with h2; subst h2 h7
    rw [flats_len hs] at h5
    rw [hs x (by rw [h3]; exact List.mem_cons_self ..)] at h6
    exact ⟨h4, h5, h6⟩
  · rintro ⟨h1, h2, h3⟩
    obtain ⟨x, r, e⟩ := List.exists_cons_of_ne_nil hne
    exact ⟨xs, ⟨b, o, none⟩, xs.length, c, x, r, rfl, rfl, e, h1, by rw [flats_len hs]; exact h2, by rw [hs x (by rw [e]; exact List.mem_cons_self ..)]; exact h3⟩
theorem len_le_of {α : Type} {xs : List α} {n m : Nat} (h : n ≤ m) (k : Nat) : n * k ≤ m * k := Nat.mul_le_mul_right k h

theorem Owned.ne_drop {s : Nat} {v : AVal} {k : Nat × Nat} {v' : AVal} {cv' : Value} (ho : Owned C hp (tm.set s (v, false)) ct k v' cv') : k ≠ (0, s) ∧ Owned C hp tm ct k v' cv' := by
  obtain ⟨i, t⟩ := k
  cases i with
  | zero =>
    obtain ⟨h1, h2⟩ := ho
    rw [List.getElem?_set] at h1
    by_cases e : s = t
    · subst e
      rw [if_pos rfl] at h1
      split at h1 <;> simp at h1
    · rw [if_neg e] at h1
      exact ⟨by simp; exact fun q => e q.symm, h1, h2⟩
  | succ j => exact ⟨by simp, ho⟩

/-- append(x, ys..): what is appended to is owned. -/
theorem WRel.append (h : WRel C B F w0 hp tm ct) {s : Nat} {xs ys : List AVal} {cx cy : Value} (hs : tm[s]? = some (.lst xs, true)) (hcs : ct[s]? = some cx) (hy : RV C (.lst ys) cy)
    (t t2 ty e e2 : TypeId) (i : TypeInfo) (z : Value) (ht : P.underlying t = some (.slice e)) (ht2 : P.underlying t2 = some (.slice e2)) (hi : P.info? e = some i) (hz : i.zero = some z) (hzs : z.cells.size = i.size) (hbz : i.bytes ≠ 0)
    (hsx : ∀ x r, xs = x :: r → x.flat.length = i.size) (hsy : ∀ y r, ys = y :: r → y.flat.length = i.size) (hb : (xs.length + ys.length) * i.bytes ≤ 140737488355328) :
    ∃ D cv, (Builtin.append_ #[t, t2] ty #[cx, cy]).run P C.w = .ok cv D.w ∧ C.Le D ∧ D.nx = C.nx ∧ WRel D B F w0 hp (tm.set s (.lst xs, false)) ct ∧ RV D (.lst (xs ++ ys)) cv ∧ OwnOk D B F hp (.lst (xs ++ ys)) cv ∧
      ∀ k v' cv', Owned D hp (tm.set s (.lst xs, false)) ct k v' cv' → ∀ b o, Tail (.lst (xs ++ ys)) cv b o → ¬ Tail v' cv' b o := by
  have ow : Owned C hp tm ct (0, s) (.lst xs) cx := ⟨hs, hcs⟩
  have ok := h.own _ _ _ ow
  obtain ⟨u, hu1, hx⟩ := h.tmp s _ hs
  rw [hcs] at hu1; injection hu1 with hu1; subst hu1
  obtain ⟨A, c, sz, rfl, hc, hpz, hsz, h1, vs, hvl, hvm, hvr⟩ := hx.lst_inv
  obtain ⟨A2, c2, sz2, rfl, hc2, hpz2, hsz2, h12, vs2, hvl2, hvm2, hvr2⟩ := hy.lst_inv
  have hform : xs = [] → c = 0 := by
    obtain ⟨xs', A', n', c', e1, e2', e3⟩ := ok.form
    injection e1 with e1; subst e1
    injection e2' with _ _ e4; subst e4
    exact e3
  have hX : ∀ x, x ∈ xs → x.flat.length = i.size := by
    cases hxs : xs with
    | nil => intro x hx; cases hx
    | cons x r =>
      have e1 := hsx x r hxs
      have e2' := hsz x (by rw [hxs]; exact List.mem_cons_self ..)
      intro y hy
      rw [hsz y (by rw [hxs]; exact hy), ← e2', e1]
  have hY : ∀ y, y ∈ ys → y.flat.length = i.size := by
    cases hys : ys with
    | nil => intro x hx; cases hx
    | cons x r =>
      have e1 := hsy x r hys
      have e2' := hsz2 x (by rw [hys]; exact List.mem_cons_self ..)
      intro y hy
      rw [hsz2 y (by rw [hys]; exact hy), ← e2', e1]
  have hipos : ys ≠ [] → 0 < i.size := fun hne => by
    obtain ⟨y, r, e⟩ := List.exists_cons_of_ne_nil hne
    have := hpz2 hne
    rw [← hY y (by rw [e]; exact List.mem_cons_self ..), hsz2 y (by rw [e]; exact List.mem_cons_self ..)]
    exact this
  have hiposx : xs ≠ [] → 0 < i.size := fun hne => by
    obtain ⟨y, r, e⟩ := List.exists_cons_of_ne_nil hne
    have := hpz hne
    rw [← hX y (by rw [e]; exact List.mem_cons_self ..), hsz y (by rw [e]; exact List.mem_cons_self ..)]
    exact this
  have lx := flats_len hX
  have ly := flats_len hY
  have hXY : ∀ x, x ∈ xs ++ ys → x.flat.length = i.size := fun x hx => (List.mem_append.1 hx).elim (hX x) (hY x)
  have hXYpos : xs ++ ys ≠ [] → 0 < i.size := fun hne => by
    by_cases e : xs = []
    · subst e; exact hipos (by simpa using hne)
    · exact hiposx e
  have h1XY : ∀ u, u ∈ flats (xs ++ ys) → u.one = true := fun u hu => by
    rw [flats_append] at hu
    exact (List.mem_append.1 hu).elim (h1 u) (h12 u)
  have hlenY : (Builtin.lenOf (.slice A2 ys.length c2)).run P C.w = .ok ys.length C.w := rfl
  have hd2 : ∀ k, (TypeDesc.slice e2) ≠ .int k := fun k q => by cases q
  by_cases hfit : xs.length + ys.length ≤ c
  · by_cases hy0 : ys = []
    · subst hy0
      refine ⟨C, .slice A xs.length c, ?_, Cx.Le.refl C, rfl, h.drop s hs, by simpa using hx, by simpa using ok, fun k v' cv' ho b o ht => ?_⟩
      · have hf := run_first (P := P) C.w i.size 0 c2 A2 [] (by simp) (fun i v hi => by simp at hi)
        have := run_append_in (P := P) C.w t t2 ty e i _ ht ht2 hd2 hi A xs.length c 0 (.slice A2 0 c2) [] rfl hf (by simpa using hfit) C.w (fun a _ => rfl) (fun _ => rfl)
        simpa using this
      · obtain ⟨q1, q2⟩ := Owned.ne_drop ho
        rw [List.append_nil] at ht
        exact h.sep _ _ _ _ _ _ ow q2 (fun q => q1 q.symm) b o ht
    · have hyp := hipos hy0
      have hyl : 0 < ys.length := List.length_pos_iff.2 hy0
      have hx0 : xs ≠ [] := fun q => by have := hform q; subst q; simp at hfit; omega
      have hxl : 0 < xs.length := List.length_pos_iff.2 hx0
      have hvpos : 0 < vs.length := by rw [hvl, lx]; exact Nat.mul_pos hxl hyp
      obtain ⟨b, o, rfl, _, _⟩ := hvm 0 _ (List.getElem?_eq_getElem hvpos)
      have hv2l : vs2.length = ys.length * i.size := by rw [hvl2, ly]
      have hv2ne : vs2 ≠ [] := by
        intro q
        rw [q] at hv2l
        have := Nat.mul_pos hyl hyp
        simp at hv2l
        omega
      have hmul : (xs.length + ys.length) * i.size ≤ c * i.size := Nat.mul_le_mul_right _ hfit
      rw [Nat.add_mul] at hmul
      have hin : ∀ o', o + xs.length * i.size ≤ o' → o' < o + xs.length * i.size + vs2.length → Tail (.lst xs) (.slice (some ⟨b, o, none⟩) xs.length c) b o' := fun o' a1 a2 => (tail_of hx0 hX).2 ⟨rfl, a1, by omega⟩
      obtain ⟨le, hD⟩ := h.fill hs hcs b (o + xs.length * i.size) vs2 hv2ne hin
      have hone : ∀ v ∈ vs2, v.oneCell' = true := by
        intro v hv
        obtain ⟨j, hj⟩ := List.getElem?_of_mem hv
        have hjl := (List.getElem?_eq_some_iff.1 hj).1
        have hu := List.getElem?_eq_getElem (l := flats ys) (i := j) (by omega)
        exact (hvr2 j _ v hu hj).one_cell (h12 _ (List.getElem_mem ..))
      have hst : (storeCells (⟨b, o + xs.length * i.size, none⟩ : Addr) vs2).run P C.w = .ok () (C.fill b (o + xs.length * i.size) vs2).w := by
        refine (run_storeCells_cells (P := P) b (o + xs.length * i.size) vs2 0 C.w (fun j hj => ?_) (fun j hj => ?_) hone)
        · obtain ⟨_, _, _, _, ⟨u, hu⟩, _⟩ := ok.cells b (o + xs.length * i.size + 0 + j) (hin _ (by omega) (by omega))
          rw [hu]; rfl
        · exact (ok.cells b (o + xs.length * i.size + 0 + j) (hin _ (by omega) (by omega))).2.2.2.2.2
      refine ⟨_, .slice (some ⟨b, o, none⟩) (xs.length + ys.length) c, ?_, le, rfl, hD, ?_, ?_, fun k v' cv' ho b' o' ht => ?_⟩
      · have hf := run_first (P := P) C.w i.size ys.length c2 A2 vs2 hv2l (fun i v hi => by obtain ⟨b', o', e1, _, e3⟩ := hvm2 i v hi; exact ⟨b', o', e1, e3⟩)
        refine run_append_in (P := P) C.w t t2 ty e i _ ht ht2 hd2 hi _ xs.length c ys.length (.slice A2 ys.length c2) vs2 rfl hf hfit _ (fun a ha => ?_) (fun q => by cases q)
        injection ha with ha; subst ha
        rw [add_at]
        exact hst
      · rw [← List.length_append]
        refine RV.lst_mk (by simpa using hfit) hXYpos hXY h1XY (vs ++ vs2) (by rw [flats_append, List.length_append, List.length_append, hvl, hvl2]) (fun j v hj => ⟨b, o, rfl, ?_⟩) (fun j u v hu hj => ?_)
        · rcases Nat.lt_or_ge j vs.length with hlt | hge
          · rw [List.getElem?_append_left hlt] at hj
            obtain ⟨b', o', e1, e2', e3⟩ := hvm j v hj
            injection e1 with e1; injection e1 with e1 e1'; subst e1 e1'
            exact ⟨.inl e2', (le.cell _ _ e2').trans e3⟩
          · rw [List.getElem?_append_right hge] at hj
            have hjl := (List.getElem?_eq_some_iff.1 hj).1
            have e4 : o + j = o + xs.length * i.size + (j - vs.length) := by rw [← lx, ← hvl]; omega
            rw [e4]
            refine ⟨.inr ⟨rfl, by omega, by omega⟩, ?_⟩
            have := World.cell?_setCells_in b vs2 (o + xs.length * i.size) C.w (fun k hk => by
              obtain ⟨_, _, _, _, ⟨u, hu⟩, _⟩ := ok.cells b (o + xs.length * i.size + k) (hin _ (by omega) (by omega))
              rw [hu]; rfl) (j - vs.length) hjl
            rw [(List.getElem?_eq_some_iff.1 hj).2] at this
            exact this
        · rw [flats_append] at hu
          rcases Nat.lt_or_ge j vs.length with hlt | hge
          · rw [List.getElem?_append_left hlt] at hj
            rw [List.getElem?_append_left (by omega)] at hu
            exact (hvr j u v hu hj).mono le
          · rw [List.getElem?_append_right hge] at hj
            rw [List.getElem?_append_right (by omega), ← hvl] at hu
            exact (hvr2 _ u v hu hj).mono le
      · refine ⟨⟨xs ++ ys, _, _, c, rfl, rfl, fun q => absurd (List.append_eq_nil_iff.1 q).1 hx0⟩, fun b' o' ht => ?_⟩
        rw [← List.length_append] at ht
        have ht' := (tail_of (fun q => hx0 (List.append_eq_nil_iff.1 q).1) hXY).1 ht
        obtain ⟨rfl, t1, t2'⟩ := ht'
        rw [List.length_append, Nat.add_mul] at t1
        have htl : Tail (.lst xs) (.slice (some ⟨b', o, none⟩) xs.length c) b' o' := (tail_of hx0 hX).2 ⟨rfl, by omega, t2'⟩
        obtain ⟨a1, a2, a3, a4, ⟨u, a5⟩, a6⟩ := ok.cells b' o' htl
        refine ⟨a1, fun hI => ?_, a3, a4, ⟨u, ?_⟩, (World.frozen?_setCells b' vs2 _ C.w _).trans a6⟩
        · rcases hI with hI | ⟨_, _, hI⟩
          · exact a2 hI
          · omega
        · refine (World.cell?_setCells_out b' vs2 _ C.w ⟨b', o', none⟩ fun _ _ => .inr ?_).trans a5
          show o + xs.length * i.size + vs2.length ≤ o'
          omega
      · have q := Owned.ne_drop ho
        have q2 : Owned C hp tm ct k v' cv' := by
          have q2 := q.2
          obtain ⟨k1, k2⟩ := k
          cases k1 with
          | zero => exact q2
          | succ id =>
            obtain ⟨cs', vs', ty', g1, g2, g3, g4⟩ := q2
            have hid : (hget hp id).isSome = true := by rw [g1]; rfl
            have g3' : (C.fill b (o + xs.length * i.size) vs2).w.heap[C.ι id]? = some (.cells vs' ty' (0, 0)) := g3
            rw [show (C.fill b (o + xs.length * i.size) vs2).w.heap[C.ι id]? = C.w.heap[C.ι id]? from setCells_other b _ (fun e => (ok.cells b (o + xs.length * i.size) (hin _ (Nat.le_refl _) (by have := List.length_pos_iff.2 hv2ne; omega))).2.2.2.1 id hid e.symm) _ _ _] at g3'
            exact ⟨cs', vs', ty', g1, g2, g3', g4⟩
        rw [← List.length_append] at ht
        obtain ⟨rfl, t1, t2'⟩ := (tail_of (fun q => hx0 (List.append_eq_nil_iff.1 q).1) hXY).1 ht
        rw [List.length_append, Nat.add_mul] at t1
        exact h.sep _ _ _ _ _ _ ow q2 (fun e => q.1 e.symm) b' o' ((tail_of hx0 hX).2 ⟨rfl, by omega, t2'⟩)
  · have hy0 : ys ≠ [] := fun q => by subst q; simp at hfit; omega
    have hyp := hipos hy0
    have hne : xs ++ ys ≠ [] := fun q => hy0 (List.append_eq_nil_iff.1 q).2
    have hvl' : vs.length = xs.length * i.size := by rw [hvl, lx]
    have hv2l : vs2.length = ys.length * i.size := by rw [hvl2, ly]
    have hf := run_first (P := P) C.w.drew i.size ys.length c2 A2 vs2 hv2l (fun i v hi => by obtain ⟨b', o', e1, _, e3⟩ := hvm2 i v hi; exact ⟨b', o', e1, e3⟩)
    have hfo := run_first (P := P) C.w.drew i.size xs.length c A vs hvl' (fun i v hi => by obtain ⟨b', o', e1, _, e3⟩ := hvm i v hi; exact ⟨b', o', e1, e3⟩)
    have hrun := run_append_out (P := P) C.w t t2 ty e i z _ ht ht2 hd2 hi hz A xs.length c ys.length (.slice A2 ys.length c2) vs vs2 rfl hfit hf hfo hb hbz
    generalize hcap : grownCap C.w (xs.length + ys.length) c e = cap at hrun
    have hcapge : xs.length + ys.length ≤ cap := by rw [← hcap]; exact grownCap_ge _ _ _ _
    let blk : Array Value := vs.toArray ++ vs2.toArray ++ Builtin.zeroCells z.cells (cap - (xs.length + ys.length))
    have hbs : blk.size = cap * i.size := by
      simp only [blk, Array.size_append, List.size_toArray, size_zeroCells, hzs, hvl', hv2l]
      rw [← Nat.add_mul, ← Nat.add_mul]
      congr 1
      omega
    have hbl : ∀ (j : Nat) (v : Value), (vs ++ vs2)[j]? = some v → blk[j]? = some v := by
      intro j v hj
      have hjl := (List.getElem?_eq_some_iff.1 hj).1
      rw [List.length_append] at hjl
      simp only [blk]
      rw [Array.getElem?_append_left (by simpa using hjl), List.append_toArray]
      simpa using hj
    let D : Cx := { ι := C.ι, I := fun b' o => C.I b' o ∨ (b' = C.w.heap.size ∧ o < (xs.length + ys.length) * i.size), nx := C.nx, w := C.w.drew.alloc (.cells blk e) }
    have hnew : ∀ (o : Nat), D.w.cell? ⟨C.w.heap.size, o, none⟩ = blk[o]? := fun o => cell_new C.w.drew blk e o
    have hcs' : (xs.length + ys.length) * i.size ≤ cap * i.size := Nat.mul_le_mul_right _ hcapge
    have g : Grow C D := ⟨(Below.refl _ C.w).drew.trans (below_alloc' C.w.drew _), Nat.le_refl _, fun _ _ => rfl, fun _ _ h => .inl h, fun b o hI => hI.imp id fun q => by rw [q.1]; exact Nat.le_refl _, fun b o hI hbb => by
      rcases hI with hI | ⟨rfl, hI⟩
      · obtain ⟨u, hu⟩ := h.heap.imm b o hI
        have := cell_lt hu; omega
      · exact ⟨blk[o]'(by omega), by rw [hnew]; exact Array.getElem?_eq_getElem (by omega)⟩⟩
    have le := h.heap.le g
    refine ⟨D, .slice (some ⟨C.w.heap.size, 0, none⟩) (xs.length + ys.length) cap, hrun, le, rfl, (h.grow g).drop s hs, ?_, ?_, fun k v' cv' ho b' o' ht => ?_⟩
    · rw [← List.length_append]
      refine RV.lst_mk (by simpa using hcapge) hXYpos hXY h1XY (vs ++ vs2) (by rw [flats_append, List.length_append, List.length_append, hvl, hvl2]) (fun j v hj => ⟨_, 0, rfl, ?_⟩) (fun j u v hu hj => ?_)
      · have hjl := (List.getElem?_eq_some_iff.1 hj).1
        rw [List.length_append, hvl', hv2l, ← Nat.add_mul] at hjl
        refine ⟨.inr ⟨rfl, by omega⟩, ?_⟩
        rw [hnew, Nat.zero_add]
        exact hbl j v hj
      · rw [flats_append] at hu
        rcases Nat.lt_or_ge j vs.length with hlt | hge
        · rw [List.getElem?_append_left hlt] at hj
          rw [List.getElem?_append_left (by omega)] at hu
          exact (hvr j u v hu hj).mono le
        · rw [List.getElem?_append_right hge] at hj
          rw [List.getElem?_append_right (by omega), ← hvl] at hu
          exact (hvr2 _ u v hu hj).mono le
    · refine ⟨⟨xs ++ ys, _, _, cap, rfl, rfl, fun q => absurd q hne⟩, fun b' o' ht => ?_⟩
      rw [← List.length_append] at ht
      obtain ⟨rfl, t1, t2'⟩ := (tail_of hne hXY).1 ht
      rw [List.length_append, Nat.zero_add] at t1
      rw [Nat.zero_add] at t2'
      refine ⟨Nat.le_trans h.heap.base h.heap.below.size, fun hI => ?_, fun hF => ?_, fun id hid => ?_, ⟨blk[o']'(by omega), ?_⟩, ?_⟩
      · rcases hI with hI | ⟨_, hI⟩
        · obtain ⟨u, hu⟩ := h.heap.imm _ _ hI
          exact absurd (cell_lt hu) (Nat.lt_irrefl _)
        · omega
      · obtain ⟨⟨u, hu⟩, _⟩ := h.heap.far _ _ hF
        exact absurd (cell_lt hu) (Nat.lt_irrefl _)
      · have := (h.heap.out id hid).2.1
        show C.w.heap.size ≠ C.ι id
        omega
      · rw [hnew]; exact Array.getElem?_eq_getElem (by omega)
      · have := alloc_at C.w.drew (.cells blk e)
        show (C.w.drew.alloc (.cells blk e)).frozen? _ = false
        simp only [World.frozen?]
        rw [show C.w.heap.size = C.w.drew.heap.size from rfl, this]
        simp
    · have q := (Owned.ne_drop ho).2.back h.heap g
      rw [← List.length_append] at ht
      obtain ⟨rfl, t1, t2'⟩ := (tail_of hne hXY).1 ht
      intro ht'
      obtain ⟨_, _, _, _, ⟨u, hu⟩, _⟩ := (h.own k v' cv' q).cells _ _ ht'
      exact absurd (cell_lt hu) (Nat.lt_irrefl _)
end
end Go.Proofs.YtleimfinniclgaaDoor.M
