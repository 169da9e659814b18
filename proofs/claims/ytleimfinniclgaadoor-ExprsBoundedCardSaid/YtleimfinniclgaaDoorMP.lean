/- The machine is right, operation by operation (4): memory. -/
import Derived.Test.YtleimfinniclgaaDoorMO
namespace Go.Proofs.YtleimfinniclgaaDoor.M
open Go.RowKit
set_option linter.unusedVariables false
set_option linter.unusedSimpArgs false

section
variable {P : Program} {C : Cx} {B : Nat} {F : Nat → Nat → Prop} {w0 : World} {hp : Heap} {tm : List Cell} {ct : Array Value}

theorem done_mk (ds : List Deferred) (dst : Option Tmp) {q : Out} {D : Cx} {n : Next} {u : Value} (hn : n = .value u ∨ (n = .skip ∧ u = undef)) (le : C.Le D) (hx : D.nx = q.nx) (hclr : q.clr = none)
    (hno : dst = none → WRel D B F w0 q.hp tm ct) (hd : ∀ d, dst = some d → WRel D B F w0 q.hp (tm.set d (q.v, q.own)) (ct.setIfInBounds d u)) : Done C B F w0 tm ⟨ct, ds⟩ dst q (.ok n D.w) := by
  refine ⟨D, n, u, rfl, hn, le, hx, ?_, put_defers _ _ _⟩
  cases dst with
  | none => simp only [Out.put, hclr]; exact hno rfl
  | some d => simp only [Out.put, hclr]; exact hd d rfl
theorem seq_fst : ∀ (l : List (Nat × AVal)) (k : Nat), seqParts l k = true → ∀ (i : Nat) p, l[i]? = some p → p.1 = k + i := by
  intro l
  induction l with
  | nil => intro k _ i p h; simp at h
  | cons q l ih =>
    intro k h i p hi
    obtain ⟨j, a⟩ := q
    simp only [seqParts, Bool.and_eq_true, beq_iff_eq] at h
    cases i with
    | zero => simp at hi; subst hi; exact h.1
    | succ i => have := ih (k + 1) h.2 i p hi; omega
theorem flats_at {xs : List AVal} {sz : Nat} (hs : ∀ x, x ∈ xs → x.flat.length = sz) {k : Nat} {e : AVal} (hk : xs[k]? = some e) {j : Nat} (hj : j < sz) : (flats xs)[k * sz + j]? = e.flat[j]? := by
  induction xs generalizing k with
  | nil => simp at hk
  | cons y l ih =>
    have hy := hs y (List.mem_cons_self ..)
    cases k with
    | zero =>
      simp at hk; subst hk
      simp only [flats, List.flatMap_cons, Nat.zero_mul, Nat.zero_add]
      rw [List.getElem?_append_left (by omega)]
    | succ k =>
      simp only [List.getElem?_cons_succ] at hk
      have := ih (fun x hx => hs x (List.mem_cons_of_mem _ hx)) hk
      simp only [flats, List.flatMap_cons]
      rw [List.getElem?_append_right (by rw [hy, Nat.add_mul]; omega), hy, show (k + 1) * sz + j - sz = k * sz + j by rw [Nat.add_mul]; omega]
      exact this
/-- A literal of a slice. -/
theorem sound_buildSlice (h : WRel C B F w0 hp tm ct) (ds : List Deferred) (dst : Option Tmp) (t e : TypeId) (len : Nat) (ps : List (Nat × AVal)) (qs : List (Nat × Value)) (hu : P.underlying t = some (.slice e))
    (hm : qs.map (·.1) = ps.map (·.1)) (hrel : ∀ (i : Nat) p q, ps[i]? = some p → qs[i]? = some q → RV C p.2 q.2) (h1 : seqParts ps 0 = true) (h2 : ps.length = len) (h3 : len * sizeT P e ≤ 2 ^ 24)
    (h4 : ∀ p, p ∈ ps → p.2.flat.length = sizeT P e ∧ p.2.flat.all AVal.one = true) (h5 : 0 < sizeT P e) (hz : zeroT P e = true) (mu ag : Bool) :
    ∃ r, (Instr.buildSlice t len qs.toArray).run P C.w = r ∧ Done C B F w0 tm ⟨ct, ds⟩ dst (if mu then ⟨.sl C.nx 0 len (sizeT P e) ag, false, none, C.nx + 1, (C.nx, .cells (unown (flats (ps.map (·.2))))) :: hp⟩ else ⟨.lst (ps.map (·.2)), true, none, C.nx, hp⟩) (match r with | .ok v w => .ok (.value v) w | .halt x w => .halt x w) := by
  obtain ⟨ie, hie, hsz⟩ := info_of_size h5
  have hql : qs.length = ps.length := by have := congrArg List.length hm; simpa using this
  have hpq : ∀ (i : Nat) q, qs[i]? = some q → ∃ p, ps[i]? = some p ∧ p.1 = q.1 := by
    intro i q hq
    have hlt := (List.getElem?_eq_some_iff.1 hq).1
    refine ⟨ps[i]'(by omega), List.getElem?_eq_getElem (by omega), ?_⟩
    have : (qs.map (·.1))[i]? = (ps.map (·.1))[i]? := by rw [hm]
    rw [List.getElem?_map, List.getElem?_map, hq, List.getElem?_eq_getElem (show i < ps.length by omega)] at this
    simpa using this.symm
  have hcells : ∀ (i : Nat) p q, ps[i]? = some p → qs[i]? = some q → Rels C p.2.flat q.2.cells := fun i p q hp hq => (hrel i p q hp hq).cells (h4 p (List.mem_of_getElem? hp)).2
  obtain ⟨z, hzz⟩ : ∃ z, ie.zero = some z := by
    unfold zeroT at hz
    rw [hie] at hz
    exact Option.isSome_iff_exists.1 hz
  obtain ⟨z0, hz0⟩ : ∃ z0 : Array Value, (len * sizeT P e = 0 ∧ z0 = #[]) ∨ (len * sizeT P e ≠ 0 ∧ z0 = z.cells) := by
    by_cases e0 : len * sizeT P e = 0
    · exact ⟨_, .inl ⟨e0, rfl⟩⟩
    · exact ⟨_, .inr ⟨e0, rfl⟩⟩
  let c0 : Array Value := (Array.range (len * sizeT P e)).map (z0[· % z0.size]!)
  obtain ⟨ws, f1, f2, _, f4⟩ := fill_seq (sizeT P e) qs 0 c0 (fun i q hq => by
    obtain ⟨p, hp, hpe⟩ := hpq i q hq
    refine ⟨by rw [← hpe]; exact seq_fst ps 0 h1 i p hp, ?_⟩
    rw [(hcells i p q hp hq).1]
    exact (h4 p (List.mem_of_getElem? hp)).1) (by simp [c0, hql, h2])
  have hws : ws.size = len * sizeT P e := by rw [f2]; simp [c0]
  have hs : ∀ x, x ∈ ps.map (·.2) → x.flat.length = sizeT P e := fun x hx => by obtain ⟨p, hp, rfl⟩ := List.mem_map.1 hx; exact (h4 p hp).1
  have hrun : (Instr.buildSlice t len qs.toArray).run P C.w = .ok (.slice (some ⟨C.w.heap.size, 0, none⟩) len len) (C.w.alloc (.cells ws e)) := by
    have h3' : ¬ (16777216 < len * sizeT P e) := by omega
    simp only [Instr.buildSlice, Sem.run_bind, run_underlying hu, Result.andThen_ok, run_sizeT hie]
    rw [if_neg (by omega)]
    have f1' : Instr.fill (fun i => some (i * sizeT P e, sizeT P e)) ((Array.range (len * sizeT P e)).map (z0[· % z0.size]!)) qs = some ws := f1
    rcases hz0 with ⟨e0, hz0⟩ | ⟨e0, hz0⟩
    · subst hz0
      rw [if_pos e0]
      simp only [Sem.run_bind, Sem.run_pure, Result.andThen_ok]
      rw [f1']
      simp [newRow]
    · subst hz0
      rw [if_neg e0]
      simp only [Sem.run_bind, zeroValue, typeInfo, run_program, hie, hzz, Sem.run_pure, Result.andThen_ok]
      rw [f1']
      simp [newRow]
  refine ⟨_, rfl, ?_⟩
  rw [hrun]
  have hI := h.heap.imm
  have hlen : (ps.map (·.2)).length = len := by simpa using h2
  have hfl := flats_len hs
  have hv : ∀ (i : Nat) u, (flats (ps.map (·.2)))[i]? = some u → u.one = true ∧ ∃ v, ws[i]? = some v ∧ RV C u v := by
    intro i u hi
    have hlt := (List.getElem?_eq_some_iff.1 hi).1
    rw [hfl, hlen] at hlt
    have hk : i / sizeT P e < len := Nat.div_lt_of_lt_mul (by rw [Nat.mul_comm]; exact hlt)
    have hj : i % sizeT P e < sizeT P e := Nat.mod_lt _ h5
    have ei : i = i / sizeT P e * sizeT P e + i % sizeT P e := by rw [Nat.mul_comm]; exact (Nat.div_add_mod i (sizeT P e)).symm
    have hp := List.getElem?_eq_getElem (l := ps) (i := i / sizeT P e) (by omega)
    have hq := List.getElem?_eq_getElem (l := qs) (i := i / sizeT P e) (by omega)
    have hpm : (ps.map (·.2))[i / sizeT P e]? = some ps[i / sizeT P e].2 := by rw [List.getElem?_map, hp]; rfl
    rw [ei, flats_at hs hpm hj] at hi
    have hr := hcells _ _ _ hp hq
    obtain ⟨r1, v, r2, r3⟩ := hr.2 _ _ hi
    refine ⟨r1, v, ?_, r3⟩
    have := f4 _ _ hq _ hj
    rw [Nat.zero_add, ← ei] at this
    rw [this]; exact r2
  have hone : ∀ u, u ∈ flats (ps.map (·.2)) → u.one = true := fun u hu => by obtain ⟨i, hi⟩ := List.getElem?_of_mem hu; exact (hv i u hi).1
  cases mu with
  | true =>
    have hfl' : (flats (ps.map (·.2))).length = ws.size := by rw [hfl, hlen, hws]
    obtain ⟨hW, _⟩ := h.track (unown (flats (ps.map (·.2)))) ws e (by simp [unown, hfl']) (fun i c hi => by
      simp only [unown, List.getElem?_map] at hi
      obtain ⟨y, hy, rfl⟩ := Option.map_eq_some_iff.1 hi
      obtain ⟨r1, v, r2, r3⟩ := hv i y hy
      exact ⟨r1, v, r2, r3, fun hf => by cases hf⟩)
    have hn : (C.track ws e).ι C.nx = C.w.heap.size := by simp [Cx.track]
    refine done_mk (D := C.track ws e) ds dst (.inl rfl) (h.heap.le (h.heap.grow_track ws e)) rfl rfl (fun _ => hW) (fun d _ => hW.put d ?_)
    have := RV.sl (C := C.track ws e) C.nx 0 len (sizeT P e) len ag (Nat.lt_succ_self _) (Nat.le_refl _) (fun o ho => ⟨ws[o]'(by omega), by
      rw [hn]
      exact (cell_new C.w ws e o).trans (Array.getElem?_eq_getElem (by omega))⟩)
    rw [hn] at this
    exact this
  | false =>
  have hrv := RV.lit (C := C) hI (ps.map (·.2)) (sizeT P e) ws e (fun _ => h5) hs hone (fun i u hi => (hv i u hi).2) len (by omega)
  rw [hlen] at hrv
  have hW := h.grow (grow_lit C ws e hI)
  refine done_mk (D := C.lit ws e) ds dst (.inl rfl) (h.heap.le (grow_lit C ws e hI)) rfl rfl (fun _ => hW) (fun d _ => ?_)
  have hnt : ∀ b o, ¬ Tail (.lst (ps.map (·.2))) (.slice (some ⟨C.w.heap.size, 0, none⟩) len len) b o := fun b o => by
    have := no_tail hs (some ⟨C.w.heap.size, 0, none⟩) b o
    rw [hlen] at this
    exact this
  exact hW.puto d hrv ⟨⟨_, _, _, _, rfl, rfl, fun e0 => by have := congrArg List.length e0; simpa [h2] using this⟩, fun b o ht => absurd ht (hnt b o)⟩ (fun k v' cv' _ _ b o ht => absurd ht (hnt b o))
/-- A new variable. -/
theorem sound_new (h : WRel C B F w0 hp tm ct) (ds : List Deferred) (dst : Option Tmp) (ty : TypeId) (cs : List Cell) (vs : Array Value) (hl : cs.length ≤ vs.size)
    (hc : ∀ (i : Nat) (c : Cell), cs[i]? = some c → c.1.one = true ∧ ∃ v, vs[i]? = some v ∧ RV C c.1 v ∧ Bare c v) :
    Done C B F w0 tm ⟨ct, ds⟩ dst ⟨.ptr C.nx 0, false, none, C.nx + 1, (C.nx, .cells cs) :: hp⟩ (.ok (.value (.pointer (some ⟨C.w.heap.size, 0, none⟩))) (C.w.alloc (.cells vs ty))) := by
  obtain ⟨hW, hr⟩ := h.track cs vs ty hl hc
  exact done_mk (D := C.track vs ty) ds dst (.inl rfl) (h.heap.le (h.heap.grow_track vs ty)) rfl rfl (fun _ => hW) (fun d _ => hW.put d hr)
theorem sound_alloc (h : WRel C B F w0 hp tm ct) (ds : List Deferred) (dst : Option Tmp) (t : TypeId) {z : Value} {i : TypeInfo} (hi : P.info? t = some i) (hz : i.zero = some z) (h1 : (z.cells.toList.map ofCell).all AVal.one = true) :
    ∃ v w, (Instr.alloc t true (.tuple #[])).run P C.w = .ok v w ∧ Done C B F w0 tm ⟨ct, ds⟩ dst ⟨.ptr C.nx 0, false, none, C.nx + 1, (C.nx, .cells (z.cells.toList.map fun c => (ofCell c, isNil c))) :: hp⟩ (.ok (.value v) w) := by
  refine ⟨_, _, by simp [Instr.alloc, zeroValue, typeInfo, hi, hz, newVar, newRow], sound_new h ds dst t _ z.cells (by simp) (fun j c hj => ?_)⟩
  rw [List.getElem?_map, Array.getElem?_toList] at hj
  obtain ⟨u, hu, rfl⟩ := Option.map_eq_some_iff.1 hj
  refine ⟨List.all_eq_true.1 h1 _ (List.mem_map.2 ⟨u, Array.mem_toList_iff.2 (Array.mem_of_getElem? hu), rfl⟩), u, hu, RV.ofCell u, fun hn => ?_⟩
  have := isNil_eq hn
  subst this
  exact ⟨rfl, rfl⟩
theorem sound_box (h : WRel C B F w0 hp tm ct) (ds : List Deferred) (dst : Option Tmp) (t : TypeId) {a : AVal} {u : Value} (hu : RV C a u) (h1 : a.flat.all AVal.one = true) :
    ∃ v w, (Instr.box t u).run P C.w = .ok v w ∧ Done C B F w0 tm ⟨ct, ds⟩ dst (abox a.flat C.nx hp) (.ok (.value v) w) := by
  have hc := hu.cells h1
  refine ⟨_, _, by simp [Instr.box, newVar, newRow], sound_new h ds dst t _ u.cells (by simpa using Nat.le_of_eq hc.1.symm) (fun j c hj => ?_)⟩
  rw [List.getElem?_map] at hj
  obtain ⟨x, hx, rfl⟩ := Option.map_eq_some_iff.1 hj
  obtain ⟨r1, v, r2, r3⟩ := hc.2 j x hx
  exact ⟨r1, v, r2, r3, fun hf => by cases hf⟩
/-- A variable is read. -/
theorem sound_load (h : WRel C B F w0 hp tm ct) (ds : List Deferred) (dst : Option Tmp) (ops : Array Oper) (ro : Md) (t : TypeId) {a : AVal} {u : Value} (hu : RV C a u) {q : Out} (hq : aload P ops ro dst t a C.nx hp = some q) :
    ∃ v, (Instr.loadAt t u).run P C.w = .ok v C.w ∧ Done C B F w0 tm ⟨ct, ds⟩ dst q (.ok (.value v) C.w) := by
  cases a <;> (try simp only [aload] at hq) <;> try (cases hq; done)
  · rename_i id off
    obtain ⟨rfl, hid⟩ := hu.ptr_inv
    cases hg : hget hp id with
    | none => rw [hg] at hq; cases hq
    | some blk =>
      rw [hg] at hq
      cases blk <;> (try simp only at hq) <;> try (cases hq; done)
      rename_i cs
      obtain ⟨vs, ty, hb, hsz, hcs⟩ := h.heap.blk id cs hg
      have hcell : ∀ i, C.w.cell? ⟨C.ι id, i, none⟩ = vs[i]? := fun i => by simp [World.cell?, hb]
      cases hagg : isAggT P t with
      | none => rw [hagg] at hq; cases hq
      | some b =>
        rw [hagg] at hq
        obtain ⟨ti, hti⟩ := info_of_agg hagg
        cases b with
        | true =>
          simp only at hq
          split at hq
          · rename_i hle
            injection hq with hq; subst hq
            have hlv : off + sizeT P t ≤ vs.toList.length := by rw [Array.length_toList]; omega
            have hrun := run_loadCells_list (P := P) C.w ⟨C.ι id, off, none⟩ ((vs.toList.drop off).take (sizeT P t)) (fun j v hj => by
              rw [List.getElem?_take] at hj
              split at hj
              · rw [List.getElem?_drop, Array.getElem?_toList] at hj
                rw [add_at, hcell]; exact hj
              · cases hj)
            have hlen : ((vs.toList.drop off).take (sizeT P t)).length = sizeT P t := by simp; omega
            rw [hlen] at hrun
            refine ⟨.agg ((vs.toList.drop off).take (sizeT P t)).toArray, by simp [Instr.loadAt, Instr.sureAddr, loadVar, run_isAggT hagg, run_sizeT hti, hrun], done_val h ds dst ?_⟩
            refine .agg _ _ (by simp; omega) (fun x hx => ?_) (fun i x v hx hv => ?_)
            · obtain ⟨c, hc, rfl⟩ := List.mem_map.1 hx
              obtain ⟨j, hj⟩ := List.getElem?_of_mem (List.mem_of_mem_drop (List.mem_of_mem_take hc))
              exact (hcs j c hj).1
            · rw [List.getElem?_map, List.getElem?_take] at hx
              rw [List.getElem?_take] at hv
              split at hx
              · rename_i hi
                rw [if_pos hi] at hv
                rw [List.getElem?_drop] at hx hv
                obtain ⟨c, hc, rfl⟩ := Option.map_eq_some_iff.1 hx
                obtain ⟨_, v', h2, h3⟩ := hcs _ c hc
                rw [Array.getElem?_toList, h2] at hv
                injection hv with hv; subst hv; exact h3
              · cases hx
          · cases hq
        | false =>
          simp only at hq
          cases hc : cs[off]? with
          | none => rw [hc] at hq; cases hq
          | some c =>
            rw [hc] at hq
            obtain ⟨x, f⟩ := c
            obtain ⟨_, v, hv, hr⟩ := hcs off _ hc
            have hrun : (Instr.loadAt t (.pointer (some ⟨C.ι id, off, none⟩))).run P C.w = .ok v C.w := by
              simp [Instr.loadAt, Instr.sureAddr, loadVar, run_isAggT hagg, load, Sem.run, hcell, hv]
            refine ⟨v, hrun, ?_⟩
            cases f with
            | false => simp only at hq; injection hq with hq; subst hq; exact done_val h ds dst hr
            | true =>
              simp only at hq
              split at hq
              · rename_i hf
                have hdst : ∃ d, dst = some d := by
                  cases dst with
                  | none => simp [feeds] at hf
                  | some d => exact ⟨d, rfl⟩
                obtain ⟨d, rfl⟩ := hdst
                split at hq
                · rename_i hnl
                  injection hq with hq; subst hq
                  have hx := nilL_eq hnl
                  subst hx
                  refine done_mk ds (some d) (.inl rfl) (Cx.Le.refl C) rfl rfl (fun q => by cases q) (fun d' e => ?_)
                  injection e with e; subst e
                  refine h.puto d hr (h.own (id + 1, off) _ v ⟨cs, vs, ty, hg, hc, hb, hv⟩) (fun k v' cv' _ _ b o ht => ?_)
                  obtain ⟨xs, a, n, c, x, r, h1, _, h3, _⟩ := ht
                  injection h1 with h1
                  rw [← h1] at h3
                  cases h3
                · split at hq
                  · injection hq with hq; subst hq
                    refine done_mk ds (some d) (.inl rfl) (Cx.Le.refl C) rfl rfl (fun q => by cases q) (fun d' e => ?_)
                    injection e with e; subst e
                    exact h.take hg hc (fun vs' ty' hb' => by
                      rw [hb] at hb'; injection hb' with hb'; injection hb' with hb' _; subst hb'; exact hv)
                  · injection hq with hq; subst hq; exact done_val h ds _ hr
              · injection hq with hq; subst hq; exact done_val h ds dst hr
  · rename_i e off
    obtain ⟨r, hr, rfl⟩ := val_some hq
    obtain ⟨z, hz, hrr⟩ := sound_load_pel (P := P) t hu hr
    exact ⟨z, hz, done_val h ds dst hrr⟩
/-- A variable is written. -/
theorem sound_store (h : WRel C B F w0 hp tm ct) (ds : List Deferred) (dst : Option Tmp) (ops : Array Oper) (ro : Md) (t : TypeId) {a : AVal} {u : Value} (hu : RV C a u) (x : Operand) {q : Out} (hq : astore P ops ro t a x (ev tm x) C.nx hp = some q) :
    ∃ w, (Instr.storeAt t u (Act.eval ⟨ct, ds⟩ x)).run P C.w = .ok () w ∧ Done C B F w0 tm ⟨ct, ds⟩ dst q (.ok .skip w) := by
  have hx := h.ev x ds
  generalize hxv : Act.eval ⟨ct, ds⟩ x = xv at hx
  generalize hcx : M.ev tm x = c at hq hx
  cases a <;> (try simp only [astore] at hq) <;> try (cases hq; done)
  rename_i id off
  obtain ⟨rfl, hid⟩ := hu.ptr_inv
  cases hg : hget hp id with
  | none => rw [hg] at hq; cases hq
  | some blk =>
    rw [hg] at hq
    cases blk <;> (try simp only at hq) <;> try (cases hq; done)
    rename_i cs
    have hs : (hget hp id).isSome = true := by rw [hg]; rfl
    obtain ⟨vs, ty, hb, hsz, hcs⟩ := h.heap.blk id cs hg
    split at hq
    · rename_i hcond
      obtain ⟨hro, hz, hl, hoff, h1⟩ := hcond
      obtain ⟨ti, hti, _⟩ := info_of_size hz
      have hc := hx.cells h1
      have hcell : ∀ i, C.w.cell? ⟨C.ι id, i, none⟩ = vs[i]? := fun i => by simp [World.cell?, hb]
      have hrun : (Instr.storeAt t (.pointer (some ⟨C.ι id, off, none⟩)) xv).run P C.w = .ok () (C.stores id off xv.cells.toList).w := by
        have h2 := run_storeCells_cells (P := P) (C.ι id) off xv.cells.toList 0 C.w (fun j hj => by
          rw [Nat.add_zero, hcell, Array.getElem?_eq_getElem (by rw [Array.length_toList, hc.1] at hj; omega)]; rfl) (fun j hj => by simp [World.frozen?, hb]) (fun v hv => by
          obtain ⟨j, hj⟩ := List.getElem?_of_mem hv
          have hjl := (List.getElem?_eq_some_iff.1 hj).1
          rw [Array.length_toList, hc.1] at hjl
          obtain ⟨r1, v', r2, r3⟩ := hc.2 j _ (List.getElem?_eq_getElem hjl)
          rw [Array.getElem?_toList, r2] at hj
          injection hj with hj; subst hj
          exact r3.one_cell r1)
        rw [Nat.add_zero] at h2
        have hsz' : xv.cells.size = sizeT P t := by rw [hc.1, hl]
        simp [Instr.storeAt, Instr.sureAddr, storeVar, run_sizeT hti, hsz', h2, Cx.stores]
      have le := h.heap.le_stores hs off xv.cells.toList
      have hplain : WRel (C.stores id off xv.cells.toList) B F w0 (hset hp id (.cells (setCs cs off (unownS c.1.flat)))) tm ct :=
        h.store hg off (unownS c.1.flat) xv.cells.toList (by simp [unownS, hc.1]) (by simpa [unownS] using hoff) (fun i d hd => by
          simp only [unownS, List.getElem?_map] at hd
          obtain ⟨y, hy, rfl⟩ := Option.map_eq_some_iff.1 hd
          obtain ⟨r1, v, r2, r3⟩ := hc.2 i y hy
          refine ⟨?_, v, by rw [Array.getElem?_toList]; exact r2, ?_⟩
          · cases y <;> first | exact r1 | rfl
          · by_cases hy : y = .nils
            · subst hy
              cases r3
              exact ⟨RV.ofCell (C := C) (.slice none 0 0), fun _ => ⟨rfl, rfl⟩⟩
            · have e : unS y = (y, false) := by cases y <;> first | rfl | exact absurd rfl hy
              rw [e]
              exact ⟨r3, fun hf => by cases hf⟩)
      refine ⟨_, hrun, ?_⟩
      have fin : q = Out.val C.nx (hset hp id (.cells (setCs cs off (unownS c.1.flat)))) (.tup []) → Done C B F w0 tm ⟨ct, ds⟩ dst q (.ok .skip (C.stores id off xv.cells.toList).w) := by
        rintro rfl
        exact done_mk (D := C.stores id off xv.cells.toList) ds dst (u := undef) (.inr ⟨rfl, rfl⟩) le rfl rfl (fun _ => hplain) (fun d _ => hplain.put d (RV.tup [] [] rfl (fun i a v hi => by simp at hi)))
      obtain ⟨y, f⟩ := c
      cases x with
      | global g => injection hq with hq; exact fin hq.symm
      | func g => injection hq with hq; exact fin hq.symm
      | tmp s =>
        cases f with
        | false => injection hq with hq; exact fin hq.symm
        | true =>
          simp only at hq
          split at hq
          · rename_i hmk
            injection hq with hq; subst hq
            have hts : tm[s]? = some (y, true) := by
              simp only [M.ev] at hcx
              cases ht : tm[s]? with
              | none => rw [ht] at hcx; simp at hcx
              | some c => rw [ht] at hcx; simp at hcx; rw [hcx]
            obtain ⟨v, hv, _⟩ := h.tmp s _ hts
            have hev : Act.eval ⟨ct, ds⟩ (.tmp s) = v := by
              have hlt := (Array.getElem?_eq_some_iff.1 hv).1
              have he := (Array.getElem?_eq_some_iff.1 hv).2
              simp [Act.eval, Array.getD, hlt, he]
            rw [hev] at hxv; subst hxv
            have hform := (h.own (0, s) y v ⟨hts, hv⟩).form
            obtain ⟨xs, A, n, cc, e1, e2, _⟩ := hform
            subst e1 e2
            have hW := hplain
            have hcs' : setCs cs off (unownS (AVal.lst xs).flat) = cs.set off (.lst xs, false) := rfl
            rw [hcs'] at hW
            have hoff' : off < cs.length := by simp [AVal.flat] at hoff; omega
            have hget' : hget (hset hp id (.cells (cs.set off (AVal.lst xs, false)))) id = some (.cells (cs.set off (.lst xs, false))) := by rw [hget_hset]; simp [hs]
            have hgive := hW.give (id := id) (off := off) hts hv hget' (by rw [List.getElem?_set_self hoff']) (fun vs' ty' hb' => by
              have : (C.stores id off (Value.slice A n cc).cells.toList).w.heap[C.ι id]? = some (.cells (setsA vs off [Value.slice A n cc]) ty (0, 0)) := setCells_block _ _ _ _ hb
              have hb2 : (C.stores id off (Value.slice A n cc).cells.toList).w.heap[C.ι id]? = some (.cells vs' ty' (0, 0)) := hb'
              rw [this] at hb2; injection hb2 with hb2; injection hb2 with hb2 _; subst hb2
              rw [setsA_get, if_pos ⟨Nat.le_refl _, by simp, by omega⟩]; simp)
            have hss : hset (hset hp id (.cells (cs.set off (AVal.lst xs, false)))) id (.cells ((cs.set off (.lst xs, false)).set off (.lst xs, true))) = hset hp id (.cells (cs.set off (.lst xs, true))) := by
              rw [List.set_set]
              generalize ABlk.cells (cs.set off (AVal.lst xs, false)) = b1
              generalize ABlk.cells (cs.set off (AVal.lst xs, true)) = b2
              clear hget' hW hg hs hplain fin hgive hcs hx hrun le h
              induction hp with
              | nil => rfl
              | cons p hp ih =>
                obtain ⟨i, b⟩ := p
                simp only [hset]
                by_cases e : id = i
                · simp [e, hset]
                · simp [e, hset, ih]
            rw [hss] at hgive
            refine ⟨C.stores id off _, .skip, undef, rfl, .inr ⟨rfl, rfl⟩, le, rfl, ?_, put_defers _ _ _⟩
            cases dst with
            | none => simp only [Out.put, unflag_some hts]; exact hgive
            | some d => simp only [Out.put, unflag_some hts]; exact hgive.put d (RV.tup [] [] rfl (fun i a v hi => by simp at hi))
          · injection hq with hq; exact fin hq.symm
      | const k =>
        by_cases hnil : y = .lst [] ∧ f = true
        · obtain ⟨rfl, rfl⟩ := hnil
          simp only at hq
          injection hq with hq; subst hq
          have hk : k = .slice none 0 0 := by
            simp only [M.ev, Prod.mk.injEq] at hcx
            exact isNil_eq hcx.2
          subst hk
          have hxv' : xv = .slice none 0 0 := hxv.symm
          subst hxv'
          have hW := h.store hg off [(.lst [], true)] [.slice none 0 0] rfl (by simpa [AVal.flat] using hoff) (fun i d hd => by
            rcases i with _ | i
            · simp at hd; subst hd
              exact ⟨rfl, _, rfl, RV.ofCell (C := C) (.slice none 0 0), fun _ => ⟨rfl, rfl⟩⟩
            · simp at hd)
          exact done_mk (D := C.stores id off [.slice none 0 0]) ds dst (u := undef) (.inr ⟨rfl, rfl⟩) le rfl rfl (fun _ => hW) (fun d _ => hW.put d (RV.tup [] [] rfl (fun i a v hi => by simp at hi)))
        · have : some q = some (Out.val C.nx (hset hp id (.cells (setCs cs off (unownS y.flat)))) (.tup [])) := by
            rw [← hq]
            split
            · rename_i e1 e2; cases e1
            · rename_i e1 e2; injection e2 with e2 e3; exact absurd ⟨e2, e3⟩ hnil
            · rfl
          injection this with this
          exact fin this
    · cases hq
end
end Go.Proofs.YtleimfinniclgaaDoor.M
