/- The machine is right, operation by operation (3): structs and slices are built. -/
import Derived.Test.YtleimfinniclgaaDoorMN
import Derived.Laws.Tables
namespace Go.Proofs.YtleimfinniclgaaDoor.M
open Go.RowKit
set_option linter.unusedVariables false
set_option linter.unusedSimpArgs false

theorem foldl_sets (off : Nat) : ∀ (l : List Value) (n : Nat) (c : Array Value), (l.zipIdx n).foldl (fun cs (p : Value × Nat) => cs.setIfInBounds (off + p.2) p.1) c = setsA c (off + n) l := by
  intro l
  induction l with
  | nil => intro n c; rfl
  | cons v l ih => intro n c; rw [List.zipIdx_cons, List.foldl_cons, ih, setsA]; rfl
theorem fold_sets (off : Nat) (vs c : Array Value) : vs.zipIdx.foldl (fun cs (p : Value × Nat) => cs.setIfInBounds (off + p.2) p.1) c = setsA c off vs.toList := by
  rw [← Array.foldl_toList, Array.toList_zipIdx, foldl_sets]
  rfl
theorem lsets_len (l : List AVal) : ∀ (cs : List AVal) (i : Nat), (lsets cs i l).length = cs.length := by
  induction l with
  | nil => intro c i; rfl
  | cons v l ih => intro c i; rw [lsets, ih, List.length_set]
theorem lsets_get (l : List AVal) : ∀ (c : List AVal) (i j : Nat), (lsets c i l)[j]? = if i ≤ j ∧ j < i + l.length ∧ j < c.length then l[j - i]? else c[j]? := by
  induction l with
  | nil => intro c i j; simp [lsets]; omega
  | cons v l ih =>
    intro c i j
    rw [lsets, ih, List.getElem?_set, List.length_set, List.length_cons]
    by_cases h1 : i + 1 ≤ j ∧ j < i + 1 + l.length ∧ j < c.length
    · rw [if_pos h1, if_pos ⟨by omega, by omega, h1.2.2⟩, show j - i = (j - (i + 1)) + 1 by omega, List.getElem?_cons_succ]
    · rw [if_neg h1]
      by_cases h2 : i = j
      · subst h2
        by_cases h3 : i < c.length
        · rw [if_pos rfl, if_pos h3, if_pos ⟨by omega, by omega, h3⟩]; simp
        · rw [if_pos rfl, if_neg h3, if_neg (by omega), List.getElem?_eq_none (by omega)]
      · rw [if_neg h2, if_neg (by omega)]
section
variable {P : Program} {C : Cx} {B : Nat} {F : Nat → Nat → Prop} {w0 : World} {hp : Heap} {tm : List Cell} {ct : Array Value}

/-- Cells stand for cells. -/
def Rels (C : Cx) (cs : List AVal) (vs : Array Value) : Prop := vs.size = cs.length ∧ ∀ (i : Nat) a, cs[i]? = some a → a.one = true ∧ ∃ u, vs[i]? = some u ∧ RV C a u
/-- A value's own cells. -/
theorem RV.cells {a : AVal} {u : Value} (h : RV C a u) (h1 : a.flat.all AVal.one = true) : Rels C a.flat u.cells := by
  have key : ∀ {a : AVal} {u : Value}, RV C a u → a.one = true → a.flat = [a] → u.cells = #[u] → Rels C a.flat u.cells := by
    intro a u h ho hf hc
    rw [hf, hc]
    refine ⟨rfl, fun i b hb => ?_⟩
    rcases i with _ | i
    · simp at hb; subst hb; exact ⟨ho, u, rfl, h⟩
    · simp at hb
  cases h with
  | agg cs vs hl ho hr =>
    refine ⟨by simpa [Value.cells, AVal.flat] using hl, fun i b hb => ⟨ho b (List.mem_of_getElem? hb), ?_⟩⟩
    have hb' : cs[i]? = some b := hb
    have hlt := (List.getElem?_eq_some_iff.1 hb').1
    exact ⟨vs[i]'(by omega), by simp [Value.cells, List.getElem?_eq_getElem (show i < vs.length by omega)], hr i b _ hb' (List.getElem?_eq_getElem (by omega))⟩
  | tup cs vs hl hr => simp [AVal.flat, AVal.one] at h1
  | bad v => simp [AVal.flat, AVal.one] at h1
  | int k n => exact key (.int k n) rfl rfl rfl
  | bool b => exact key (.bool b) rfl rfl rfl
  | str s => exact key (.str s) rfl rfl rfl
  | lst xs A c sz cu hc hz hs ho hm hr => exact key (.lst xs A c sz cu hc hz hs ho hm hr) rfl rfl rfl
  | ptr id off hid => exact key (.ptr id off hid) rfl rfl rfl
  | pel e off b o cu ho hm hr => exact key (.pel e off b o cu ho hm hr) rfl rfl rfl
  | map id hid => exact key (.map id hid) rfl rfl rfl
  | sl id off len sz c ag hid hc hx => exact key (.sl id off len sz c ag hid hc hx) rfl rfl rfl
  | clo f fs cs fv cv hf hl hr hr' => exact key (.clo f fs cs fv cv hf hl hr hr') rfl rfl rfl
  | nilp => exact key .nilp rfl rfl rfl
  | nilf => exact key .nilf rfl rfl rfl
  | nilm => exact key .nilm rfl rfl rfl
  | nils => exact key .nils rfl rfl rfl
theorem Rels.mk_agg {cs : List AVal} {vs : Array Value} (h : Rels C cs vs) : RV C (.agg cs) (.agg vs) := by
  have := RV.agg (C := C) cs vs.toList (by simpa using h.1) (fun a ha => by
    obtain ⟨i, hi⟩ := List.getElem?_of_mem ha
    exact (h.2 i a hi).1) (fun i a u ha hu => by
    obtain ⟨_, u', hu', hr⟩ := h.2 i a ha
    rw [Array.getElem?_toList] at hu
    rw [hu'] at hu; injection hu with hu; subst hu; exact hr)
  simpa using this
theorem Rels.sets {cs l : List AVal} {vs ws : Array Value} (h : Rels C cs vs) (hl : Rels C l ws) (off : Nat) : Rels C (lsets cs off l) (setsA vs off ws.toList) := by
  refine ⟨by rw [setsA_size, lsets_len]; exact h.1, fun i a ha => ?_⟩
  rw [lsets_get] at ha
  rw [setsA_get]
  have e : ws.toList.length = l.length := by simpa using hl.1
  split at ha
  · rename_i hin
    rw [if_pos (by rw [e, h.1]; exact hin)]
    obtain ⟨h1, u, h2, h3⟩ := hl.2 _ _ ha
    exact ⟨h1, u, by rw [Array.getElem?_toList]; exact h2, h3⟩
  · rename_i hin
    rw [if_neg (by rw [e, h.1]; exact hin)]
    exact h.2 i a ha
theorem fill_sound (place : Nat → Option (Nat × Nat)) : ∀ (ps : List (Nat × AVal)) (qs : List (Nat × Value)) (cs : List AVal) (vs : Array Value) {r : List AVal}, Rels C cs vs → qs.map (·.1) = ps.map (·.1) → (∀ (i : Nat) p q, ps[i]? = some p → qs[i]? = some q → RV C p.2 q.2) → afill place cs ps = some r →
    ∃ ws, Instr.fill place vs qs = some ws ∧ Rels C r ws := by
  intro ps
  induction ps with
  | nil =>
    intro qs cs vs r hr hm _ h
    have : qs = [] := by simpa using hm
    subst this
    injection h with h; subst h
    exact ⟨vs, rfl, hr⟩
  | cons p ps ih =>
    intro qs cs vs r hr hm hrel h
    obtain ⟨i, a⟩ := p
    cases qs with
    | nil => simp at hm
    | cons q qs =>
      obtain ⟨j, u⟩ := q
      simp only [List.map_cons, List.cons.injEq] at hm
      obtain ⟨e, hm⟩ := hm
      subst e
      simp only [afill] at h
      cases hp : place j with
      | none => rw [hp] at h; cases h
      | some on =>
        obtain ⟨off, n⟩ := on
        rw [hp] at h
        simp only at h
        split at h
        · rename_i hc
          have hau : RV C a u := hrel 0 (j, a) (j, u) rfl rfl
          have hcl := hau.cells hc.2.2
          obtain ⟨ws, h1, h2⟩ := ih qs _ _ (hr.sets hcl off) hm (fun i p q hp hq => hrel (i + 1) p q hp hq) h
          refine ⟨ws, ?_, h2⟩
          simp only [Instr.fill, hp]
          rw [if_neg]
          · have := fold_sets off u.cells vs
            rw [← h1]
            congr 1
          · simp only [ne_eq, decide_not, Bool.or_eq_true, Bool.not_eq_eq_eq_not, Bool.not_true, decide_eq_false_iff_not, decide_eq_true_eq, not_or, Decidable.not_not]
            rw [hcl.1, hr.1]
            omega
        · cases h
theorem rels_ofVal {z : Value} {nl : Bool} {cs : List AVal} (h : (if nl then ofValN z else ofVal z) = .agg cs) : Rels C cs z.cells := by
  have h1 : RV C (if nl then ofValN z else ofVal z) z := by split <;> first | exact RV.ofValN z | exact RV.ofVal z
  rw [h] at h1
  have := h1.cells (by
    obtain ⟨vs, _, _, h2, _⟩ := h1.agg_inv
    exact List.all_eq_true.2 fun a ha => h2 a ha)
  exact this
theorem sound_build (nl : Bool) (t : TypeId) (ps : List (Nat × AVal)) (qs : List (Nat × Value)) {r : AVal} (hm : qs.map (·.1) = ps.map (·.1)) (hrel : ∀ (i : Nat) p q, ps[i]? = some p → qs[i]? = some q → RV C p.2 q.2) (h : abuild P nl t ps = some r) :
    ∃ z, (Instr.build t qs.toArray).run P C.w = .ok z C.w ∧ RV C r z := by
  unfold abuild at h
  have key : ∀ cells, P.built t qs = some cells → (Instr.build t qs.toArray).run P C.w = .ok (.agg cells) C.w := fun cells hb => run_build C.w t qs.toArray cells hb
  cases hi : P.info? t with
  | none => rw [hi] at h; cases h
  | some it =>
    rw [hi] at h
    cases hu : P.underlying t with
    | none => rw [hu] at h; cases h
    | some d =>
      rw [hu] at h
      cases d <;> (try simp only at h) <;> try (cases h; done)
      · rename_i n e
        cases hz : it.zero with
        | none => rw [hz] at h; cases h
        | some z =>
          cases hie : P.info? e with
          | none => rw [hz, hie] at h; cases h
          | some ie =>
            rw [hz, hie] at h
            simp only at h
            cases hv : (if nl = true then ofValN z else ofVal z) <;> rw [hv] at h <;> (try simp only at h) <;> try (cases h; done)
            rename_i cs
            obtain ⟨l, hl, rfl⟩ := Option.map_eq_some_iff.1 h
            obtain ⟨ws, h1, h2⟩ := fill_sound _ ps qs cs z.cells (rels_ofVal hv) hm hrel hl
            exact ⟨_, key ws (by simp only [Program.built, hi, hu, hz, hie]; exact h1), h2.mk_agg⟩
      · rename_i fs
        cases hz : it.zero with
        | none => rw [hz] at h; cases h
        | some z =>
          cases hpl : fs.toList.mapM (fun f => (P.info? f.type).map fun i => (f.offset, i.size)) with
          | none => rw [hz, hpl] at h; cases h
          | some places =>
            rw [hz, hpl] at h
            simp only at h
            cases hv : (if nl = true then ofValN z else ofVal z) <;> rw [hv] at h <;> (try simp only at h) <;> try (cases h; done)
            rename_i cs
            obtain ⟨l, hl, rfl⟩ := Option.map_eq_some_iff.1 h
            obtain ⟨ws, h1, h2⟩ := fill_sound _ ps qs cs z.cells (rels_ofVal hv) hm hrel hl
            exact ⟨_, key ws (by simp only [Program.built, hi, hu, hz, hpl]; exact h1), h2.mk_agg⟩
/-- Elements one behind the other: all cells are filled. -/
theorem fill_seq (sz : Nat) : ∀ (qs : List (Nat × Value)) (k : Nat) (c : Array Value), (∀ (i : Nat) q, qs[i]? = some q → q.1 = k + i ∧ q.2.cells.size = sz) → (k + qs.length) * sz ≤ c.size →
    ∃ ws, Instr.fill (fun i => some (i * sz, sz)) c qs = some ws ∧ ws.size = c.size ∧ (∀ p, p < k * sz → ws[p]? = c[p]?) ∧ ∀ (i : Nat) q, qs[i]? = some q → ∀ p, p < sz → ws[(k + i) * sz + p]? = q.2.cells[p]? := by
  intro qs
  induction qs with
  | nil => intro k c _ _; exact ⟨c, rfl, rfl, fun _ _ => rfl, fun i q h => by simp at h⟩
  | cons q qs ih =>
    intro k c hq hk
    obtain ⟨j, u⟩ := q
    obtain ⟨e1, e2⟩ := hq 0 (j, u) rfl
    simp only [Nat.add_zero] at e1 e2
    subst e1
    have hfit : j * sz + sz ≤ c.size := by
      have : (j + 1) * sz ≤ (j + ((j, u) :: qs).length) * sz := Nat.mul_le_mul_right _ (by simp)
      rw [Nat.add_mul, Nat.one_mul] at this
      omega
    obtain ⟨ws, h1, h2, h3, h4⟩ := ih (j + 1) (setsA c (j * sz) u.cells.toList) (fun i q hi => by
      obtain ⟨a, b⟩ := hq (i + 1) q hi
      exact ⟨by omega, b⟩) (by rw [setsA_size]; rw [List.length_cons] at hk; rw [show j + 1 + qs.length = j + (qs.length + 1) by omega]; exact hk)
    refine ⟨ws, ?_, by rw [h2, setsA_size], fun p hp => ?_, fun i q hi p hp => ?_⟩
    · simp only [Instr.fill]
      rw [if_neg]
      · have := fold_sets (j * sz) u.cells c
        rw [← h1]
        congr 1
      · simp only [ne_eq, decide_not, Bool.or_eq_true, Bool.not_eq_eq_eq_not, Bool.not_true, decide_eq_false_iff_not, decide_eq_true_eq, not_or, Decidable.not_not]
        rw [e2]
        omega
    · rw [h3 p (by rw [Nat.add_mul, Nat.one_mul]; omega), setsA_get, if_neg (by omega)]
    · cases i with
      | zero =>
        simp at hi; subst hi
        rw [Nat.add_zero, h3 (j * sz + p) (by rw [Nat.add_mul, Nat.one_mul]; omega), setsA_get, if_pos (by rw [Array.length_toList, e2]; omega), Array.getElem?_toList]
        congr 1
        omega
      | succ i =>
        have := h4 i q hi p hp
        rw [show j + (i + 1) = j + 1 + i by omega]
        exact this
end
end Go.Proofs.YtleimfinniclgaaDoor.M
