/- append: in place, or in a new block. -/
import Derived.Test.YtleimfinniclgaaDoorMD
namespace Go.Proofs.YtleimfinniclgaaDoor.M
open Go.RowKit
set_option linter.unusedVariables false
set_option linter.unusedSimpArgs false

section
variable {P : Program}
theorem add_at (b o i : Nat) : (⟨b, o, none⟩ : Addr).add i = ⟨b, o + i, none⟩ := by unfold Addr.add; split <;> simp_all
theorem run_firstCells (w : World) (sz n c : Nat) (b o : Nat) (vs : List Value) (hl : vs.length = n * sz) (h : ∀ (i : Nat) v, vs[i]? = some v → w.cell? ⟨b, o + i, none⟩ = some v) :
    (Builtin.firstCells sz n (.slice (some ⟨b, o, none⟩) n c)).run P w = .ok vs.toArray w := by
  unfold Builtin.firstCells
  rw [← hl]
  exact run_loadCells_list w _ vs fun j v hj => by rw [add_at]; exact h j v hj
theorem run_firstCells' (w : World) (sz n c : Nat) (A : Option Addr) (vs : List Value) (hl : vs.length = n * sz) (h : ∀ (i : Nat) v, vs[i]? = some v → ∃ b o, A = some ⟨b, o, none⟩ ∧ w.cell? ⟨b, o + i, none⟩ = some v) :
    (Builtin.firstCells sz n (.slice A n c)).run P w = .ok vs.toArray w ∨ (vs = [] ∧ A ≠ none) := by
  cases vs with
  | nil =>
    cases A with
    | none => left; rfl
    | some a => right; exact ⟨rfl, by simp⟩
  | cons v r =>
    obtain ⟨b, o, rfl, _⟩ := h 0 v rfl
    left
    refine run_firstCells w sz n c b o (v :: r) hl fun i u hu => ?_
    obtain ⟨b', o', e, h2⟩ := h i u hu
    injection e with e; injection e with e1 e2
    subst e1 e2
    exact h2
theorem run_first (w : World) (sz n c : Nat) (A : Option Addr) (vs : List Value) (hl : vs.length = n * sz) (h : ∀ (i : Nat) v, vs[i]? = some v → ∃ b o, A = some ⟨b, o, none⟩ ∧ w.cell? ⟨b, o + i, none⟩ = some v) :
    (Builtin.firstCells sz n (.slice A n c)).run P w = .ok vs.toArray w := by
  rcases run_firstCells' (P := P) w sz n c A vs hl h with h1 | ⟨rfl, h2⟩
  · exact h1
  · cases A with
    | none => exact absurd rfl h2
    | some a =>
      unfold Builtin.firstCells
      have hz : n * sz = 0 := by simpa using hl.symm
      rw [hz]
      rfl
/-- append that fits. -/
theorem run_append_in (w : World) (t t2 ty e : TypeId) (i : TypeInfo) (d2 : TypeDesc) (ht : P.underlying t = some (.slice e)) (ht2 : P.underlying t2 = some d2) (hd2 : ∀ k, d2 ≠ .int k) (hi : P.info? e = some i)
    (A : Option Addr) (n c m : Nat) (x : Value) (ys : List Value) (hlen : (Builtin.lenOf x).run P w = .ok m w) (hx : (Builtin.firstCells i.size m x).run P w = .ok ys.toArray w) (hfit : n + m ≤ c)
    (w' : World) (hst : ∀ a, A = some a → (storeCells (a.add (n * i.size)) ys).run P w = .ok () w') (hno : A = none → w' = w) :
    (Builtin.append_ #[t, t2] ty #[.slice A n c, x]).run P w = .ok (.slice A (n + m) c) w' := by
  have hz : (match d2 with | .int _ => true | _ => false) = false := by
    cases d2 <;> first | rfl | exact absurd rfl (hd2 _)
  cases A with
  | none =>
    rw [hno rfl]
    simp [Builtin.append_, run_underlying ht, run_underlying ht2, sizeOf, typeInfo, hi, hz, hlen, hx, hfit]
  | some a =>
    have := hst a rfl
    simp [Builtin.append_, run_underlying ht, run_underlying ht2, sizeOf, typeInfo, hi, hz, hlen, hx, hfit, this]
/-- append that does not fit. -/
theorem run_append_out (w : World) (t t2 ty e : TypeId) (i : TypeInfo) (z : Value) (d2 : TypeDesc) (ht : P.underlying t = some (.slice e)) (ht2 : P.underlying t2 = some d2) (hd2 : ∀ k, d2 ≠ .int k) (hi : P.info? e = some i) (hz : i.zero = some z)
    (A : Option Addr) (n c m : Nat) (x : Value) (xs ys : List Value) (hlen : (Builtin.lenOf x).run P w = .ok m w) (hfit : ¬ n + m ≤ c)
    (hx : (Builtin.firstCells i.size m x).run P w.drew = .ok ys.toArray w.drew) (hs : (Builtin.firstCells i.size n (.slice A n c)).run P w.drew = .ok xs.toArray w.drew) (hb : (n + m) * i.bytes ≤ 140737488355328) (hbz : i.bytes ≠ 0) :
    (Builtin.append_ #[t, t2] ty #[.slice A n c, x]).run P w = .ok (.slice (some ⟨w.heap.size, 0, none⟩) (n + m) (grownCap w (n + m) c e)) (w.drew.alloc (.cells (xs.toArray ++ ys.toArray ++ Builtin.zeroCells z.cells (grownCap w (n + m) c e - (n + m))) e)) := by
  have hzz : (match d2 with | .int _ => true | _ => false) = false := by
    cases d2 <;> first | rfl | exact absurd rfl (hd2 _)
  have h48 := growslice_fits (bytes := i.bytes) (show c < n + m by omega) hb
  have h48' : ¬ (281474976710656 < Builtin.nextslicecap (n + m) c * i.bytes) := by omega
  simp [Builtin.append_, run_underlying ht, run_underlying ht2, sizeOf, typeInfo, zeroValue, hi, hz, hzz, hlen, hfit, h48', Question.forced, hx, hs, hbz, newRow, grownCap]
  congr 2
  apply Array.ext'
  simp [List.append_assoc]
end

section
variable {C : Cx} {B : Nat} {F : Nat → Nat → Prop} {w0 : World} {hp : Heap} {tm : List Cell} {ct : Array Value}
def Cx.fill (C : Cx) (b lo : Nat) (vs : List Value) : Cx := { ι := C.ι, I := fun b' o => C.I b' o ∨ (b' = b ∧ lo ≤ o ∧ o < lo + vs.length), nx := C.nx, w := C.w.setCells b lo vs }
/-- A slot's free room is written, and stays from now on. -/
theorem WRel.fill (h : WRel C B F w0 hp tm ct) {s : Nat} {v : AVal} {cv : Value} (hs : tm[s]? = some (v, true)) (hcs : ct[s]? = some cv) (b lo : Nat) (vs : List Value) (hne : vs ≠ []) (hin : ∀ o, lo ≤ o → o < lo + vs.length → Tail v cv b o) :
    C.Le (C.fill b lo vs) ∧ WRel (C.fill b lo vs) B F w0 hp (tm.set s (v, false)) ct := by
  have ow : Owned C hp tm ct (0, s) v cv := ⟨hs, hcs⟩
  have ok := h.own _ _ _ ow
  have hpos : 0 < vs.length := List.length_pos_iff.2 hne
  obtain ⟨hB, _, _, hlive, _, _⟩ := ok.cells b lo (hin lo (Nat.le_refl _) (by omega))
  have hout : ∀ b' o, (b' = b → o < lo ∨ lo + vs.length ≤ o) → (C.fill b lo vs).w.cell? ⟨b', o, none⟩ = C.w.cell? ⟨b', o, none⟩ := fun b' o hbo =>
    World.cell?_setCells_out b vs lo C.w ⟨b', o, none⟩ fun e _ => hbo e
  have hnot : ∀ b' o, ¬ Tail v cv b' o → (b' = b → o < lo ∨ lo + vs.length ≤ o) := fun b' o hn e => by
    subst e
    rcases Nat.lt_or_ge o lo with h1 | h1
    · exact .inl h1
    · rcases Nat.lt_or_ge o (lo + vs.length) with h2 | h2
      · exact absurd (hin o h1 h2) hn
      · exact .inr h2
  have hfr : ∀ b' o, (C.fill b lo vs).w.frozen? ⟨b', o, none⟩ = C.w.frozen? ⟨b', o, none⟩ := fun b' o => World.frozen?_setCells b vs lo C.w _
  have hIT : ∀ b' o, C.I b' o → ¬ Tail v cv b' o := fun b' o hI ht => (ok.cells b' o ht).2.1 hI
  have le : C.Le (C.fill b lo vs) := ⟨Nat.le_refl _, fun _ _ => rfl, fun _ _ h => .inl h, fun b' o hI => hout b' o (hnot b' o (hIT b' o hI)), fun b' o u hu => cell_setCells_ex _ _ _ _ hu⟩
  have hblk : ∀ id, (hget hp id).isSome = true → (C.fill b lo vs).w.heap[C.ι id]? = C.w.heap[C.ι id]? := fun id hid => setCells_other b _ (fun e => hlive id hid e.symm) _ _ _
  have hown : ∀ k v' cv', Owned (C.fill b lo vs) hp (tm.set s (v, false)) ct k v' cv' → k ≠ (0, s) ∧ Owned C hp tm ct k v' cv' := by
    intro k v' cv' ho
    obtain ⟨i, t⟩ := k
    cases i with
    | zero =>
      obtain ⟨h1, h2⟩ := ho
      rw [List.getElem?_set] at h1
      by_cases e : s = t
      · subst e
        rw [if_pos rfl] at h1
        split at h1 <;> simp at h1
      · rw [if_neg e] at h1
        exact ⟨by simp; exact fun q => e q.symm, h1, h2⟩
    | succ j =>
      obtain ⟨cs', vs', ty', h1, h2, h3, h4⟩ := ho
      have hj : (hget hp j).isSome = true := by rw [h1]; rfl
      have h3' : (C.fill b lo vs).w.heap[C.ι j]? = some (.cells vs' ty' (0, 0)) := h3
      rw [hblk j hj] at h3'
      exact ⟨by simp, cs', vs', ty', h1, h2, h3', h4⟩
  refine ⟨le, ⟨below_setCells b hB vs lo _ h.heap.below, h.heap.base, h.heap.ids, fun id cs hid => ?_, h.heap.inj, fun i hi => ?_, fun b' o hI => ?_, fun b' o hF => ?_, fun id es hg => (h.heap.mapb id es hg).mono le (hblk id (by rw [hg]; rfl))⟩, by simp [h.size], fun t c ht => ?_, fun k v' cv' ho => ?_, fun k1 k2 v1 c1 v2 c2 h1 h2 hne => ?_⟩
  · obtain ⟨vs', ty', q1, q2, q3⟩ := h.heap.blk id cs hid
    refine ⟨vs', ty', (hblk id (by rw [hid]; rfl)).trans q1, q2, fun i c hi => ?_⟩
    obtain ⟨r1, u, r2, r3⟩ := q3 i c hi
    exact ⟨r1, u, r2, r3.mono le⟩
  · obtain ⟨q1, q2, q3⟩ := h.heap.out i hi
    refine ⟨q1, by show _ < (C.w.setCells b lo vs).heap.size; rw [setCells_size]; exact q2, fun o => ⟨fun hI => ?_, (q3 o).2⟩⟩
    rcases hI with hI | ⟨e, _⟩
    · exact (q3 o).1 hI
    · exact hlive i hi e.symm
  · rcases hI with hI | ⟨rfl, h1, h2⟩
    · obtain ⟨u, hu⟩ := h.heap.imm b' o hI
      exact ⟨u, (le.cell b' o hI).trans hu⟩
    · have := World.cell?_setCells_in b' vs lo C.w (fun j hj => by
        obtain ⟨_, _, _, _, ⟨u, hu⟩, _⟩ := ok.cells b' (lo + j) (hin _ (by omega) (by omega))
        rw [hu]; rfl) (o - lo) (by omega)
      rw [show lo + (o - lo) = o by omega] at this
      exact ⟨_, this⟩
  · obtain ⟨⟨u, hu⟩, q1, q2⟩ := h.heap.far b' o hF
    have hn : ¬ Tail v cv b' o := fun ht => (ok.cells b' o ht).2.2.1 hF
    refine ⟨⟨u, (hout b' o (hnot b' o hn)).trans hu⟩, (hfr b' o).trans q1, fun hI => ?_⟩
    rcases hI with hI | ⟨e, h1, h2⟩
    · exact q2 hI
    · subst e; exact hn (hin o h1 h2)
  · rw [List.getElem?_set] at ht
    by_cases e : s = t
    · subst e
      rw [if_pos rfl] at ht
      split at ht
      · injection ht with ht; subst ht
        obtain ⟨u, r1, r2⟩ := h.tmp s _ hs
        exact ⟨u, r1, r2.mono le⟩
      · cases ht
    · rw [if_neg e] at ht
      obtain ⟨u, r1, r2⟩ := h.tmp t c ht
      exact ⟨u, r1, r2.mono le⟩
  · obtain ⟨q1, q2⟩ := hown k v' cv' ho
    have q := h.own k v' cv' q2
    refine ⟨q.form, fun b' o ht => ?_⟩
    obtain ⟨a1, a2, a3, a4, ⟨u, a5⟩, a6⟩ := q.cells b' o ht
    have hn : ¬ Tail v cv b' o := h.sep _ _ _ _ _ _ q2 ow q1 b' o ht
    refine ⟨a1, fun hI => ?_, a3, a4, ⟨u, (hout b' o (hnot b' o hn)).trans a5⟩, (hfr b' o).trans a6⟩
    rcases hI with hI | ⟨e, h1, h2⟩
    · exact a2 hI
    · subst e; exact hn (hin o h1 h2)
  · exact h.sep k1 k2 v1 c1 v2 c2 (hown _ _ _ h1).2 (hown _ _ _ h2).2 hne
end
end Go.Proofs.YtleimfinniclgaaDoor.M
