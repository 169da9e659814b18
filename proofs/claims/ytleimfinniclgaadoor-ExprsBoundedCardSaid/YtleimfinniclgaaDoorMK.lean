/- The machine is right, operation by operation (1). -/
import Derived.Test.YtleimfinniclgaaDoorMF
import Derived.Test.YtleimfinniclgaaDoorMG
namespace Go.Proofs.YtleimfinniclgaaDoor.M
open Go.RowKit
set_option linter.unusedVariables false
set_option linter.unusedSimpArgs false

section
variable {P : Program} {C : Cx} {B : Nat} {F : Nat → Nat → Prop} {w0 : World} {hp : Heap} {tm : List Cell} {ct : Array Value} {v : Value}

theorem RV.int_inv {k : IntKind} {n : Int} (h : RV C (.int k n) v) : v = .int k n := by cases h; rfl
theorem RV.bool_inv {b : Bool} (h : RV C (.bool b) v) : v = .bool b := by cases h; rfl
theorem RV.str_inv {s : ByteArray} (h : RV C (.str s) v) : v = .string s := by cases h; rfl
theorem RV.ptr_inv {id off : Nat} (h : RV C (.ptr id off) v) : v = .pointer (some ⟨C.ι id, off, none⟩) ∧ id < C.nx := by cases h; exact ⟨rfl, by assumption⟩
theorem RV.sl_inv {id off len sz : Nat} {ag : Bool} (h : RV C (.sl id off len sz ag) v) : ∃ c, v = .slice (some ⟨C.ι id, off, none⟩) len c ∧ id < C.nx ∧ len ≤ c ∧ ∀ o, o < off + c * sz → ∃ u, C.w.cell? ⟨C.ι id, o, none⟩ = some u := by
  cases h; exact ⟨_, rfl, by assumption, by assumption, by assumption⟩
theorem RV.agg_inv {cs : List AVal} (h : RV C (.agg cs) v) : ∃ vs : List Value, v = .agg vs.toArray ∧ vs.length = cs.length ∧ (∀ a, a ∈ cs → a.one = true) ∧ ∀ (i : Nat) a u, cs[i]? = some a → vs[i]? = some u → RV C a u := by
  cases h with
  | agg cs vs hl h1 h => exact ⟨vs, rfl, hl, h1, h⟩
theorem RV.tup_inv {cs : List AVal} (h : RV C (.tup cs) v) : ∃ vs : List Value, v = .tuple vs.toArray ∧ vs.length = cs.length ∧ ∀ (i : Nat) a u, cs[i]? = some a → vs[i]? = some u → RV C a u := by
  cases h with
  | tup cs vs hl h => exact ⟨vs, rfl, hl, h⟩
theorem RV.pel_inv {e : AVal} {off : Nat} (h : RV C (.pel e off) v) : ∃ b o, v = .pointer (some ⟨b, o + off, none⟩) ∧ (∀ u, u ∈ e.flat → u.one = true) ∧ ∃ cu : Nat → Value, (∀ (i : Nat) u, e.flat[i]? = some u → C.I b (o + i) ∧ C.w.cell? ⟨b, o + i, none⟩ = some (cu i)) ∧ ∀ (i : Nat) u, e.flat[i]? = some u → RV C u (cu i) := by
  cases h with
  | pel e off b o cu h1 hm h => exact ⟨b, o, rfl, h1, cu, hm, h⟩
theorem RV.clo_inv {f : FuncId} {fs cs : List AVal} (h : RV C (.clo f fs cs) v) : ∃ fv cv : List Value, v = .func (.func f) fv.toArray cv.toArray ∧ fv.length = fs.length ∧ cv.length = cs.length ∧ (∀ (i : Nat) a u, fs[i]? = some a → fv[i]? = some u → RV C a u) ∧ ∀ (i : Nat) a u, cs[i]? = some a → cv[i]? = some u → RV C a u := by
  cases h with
  | clo f fs cs fv cv hf hl h h' => exact ⟨fv, cv, rfl, hf, hl, h, h'⟩
theorem RV.ofCell (u : Value) : RV C (ofCell u) u := by
  unfold M.ofCell
  split
  · exact .int _ _
  · exact .bool _
  · exact .str _
  · exact .nilp
  · exact .nilf
  · exact .nilm
  · refine RV.lst_mk (sz := 1) (Nat.le_refl _) (fun h => absurd rfl h) (fun x hx => by cases hx) (fun u hu => by cases hu) [] rfl (fun i v hi => by simp at hi) (fun i a v hi => by simp [flats] at hi)
  · exact .bad _
theorem RV.ofCellN (u : Value) : RV C (ofCellN u) u := by
  unfold M.ofCellN
  split
  · exact .nils
  · exact RV.ofCell _
theorem RV.ofVal (u : Value) : RV C (ofVal u) u := by
  cases u with
  | agg cs =>
    simp only [M.ofVal]
    split
    · rename_i h
      have := RV.agg (C := C) (cs.toList.map M.ofCell) cs.toList (by simp) (fun a ha => List.all_eq_true.1 h a ha) (fun i a v hi hv => by
        rw [List.getElem?_map, hv] at hi
        injection hi with hi; subst hi
        exact RV.ofCell v)
      simpa using this
    · exact .bad _
  | tuple cs =>
    simp only [M.ofVal]
    split
    · rename_i h
      have e : cs = #[] := Array.eq_empty_of_size_eq_zero h
      subst e
      exact RV.tup [] [] rfl (fun i a v hi => by simp at hi)
    · exact .bad _
  | _ => simp only [M.ofVal]; exact RV.ofCell _
theorem RV.ofValN (u : Value) : RV C (ofValN u) u := by
  cases u with
  | agg cs =>
    simp only [M.ofValN]
    split
    · rename_i h
      have := RV.agg (C := C) (cs.toList.map M.ofCellN) cs.toList (by simp) (fun a ha => List.all_eq_true.1 h a ha) (fun i a v hi hv => by
        rw [List.getElem?_map, hv] at hi
        injection hi with hi; subst hi
        exact RV.ofCellN v)
      simpa using this
    · exact .bad _
  | _ => simp only [M.ofValN]; exact RV.ofVal _
/-- What an operand is. -/
theorem WRel.ev (h : WRel C B F w0 hp tm ct) (x : Operand) (ds : List Deferred) : RV C (ev tm x).1 (Act.eval ⟨ct, ds⟩ x) := by
  cases x with
  | tmp t =>
    simp only [M.ev, Act.eval]
    cases ht : tm[t]? with
    | none => exact .bad _
    | some c =>
      obtain ⟨u, hu, hr⟩ := h.tmp t c ht
      have : ct.getD t undef = u := by
        have hlt := (Array.getElem?_eq_some_iff.1 hu).1
        have he := (Array.getElem?_eq_some_iff.1 hu).2
        simp [Array.getD, hlt, he]
      rw [this]
      exact hr
  | const u => exact RV.ofVal u
  | global g => exact .bad _
  | func f => exact RV.clo f [] [] [] [] rfl rfl (fun i a v hi => by simp at hi) (fun i a v hi => by simp at hi)

/-- The operation has gone through: what it left. -/
def Done (C : Cx) (B : Nat) (F : Nat → Nat → Prop) (w0 : World) (tm : List Cell) (a : Act) (dst : Option Tmp) (q : Out) (r : Result Next) : Prop :=
  ∃ D n u, r = .ok n D.w ∧ (n = .value u ∨ (n = .skip ∧ u = undef)) ∧ C.Le D ∧ D.nx = q.nx ∧ WRel D B F w0 q.hp (q.put dst tm).tm (a.put dst u).tmps ∧ (a.put dst u).defers = a.defers
theorem put_defers (a : Act) (dst : Option Tmp) (u : Value) : (a.put dst u).defers = a.defers := by cases dst <;> rfl
theorem put_tmps (a : Act) (d : Nat) (u : Value) : (a.put (some d) u).tmps = a.tmps.setIfInBounds d u := rfl

theorem done_val (h : WRel C B F w0 hp tm ct) (ds : List Deferred) (dst : Option Tmp) {x : AVal} {u : Value} (hx : RV C x u) : Done C B F w0 tm ⟨ct, ds⟩ dst (Out.val C.nx hp x) (.ok (.value u) C.w) := by
  refine ⟨C, _, u, rfl, .inl rfl, Cx.Le.refl C, rfl, ?_, put_defers _ _ _⟩
  cases dst with
  | none => exact h
  | some d => exact h.put d hx
theorem unflag_some {t : Nat} {c : Cell} (h : tm[t]? = some c) : unflag tm t = tm.set t (c.1, false) := by simp [unflag, h]
/-- nil is owned. -/
theorem WRel.putn (h : WRel C B F w0 hp tm ct) (d : Nat) {b : Bool} : WRel C B F w0 hp (tm.set d (.lst [], b)) (ct.setIfInBounds d (.slice none 0 0)) := by
  cases b with
  | false => exact h.put d (by have := RV.ofCell (C := C) (.slice none 0 0); exact this)
  | true =>
    refine h.puto d (by have := RV.ofCell (C := C) (.slice none 0 0); exact this) ⟨⟨[], none, 0, 0, rfl, rfl, fun _ => rfl⟩, fun b o ht => ?_⟩ (fun k v' cv' _ _ b o ht => ?_)
    · obtain ⟨_, _, _, _, _, _, _, h2, _⟩ := ht; simp at h2
    · obtain ⟨_, _, _, _, _, _, _, h2, _⟩ := ht; simp at h2
theorem isNil_eq {u : Value} (h : isNil u = true) : u = .slice none 0 0 := by
  unfold isNil at h
  split at h
  · rfl
  · cases h
theorem sound_move (h : WRel C B F w0 hp tm ct) (ds : List Deferred) (dst : Option Tmp) (take : Bool) (x : Operand) {q : Out} (hq : amove take x (ev tm x) C.nx hp = some q) : Done C B F w0 tm ⟨ct, ds⟩ dst q (.ok (.value (Act.eval ⟨ct, ds⟩ x)) C.w) := by
  have hx := h.ev x ds
  cases x with
  | tmp t =>
    generalize hc : M.ev tm (.tmp t) = c at hq hx
    obtain ⟨a, f⟩ := c
    cases f with
    | false => simp only [amove] at hq; injection hq with hq; subst hq; exact done_val h ds dst hx
    | true =>
      simp only [amove] at hq
      split at hq
      · injection hq with hq; subst hq
        have ht : tm[t]? = some (a, true) := by
          simp only [M.ev] at hc
          cases ht : tm[t]? with
          | none => rw [ht] at hc; simp at hc
          | some c => rw [ht] at hc; simp at hc; rw [hc]
        obtain ⟨u, hu, _⟩ := h.tmp t _ ht
        have hev : Act.eval ⟨ct, ds⟩ (.tmp t) = u := by
          have hlt := (Array.getElem?_eq_some_iff.1 hu).1
          have he := (Array.getElem?_eq_some_iff.1 hu).2
          simp [Act.eval, Array.getD, hlt, he]
        rw [hev]
        refine ⟨C, _, u, rfl, .inl rfl, Cx.Le.refl C, rfl, ?_, put_defers _ _ _⟩
        cases dst with
        | none => simp only [Out.put, unflag_some ht]; exact h.drop t ht
        | some d => simp only [Out.put, unflag_some ht]; exact h.puts d t ht hu
      · injection hq with hq; subst hq; exact done_val h ds dst hx
  | const u =>
    simp only [amove, M.ev] at hq
    injection hq with hq; subst hq
    refine ⟨C, _, u, rfl, .inl rfl, Cx.Le.refl C, rfl, ?_, put_defers _ _ _⟩
    cases dst with
    | none => exact h
    | some d =>
      show WRel C B F w0 hp (tm.set d (M.ofVal u, isNil u)) (ct.setIfInBounds d u)
      cases hn : isNil u with
      | false => exact h.put d (RV.ofVal u)
      | true => obtain rfl := isNil_eq hn; exact h.putn d
  | global g => simp only [amove, M.ev] at hq; injection hq with hq; subst hq; exact done_val h ds dst hx
  | func f => simp only [amove, M.ev] at hq; injection hq with hq; subst hq; exact done_val h ds dst hx
end
end Go.Proofs.YtleimfinniclgaaDoor.M
