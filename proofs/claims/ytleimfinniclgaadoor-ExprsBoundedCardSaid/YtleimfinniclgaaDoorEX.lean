/- Expressions as values of the machine. -/
import Derived.Test.YtleimfinniclgaaDoorTY
import Derived.Test.YtleimfinniclgaaDoorEPure
namespace Go.Proofs.YtleimfinniclgaaDoor.M
open Go.Proofs Go.Proofs.YtleimfinniclgaaDoor.X
set_option linter.unusedSimpArgs false
set_option linter.unusedVariables false
mutual
def encX : Ex → AVal
  | .mk o n s a => .agg [.int .i64 o, .int .i64 n, .str s, .lst (encXs a)]
def encXs : List Ex → List AVal
  | [] => []
  | x :: r => encX x :: encXs r
end
theorem encX_eq (x : Ex) : encX x = .agg [.int .i64 x.op, .int .i64 x.n, .str x.name, .lst (encXs x.args)] := by cases x; rw [encX]; rfl
theorem encXs_eq (l : List Ex) : encXs l = l.map encX := by induction l with | nil => rfl | cons x r ih => simp [encXs, ih]
mutual
theorem encX_ids (n : Nat) : ∀ x : Ex, (encX x).idsLt n = true
  | .mk o m s a => by rw [encX]; simp [encXs_ids n a]
theorem encXs_ids (n : Nat) : ∀ l : List Ex, idsLts n (encXs l) = true
  | [] => by rw [encXs]; simp
  | x :: r => by rw [encXs]; simp [encX_ids n x, encXs_ids n r]
end
attribute [simp] encX_ids encXs_ids
@[simp] theorem encX_flat (x : Ex) : (encX x).flat = [.int .i64 x.op, .int .i64 x.n, .str x.name, .lst (encXs x.args)] := by rw [encX_eq]; rfl
@[simp] theorem encXs_len (l : List Ex) : (encXs l).length = l.length := by rw [encXs_eq, List.length_map]
@[simp] theorem encXs_head (l : List Ex) : headOk (encXs l) 4 = true := by cases l with | nil => rfl | cons x r => simp [encXs]
theorem encXs_at {l : List Ex} {k : Nat} {x : Ex} (h : l[k]? = some x) : (encXs l)[k]? = some (encX x) := by rw [encXs_eq, List.getElem?_map, h]; rfl
theorem encXs_app (l r : List Ex) : encXs (l ++ r) = encXs l ++ encXs r := by simp [encXs_eq]
theorem args_lt {x y : Ex} (h : y ∈ x.args) : SizeOf.sizeOf y < SizeOf.sizeOf x := by
  have h1 := List.sizeOf_lt_of_mem h
  cases x
  simp [Ex.args] at h1 ⊢
  omega
def exprT : Recs := ⟨fun _ => ⟨true, [.int, .int, .str, .row 0]⟩, fun _ => true, 100, fun _ => by decide, fun _ h => by cases h⟩
theorem fr_int {T : Recs} {v : AVal} (h : Fr T .int v) : ∃ n, v = .int .i64 n := by cases h; exact ⟨_, rfl⟩
theorem fr_str {T : Recs} {v : AVal} (h : Fr T .str v) : ∃ n, v = .str n := by cases h; exact ⟨_, rfl⟩
theorem fr_row {c : CK} {v : AVal} (h : Fr exprT c v) : ∀ k, c = .row k → ∃ l, v = .lst (encXs l) := by
  induction h with
  | int n => intro k e; cases e
  | bool b => intro k e; cases e
  | str s => intro k e; cases e
  | row k xs hl ha h ih =>
    intro k' _
    have : ∀ x, x ∈ xs → ∃ y, x = encX y := by
      intro x hx
      obtain ⟨cs, rfl⟩ := ha x hx
      have hlen : cs.length = 4 := hl _ hx
      have at_ : ∀ i t, i < 4 → (exprT.of k).cs[i]? = some t → ∃ u, cs[i]? = some u ∧ Fr exprT t u := fun i t hi ht => by
        have hc : cs[i]? = some (cs[i]'(by omega)) := List.getElem?_eq_getElem (by omega)
        exact ⟨_, hc, h _ hx i t _ ht hc⟩
      obtain ⟨u0, e0, h0⟩ := at_ 0 .int (by omega) rfl
      obtain ⟨u1, e1, h1⟩ := at_ 1 .int (by omega) rfl
      obtain ⟨u2, e2, h2⟩ := at_ 2 .str (by omega) rfl
      obtain ⟨u3, e3, h3⟩ := at_ 3 (.row 0) (by omega) rfl
      obtain ⟨l, hl3⟩ := ih _ hx 3 (.row 0) u3 rfl e3 0 rfl
      obtain ⟨o, rfl⟩ := fr_int h0
      obtain ⟨n, rfl⟩ := fr_int h1
      obtain ⟨s, rfl⟩ := fr_str h2
      subst hl3
      refine ⟨.mk o n s l, ?_⟩
      rw [encX]
      congr 1
      refine List.ext_getElem? fun i => ?_
      match i with
      | 0 => exact e0
      | 1 => exact e1
      | 2 => exact e2
      | 3 => exact e3
      | i + 4 => rw [List.getElem?_eq_none (by omega)]; rfl
    clear ih h ha hl
    induction xs with
    | nil => exact ⟨[], rfl⟩
    | cons x r ihr =>
      obtain ⟨y, rfl⟩ := this x (.head _)
      obtain ⟨l, hl⟩ := ihr fun z hz => this z (.tail _ hz)
      injection hl with hl
      exact ⟨y :: l, by rw [hl, encXs]⟩
end Go.Proofs.YtleimfinniclgaaDoor.M
