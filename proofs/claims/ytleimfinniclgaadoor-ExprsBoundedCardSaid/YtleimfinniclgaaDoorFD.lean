/- Bounds: maps of spans; what bounds are, in plain words. -/
import Derived.Test.YtleimfinniclgaaDoorFC
import Derived.Sort.Walk0
namespace Go.Proofs.YtleimfinniclgaaDoor.M
open Go.Proofs Go.Proofs.YtleimfinniclgaaDoor.X
set_option linter.unusedSimpArgs false
set_option linter.unusedVariables false
set_option maxRecDepth 100000
set_option pp.deepTerms false
set_option pp.deepTerms.threshold 6
set_option maxHeartbeats 4000000
def lookB : List Sp → ByteArray → IP
  | [], _ => (0, 999)
  | x :: r, s => if (s.toList == x.name.toList) = true then (x.low, x.high) else lookB r s
def appB (op : Int) : List IP → IP
  | [x] => bndF op x x x
  | [x, y] => bndF op x y y
  | [x, y, z] => bndF op x y z
  | _ => (0, 0)
mutual
def bX (l : List Sp) : Ex → IP
  | .mk o n s a => if o = 1 then (n, n) else if o = 2 then lookB l s else appB o (bXs l a)
def bXs (l : List Sp) : List Ex → List IP
  | [] => []
  | x :: r => bX l x :: bXs l r
end
theorem bX_eq (l : List Sp) (x : Ex) : bX l x = if x.op = 1 then (x.n, x.n) else if x.op = 2 then lookB l x.name else appB x.op (bXs l x.args) := by cases x; rw [bX]; rfl
theorem bXs_eq (l : List Sp) (r : List Ex) : bXs l r = r.map (bX l) := by induction r with | nil => rfl | cons x r ih => simp [bXs, ih]
theorem bndF_ok {op : Int} {x y z : IP} (hx : OkB x) (hy : OkB y) (hz : OkB z) : OkB (bndF op x y z) := by
  obtain ⟨x1, x2, x3⟩ := hx
  obtain ⟨y1, y2, y3⟩ := hy
  obtain ⟨z1, z2, z3⟩ := hz
  have q1 := mul_small (a := x.2) (b := y.2) (by omega) (by omega) (by omega) (by omega)
  have q2 := mul_small (a := x.1) (b := y.1) (by omega) (by omega) (by omega) (by omega)
  have q3 : x.1 * y.1 ≤ x.2 * y.2 := Int.mul_le_mul (by omega) (by omega) (by omega) (by omega)
  unfold bndF wrapB tr OkB
  generalize x.1 * y.1 = m at *
  generalize x.2 * y.2 = n at *
  repeat' split
  all_goals (try simp only [decide_eq_true_eq, Bool.not_eq_true', decide_eq_false_iff_not] at *)
  all_goals (try simp only [decide_eq_true_eq, Bool.not_eq_true, decide_eq_false_iff_not])
  all_goals first | omega | grind
theorem exF_zero {x : Ex} {d : Int} (h : exF x d = 0) : exOwn x d = 0 ∧ exsF x.args (d + 1) = 0 := by
  rw [exF_eq] at h
  split at h
  · exact ⟨by assumption, h⟩
  · contradiction
theorem exsF_mem {l : List Ex} {d : Int} (h : exsF l d = 0) : ∀ x ∈ l, exF x d = 0 := by
  induction l with
  | nil => intro x hx; cases hx
  | cons y r ih =>
    rw [exsF] at h
    split at h
    · rename_i h0
      intro x hx
      cases hx with
      | head => exact h0
      | tail _ hx => exact ih h x hx
    · contradiction
theorem own_zero {x : Ex} {d : Int} (h : exOwn x d = 0) : d ≤ 20 ∧ 1 ≤ x.op ∧ x.op ≤ 9 ∧ (x.args.length : Int) = arityF x.op ∧ (x.op = 1 ∨ x.n = 0) ∧ 0 ≤ x.n ∧ x.n ≤ 999 ∧ (x.op ≠ 2 ∨ nameB x.name = true) ∧ (x.op = 2 ∨ x.name.toList = []) := by
  unfold exOwn at h
  have ha : ¬ arityF x.op < 0 → 1 ≤ x.op ∧ x.op ≤ 9 := by
    unfold arityF
    intro h1
    split at h1
    · omega
    · omega
  grind (splits := 30)
theorem spAt_zero {xs : List Sp} (h : ∀ j, j < xs.length → spAt xs j = 0) : (∀ x ∈ xs, OkB (x.low, x.high)) ∧ ∀ (j : Nat) (x y : Sp), xs[j]? = some x → xs[j + 1]? = some y → leB y.name x.name = false := by
  constructor
  · intro x hx
    obtain ⟨j, hj, rfl⟩ := List.getElem_of_mem hx
    have := h j hj
    simp only [spAt, List.getElem?_eq_getElem hj] at this
    unfold OkB
    simp only [outside] at this
    grind
  · intro j x y hx hy
    have hj := (List.getElem?_eq_some_iff.1 hy).1
    have := h (j + 1) hj
    simp only [spAt, hy, Nat.add_sub_cancel, hx] at this
    cases hq : leB y.name x.name with
    | false => rfl
    | true => simp only [hq] at this; grind
theorem spGo_zero {xs : List Sp} : ∀ (n k : Nat), spGo xs n k = 0 → ∀ j, k ≤ j → j < k + n → spAt xs j = 0 := by
  intro n
  induction n with
  | zero => intro k _ j h1 h2; omega
  | succ n ih =>
    intro k h j h1 h2
    rw [spGo] at h
    split at h
    · by_cases e : j = k
      · subst e; assumption
      · exact ih (k + 1) h j (by omega) (by omega)
    · contradiction
theorem spsF_zero {xs : List Sp} (h : spsF xs = 0) : xs.length ≤ 2000 ∧ (∀ x ∈ xs, OkB (x.low, x.high)) ∧ ∀ (j : Nat) (x y : Sp), xs[j]? = some x → xs[j + 1]? = some y → leB y.name x.name = false := by
  unfold spsF at h
  split at h
  · contradiction
  · rename_i hl
    have := spAt_zero (xs := xs) fun j hj => spGo_zero _ _ h j (by omega) (by omega)
    exact ⟨by omega, this.1, this.2⟩
theorem leB_lt {a b : ByteArray} (h : leB a b = false) : b.toList < a.toList := by
  unfold leB at h
  rw [bytesLess_eq] at h
  simp only [Bool.or_eq_false_iff, decide_eq_false_iff_not, beq_eq_false_iff_ne] at h
  rcases List.le_iff_lt_or_eq.1 (List.not_lt.1 h.1) with h1 | h1
  · exact h1
  · exact absurd h1.symm h.2
/-- The names are all different. -/
theorem names_ne {xs : List Sp} (h : ∀ (j : Nat) (x y : Sp), xs[j]? = some x → xs[j + 1]? = some y → leB y.name x.name = false) : ∀ (i j : Nat) (x y : Sp), i < j → xs[i]? = some x → xs[j]? = some y → x.name.toList < y.name.toList := by
  intro i j x y hij hx hy
  induction j generalizing y with
  | zero => omega
  | succ j ih =>
    have hj := (List.getElem?_eq_some_iff.1 hy).1
    have hz := List.getElem?_eq_getElem (l := xs) (i := j) (by omega)
    have h1 := leB_lt (h j _ y hz hy)
    by_cases e : i = j
    · subst e
      rw [hx] at hz; cases hz; exact h1
    · exact List.lt_trans (ih _ (by omega) hz) h1
end Go.Proofs.YtleimfinniclgaaDoor.M
