/- The best window and the worst fates, in plain words. -/
import Derived.Test.YtlkklaahnkcnkaaDoorPure2
import Derived.Test.YtlkklaahnkcnkaaDoorW
namespace Go.Proofs.YtlkklaahnkcnkaaDoor.X

/-- The first place at which two lists differ decides. -/
def lexL : List Int → List Int → Bool
  | x :: a, y :: b => if x = y then lexL a b else decide (x < y)
  | _, _ => false
/-- A list is shorter, or as long and less. -/
def lessL (a b : List Int) : Bool := if a.length = b.length then lexL a b else decide (a.length < b.length)
theorem lexL_step {xs ys : List Int} {j : Nat} (hx : j < xs.length) (hy : j < ys.length) : lexL (xs.drop j) (ys.drop j) = if xs[j] = ys[j] then lexL (xs.drop (j + 1)) (ys.drop (j + 1)) else decide (xs[j] < ys[j]) := by
  rw [List.drop_eq_getElem_cons hx, List.drop_eq_getElem_cons hy, lexL]
theorem lexL_end {xs ys : List Int} {j : Nat} (hx : xs.length ≤ j) : lexL (xs.drop j) (ys.drop j) = false := by
  rw [List.drop_eq_nil_of_le hx]; rfl
theorem lexL_nil (ys : List Int) : lexL [] ys = false := rfl
/-- The best window so far. -/
structure Bw where
  w : Nat
  n : Nat
def Bw.see (fs : List Int) (many most : Nat) (b : Bw) (k : Nat) : Bw :=
  if many ≤ (carryF fs many k most).2.acked ∧ (b.w = 0 ∨ (carryF fs many k most).1 < b.n) then ⟨k, (carryF fs many k most).1⟩ else b
def bestF (fs : List Int) (many most : Nat) : Nat → Nat → Bw → Bw
  | 0, _, b => b
  | c + 1, k, b => bestF fs many most c (k + 1) (b.see fs many most k)
theorem bestF_len (fs : List Int) (many most : Nat) (b : Bw) (k : Nat) (hb : b.n ≤ most) : (b.see fs many most k).n ≤ most := by
  unfold Bw.see
  split
  · exact (carryF_ok fs many k most).2
  · exact hb
/-- The worst fates so far. -/
structure Ws where
  best : List Int
  rounds : Int
def Ws.see (many window : Nat) (st : Ws) (fs : List Int) : Ws :=
  if st.rounds < (carryF fs many window 5000).1 ∨ (((carryF fs many window 5000).1 : Int) = st.rounds ∧ lessL fs st.best = true) then ⟨fs, (carryF fs many window 5000).1⟩ else st
def nextF (fs : List Int) (k : Nat) : List Int := fs ++ List.replicate (k - fs.length) 0 ++ [1]
def worstLoop (f : List Int → Ws → Ws) (fs : List Int) : Nat → Nat → Ws → Ws
  | 0, _, st => st
  | n + 1, k, st => worstLoop f fs n (k + 1) (f (nextF fs k) st)
def worst (many window : Nat) : Nat → List Int → Ws → Ws
  | 0, fs, st => st.see many window fs
  | l + 1, fs, st => worstLoop (worst many window l) fs ((carryF fs many window 5000).2.used - fs.length) fs.length (st.see many window fs)
/-- What the adversary keeps: numbers of fates and rounds that are not great. -/
def Ws.Ok (st : Ws) : Prop := st.best.length ≤ 200000 ∧ -1 ≤ st.rounds ∧ st.rounds ≤ 5000
theorem Ws.see_ok {many window : Nat} {st : Ws} {fs : List Int} (h : st.Ok) (hf : fs.length ≤ 200000) : (st.see many window fs).Ok := by
  unfold Ws.see
  have h1 := (carryF_ok fs many window 5000).2
  split
  · exact ⟨hf, by show (-1 : Int) ≤ ((carryF fs many window 5000).1 : Int); omega, by show ((carryF fs many window 5000).1 : Int) ≤ 5000; omega⟩
  · exact h
theorem nextF_len (fs : List Int) (k : Nat) (h : fs.length ≤ k) : (nextF fs k).length = k + 1 := by
  simp [nextF]; omega
theorem used_le (fs : List Int) (many window : Nat) (hw : window ≤ 20) : (carryF fs many window 5000).2.used ≤ 105000 := by
  obtain ⟨h, h1⟩ := carryF_ok fs many window 5000
  have h2 := h.used
  have : (carryF fs many window 5000).1 * (window + 1) ≤ 5000 * 21 := Nat.mul_le_mul h1 (by omega)
  omega
/-- A channel uses as many fates as there are packets and acknowledgements. -/
theorem C9.used_run (fs : List Int) (many window : Nat) : ∀ (k rd : Nat) (s : C9), s.used = s.packets + s.acks → (C9.run fs many window k rd s).2.used = (C9.run fs many window k rd s).2.packets + (C9.run fs many window k rd s).2.acks
  | 0, _, _, h => h
  | k + 1, rd, s, h => by
    rw [C9.run]
    split
    · refine C9.used_run fs many window k (rd + 1) _ ?_
      show s.used + s.cnt many window + one? (s.heard fs many window) = s.packets + s.cnt many window + (s.acks + one? (s.heard fs many window))
      omega
    · exact h
theorem used_eq (fs : List Int) (many window most : Nat) : (carryF fs many window most).2.used = (carryF fs many window most).2.packets + (carryF fs many window most).2.acks := C9.used_run fs many window most 0 C9.start rfl
/-- The first look: nothing was known before. -/
theorem worst_start (many window l : Nat) : worst many window l [] ⟨[], -1⟩ = worst many window l [] ⟨[], (carryF [] many window 5000).1⟩ := by
  have h1 : (⟨[], -1⟩ : Ws).see many window [] = ⟨[], (carryF [] many window 5000).1⟩ := by
    unfold Ws.see
    rw [if_pos (Or.inl (by show (-1 : Int) < ((carryF [] many window 5000).1 : Int); omega))]
  have h2 : (⟨[], (carryF [] many window 5000).1⟩ : Ws).see many window [] = ⟨[], (carryF [] many window 5000).1⟩ := by
    unfold Ws.see
    split
    · rfl
    · rfl
  cases l with
  | zero => rw [worst, worst, h1, h2]
  | succ l => rw [worst, worst, h1, h2]
theorem see_cases (many window : Nat) (st : Ws) (fs : List Int) (rd : Nat) (h : (carryF fs many window 5000).1 = rd) :
    (st.rounds < rd → st.see many window fs = ⟨fs, rd⟩) ∧ ((rd : Int) = st.rounds → lessL fs st.best = true → st.see many window fs = ⟨fs, rd⟩) ∧ ((rd : Int) = st.rounds → lessL fs st.best = false → st.see many window fs = st) ∧ ((rd : Int) < st.rounds → st.see many window fs = st) := by
  subst h
  unfold Ws.see
  refine ⟨fun h => if_pos (.inl h), fun h h1 => if_pos (.inr ⟨h, h1⟩), fun h h1 => if_neg (by rintro (h2 | h2); omega; rw [h1] at h2; cases h2.2), fun h => if_neg (by rintro (h2 | h2); omega; omega)⟩
end Go.Proofs.YtlkklaahnkcnkaaDoor.X
