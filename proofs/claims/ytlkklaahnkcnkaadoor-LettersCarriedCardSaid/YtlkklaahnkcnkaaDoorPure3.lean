/- Fates as texts, in plain words. -/
import Derived.Test.YtlkklaahnkcnkaaDoorPure
import Derived.Lib.Strings
namespace Go.Proofs.YtlkklaahnkcnkaaDoor.X
open Go

def signsL : List UInt8 := [46, 120, 50, 126]
def signOf (x : Int) : UInt8 := signsL.getD x.toNat 0
/-- The bytes of fates. -/
def fatesB (l : List Int) : List UInt8 := l.map signOf
def fatesT (l : List Int) : ByteArray := ⟨(fatesB l ++ [10]).toArray⟩
theorem fatesB_snoc (l : List Int) (x : Int) : fatesB (l ++ [x]) = fatesB l ++ [signOf x] := by simp [fatesB]
theorem fatesB_len (l : List Int) : (fatesB l).length = l.length := by simp [fatesB]
/-- lossy.Text. -/
def textF (l : List Int) : ByteArray := if fatesF l = 0 then fatesT l else ByteArray.empty
/-- The fates that bytes tell. -/
def fatesOf (l : List UInt8) : List Int := l.map (Lib.indexByte signsL)
/-- lossy.Read. -/
def readF (l : List UInt8) : List Int × Int :=
  if 200000 < l.length then ([], 2) else
  if Lib.hasSuffix l [10] = false then ([], 9) else
  if (Lib.trimSuffix l [10]).all (signsL.contains ·) = false then ([], 9) else
  if fatesF (fatesOf (Lib.trimSuffix l [10])) = 0 then (fatesOf (Lib.trimSuffix l [10]), 0) else ([], fatesF (fatesOf (Lib.trimSuffix l [10])))
theorem readF_large {l : List UInt8} (h : 200000 < l.length) : readF l = ([], 2) := by unfold readF; rw [if_pos h]
theorem readF_open {l : List UInt8} (h : ¬ 200000 < l.length) (h1 : Lib.hasSuffix l [10] = false) : readF l = ([], 9) := by unfold readF; rw [if_neg h, if_pos h1]
theorem readF_alien {l : List UInt8} (h : ¬ 200000 < l.length) (h1 : Lib.hasSuffix l [10] = true) (h2 : (Lib.trimSuffix l [10]).all (signsL.contains ·) = false) : readF l = ([], 9) := by
  unfold readF; rw [if_neg h, if_neg (by rw [h1]; decide), if_pos h2]
theorem readF_wrong {l : List UInt8} (h : ¬ 200000 < l.length) (h1 : Lib.hasSuffix l [10] = true) (h2 : (Lib.trimSuffix l [10]).all (signsL.contains ·) = true) (h3 : fatesF (fatesOf (Lib.trimSuffix l [10])) ≠ 0) : readF l = ([], fatesF (fatesOf (Lib.trimSuffix l [10]))) := by
  unfold readF; rw [if_neg h, if_neg (by rw [h1]; decide), if_neg (by rw [h2]; decide), if_neg h3]
theorem readF_right {l : List UInt8} (h : ¬ 200000 < l.length) (h1 : Lib.hasSuffix l [10] = true) (h2 : (Lib.trimSuffix l [10]).all (signsL.contains ·) = true) (h3 : fatesF (fatesOf (Lib.trimSuffix l [10])) = 0) : readF l = (fatesOf (Lib.trimSuffix l [10]), 0) := by
  unfold readF; rw [if_neg h, if_neg (by rw [h1]; decide), if_neg (by rw [h2]; decide), if_pos h3]
theorem trimSuffix_le (l p : List UInt8) : (Lib.trimSuffix l p).length ≤ l.length := by
  unfold Lib.trimSuffix
  split
  · rw [List.length_take]; omega
  · omega
theorem sign_iff {k : Int} {c : UInt8} (h : k = Lib.indexByte signsL c) : 0 ≤ k ↔ signsL.contains c = true := by
  rw [h, indexByte_mem]; simp
theorem errFirst_zero {α : Type} (f : α → Int) : ∀ l : List α, errFirst f l = 0 → ∀ x ∈ l, f x = 0
  | [], _, x, hx => by cases hx
  | y :: l, h, x, hx => by
    rw [errFirst] at h
    by_cases hy : f y = 0
    · rw [if_pos hy] at h
      rcases List.mem_cons.1 hx with rfl | hx
      · exact hy
      · exact errFirst_zero f l h x hx
    · rw [if_neg hy] at h; exact absurd h hy
/-- Right fates are signs. -/
theorem fates_right {l : List Int} (h : fatesF l = 0) {j : Nat} (hj : j < l.length) : 0 ≤ l[j] ∧ l[j] ≤ 3 := by
  unfold fatesF at h
  split at h
  · cases h
  · have h2 := errFirst_zero fateF l h l[j] (List.getElem_mem _)
    unfold fateF at h2
    split at h2
    · assumption
    · cases h2
theorem fates_short {l : List Int} (h : fatesF l = 0) : l.length ≤ 2000 := by
  unfold fatesF at h
  split at h
  · cases h
  · omega
theorem signOf_at {k : Nat} (h : k < 4) : signOf k = signsL[k]'h := by
  have : k = 0 ∨ k = 1 ∨ k = 2 ∨ k = 3 := by omega
  rcases this with rfl | rfl | rfl | rfl <;> rfl
end Go.Proofs.YtlkklaahnkcnkaaDoor.X
