/- Plain words: names, fates, letters. No program in sight. -/
import Derived.Lib.Bytealg
import Derived.Lib.IndexLaws
import Derived.Lib.SlTrimSet
namespace Go.Proofs.YtleimfinniclgaaDoor.X
open Go

def smalls : List UInt8 := [97, 98, 99, 100, 101, 102, 103, 104, 105, 106, 107, 108, 109, 110, 111, 112, 113, 114, 115, 116, 117, 118, 119, 120, 121, 122]
def wordBytes : List UInt8 := [97, 98, 99, 100, 101, 102, 103, 104, 105, 106, 107, 108, 109, 110, 111, 112, 113, 114, 115, 116, 117, 118, 119, 120, 121, 122, 48, 49, 50, 51, 52, 53, 54, 55, 56, 57, 95]
def isWordL (l : List UInt8) : Bool := l == [112, 114, 111, 99] || l == [109, 97, 105, 110] || l == [105, 102] || l == [101, 108, 115, 101]
/-- A name of a play. -/
def nameL (l : List UInt8) : Bool := decide (1 ≤ l.length ∧ l.length ≤ 40) && !isWordL l && smalls.contains (l.headD 0) && l.all (wordBytes.contains ·)
def nameB (s : ByteArray) : Bool := nameL s.data.toList

theorem indexByte_mem (l : List UInt8) (c : UInt8) : 0 ≤ Lib.indexByte l c ↔ c ∈ l := by
  induction l with
  | nil => simp [Lib.indexByte]
  | cons b l ih =>
    have hge := Lib.indexByte_ge l c
    unfold Lib.indexByte
    by_cases h : b = c
    · subst h; simp
    · have h1 : (b == c) = false := by simpa using h
      rw [h1]
      have h2 : c ∈ b :: l ↔ c ∈ l := by
        simp only [List.mem_cons]
        constructor
        · rintro (h' | h')
          · exact absurd h'.symm h
          · exact h'
        · exact Or.inr
      rw [h2, ← ih]
      by_cases h3 : Lib.indexByte l c = -1
      · simp [h3]
      · have h4 : (Lib.indexByte l c == -1) = false := by simpa using h3
        simp only [h4, Bool.false_eq_true, if_false]
        omega
theorem indexByte_lt (l : List UInt8) (c : UInt8) : Lib.indexByte l c < l.length ∧ -1 ≤ Lib.indexByte l c := by
  refine ⟨?_, Lib.indexByte_ge l c⟩
  induction l with
  | nil => simp [Lib.indexByte]
  | cons b l ih =>
    unfold Lib.indexByte
    rw [List.length_cons]
    split
    · omega
    · split <;> omega
theorem dropWhile_nil {α : Type} (p : α → Bool) (l : List α) : l.dropWhile p = [] ↔ l.all p = true := by
  induction l with
  | nil => simp
  | cons a l ih =>
    rw [List.dropWhile_cons]
    by_cases h : p a = true
    · simp [h, ih]
    · simp [h]
theorem trimS_nil (l cs : List UInt8) : Lib.trimS l cs = [] ↔ l.all (cs.contains ·) = true := by
  unfold Lib.trimS Lib.trimLeftS
  rw [dropWhile_nil]
  unfold Lib.trimRightS
  constructor
  · intro h
    have h2 : ∀ r : List UInt8, (r.dropWhile (cs.contains ·)).all (cs.contains ·) = true → r.all (cs.contains ·) = true := by
      intro r
      induction r with
      | nil => simp
      | cons a r ih =>
        rw [List.dropWhile_cons]
        by_cases ha : cs.contains a = true
        · rw [if_pos ha]; intro h3; rw [List.all_cons, ha, ih h3]; rfl
        · rw [if_neg ha]; exact id
    have h3 := h2 l.reverse (by rw [← List.all_reverse]; exact h)
    rw [← List.all_reverse]; exact h3
  · intro h
    have : l.reverse.dropWhile (cs.contains ·) = [] := (dropWhile_nil _ _).2 (by rw [List.all_reverse]; exact h)
    rw [this]; rfl

theorem nameB_eq (s : ByteArray) (h : 0 < s.size) : nameB s = (decide (s.size ≤ 40) && !isWordL s.data.toList && smalls.contains s[0] && (Lib.trimS s.data.toList wordBytes).isEmpty) := by
  have hl : s.data.toList.length = s.size := rfl
  have h0 : s.data.toList.headD 0 = s[0] := by
    have : s.data.toList ≠ [] := by intro e; rw [e] at hl; simp at hl; omega
    obtain ⟨a, l, e⟩ := List.exists_cons_of_ne_nil this
    have h1 : s.data.toList[0]? = some s[0] := by
      rw [Array.getElem?_toList]; exact Array.getElem?_eq_getElem _
    rw [e] at h1 ⊢
    simpa using h1
  have h2 : (Lib.trimS s.data.toList wordBytes).isEmpty = s.data.toList.all (wordBytes.contains ·) := by
    rw [Bool.eq_iff_iff, List.isEmpty_iff]; exact trimS_nil _ _
  unfold nameB nameL
  rw [h0, h2, hl]
  congr 3
  simp; omega
theorem small_iff {k : Int} {c : UInt8} (h : k = Lib.indexByte smalls c) : 0 ≤ k ↔ smalls.contains c = true := by
  rw [h, indexByte_mem]; simp
theorem word_iff {k : Int} {c : UInt8} (h : k = Lib.indexByte wordBytes c) : 0 ≤ k ↔ wordBytes.contains c = true := by
  rw [h, indexByte_mem]; simp
/-- The first error of a list. -/
def errFirst {α : Type} (f : α → Int) : List α → Int
  | [] => 0
  | x :: r => if f x = 0 then errFirst f r else f x
theorem errFirst_append {α : Type} (f : α → Int) (l r : List α) (h : errFirst f l = 0) : errFirst f (l ++ r) = errFirst f r := by
  induction l with
  | nil => rfl
  | cons x l ih =>
    simp only [errFirst] at h
    by_cases hx : f x = 0
    · rw [if_pos hx] at h
      rw [List.cons_append, errFirst, if_pos hx, ih h]
    · rw [if_neg hx] at h; exact absurd h hx
theorem errFirst_hit {α : Type} (f : α → Int) {l : List α} {j : Nat} (hj : j < l.length) (h : errFirst f (l.take j) = 0) (hx : f l[j] ≠ 0) : errFirst f l = f l[j] := by
  have e : l = l.take j ++ l[j] :: l.drop (j + 1) := by rw [← List.drop_eq_getElem_cons hj, List.take_append_drop]
  conv => lhs; rw [e, errFirst_append f _ _ h]
  simp [errFirst, hx]
theorem errFirst_snoc {α : Type} (f : α → Int) {l : List α} {j : Nat} (hj : j < l.length) (h : errFirst f (l.take j) = 0) (hx : f l[j] = 0) : errFirst f (l.take (j + 1)) = 0 := by
  rw [List.take_succ_eq_append_getElem hj, errFirst_append f _ _ h]
  simp [errFirst, hx]
theorem errFirst_all {α : Type} (f : α → Int) {l : List α} {j : Nat} (hj : l.length ≤ j) (h : errFirst f (l.take j) = 0) : errFirst f l = 0 := by
  rwa [List.take_of_length_le hj] at h
def fateF (x : Int) : Int := if 0 ≤ x ∧ x ≤ 3 then 0 else 4
/-- lossy.CheckFates. -/
def fatesF (l : List Int) : Int := if 2000 < l.length then 2 else errFirst fateF l
structure Lt where
  label : ByteArray
  value : Int
def letF (x : Lt) : Int := if x.label.data.toList ≠ [] ∧ nameB x.label = false then 5 else if ¬ (0 ≤ x.value ∧ x.value ≤ 999) then 1 else if x.label.data.toList ≠ [] ∧ x.value ≠ 0 then 3 else 0
def lettersF (l : List Lt) : Int := if 500 < l.length then 2 else errFirst letF l
/-- The second error, if there is no first one. -/
def thenF (a b : Int) : Int := if a = 0 then b else a
def spanF (n a b : Int) : Int := if a ≤ n ∧ n ≤ b then 0 else 1
def orF (l : List Int) : Int := errFirst id l
end Go.Proofs.YtleimfinniclgaaDoor.X
