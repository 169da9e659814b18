/- Texts of this claim, joined: SameExpr of an expression with itself; slices.Equal of words. -/
import Derived.Test.YtkpfkadjmijmlaaGreatDoorJ4
/- Words of code: what is wrong with one, twice. -/
namespace Go.Proofs.YtkpfkadjmijmlaaGreatDoor.M
open Go.Proofs Go.Proofs.YtkpfkadjmijmlaaGreatDoor.X
set_option linter.unusedSimpArgs false
set_option linter.unusedVariables false
set_option maxRecDepth 100000
set_option pp.deepTerms false
set_option pp.deepTerms.threshold 6
set_option maxHeartbeats 4000000
structure Wd where
  op : Int
  n : Int
  name : ByteArray
def encW (w : Wd) : AVal := .agg [.int .i64 w.op, .int .i64 w.n, .str w.name]
def encWs (l : List Wd) : List AVal := l.map encW
@[simp] theorem encW_flat (w : Wd) : (encW w).flat = [.int .i64 w.op, .int .i64 w.n, .str w.name] := rfl
@[simp] theorem encW_ids (n : Nat) (w : Wd) : (encW w).idsLt n = true := by simp [encW]
@[simp] theorem encWs_ids (n : Nat) (l : List Wd) : idsLts n (encWs l) = true := by
  induction l with
  | nil => simp [encWs]
  | cons x r ih => rw [show encWs (x :: r) = encW x :: encWs r from rfl, idsLts_cons, ih]; simp
@[simp] theorem encWs_len (l : List Wd) : (encWs l).length = l.length := by simp [encWs]
@[simp] theorem encWs_head (l : List Wd) : headOk (encWs l) 3 = true := by cases l <;> rfl
theorem encWs_at {l : List Wd} {k : Nat} {x : Wd} (h : l[k]? = some x) : (encWs l)[k]? = some (.agg [.int .i64 x.op, .int .i64 x.n, .str x.name]) := by simp [encWs, h, encW]
/-- What is wrong with a word. -/
def wordF (w : Wd) : Int :=
  if arityF w.op < 0 then 4 else if (w.op ≠ 1 ∧ w.n ≠ 0) ∨ (w.op ≠ 2 ∧ w.name.toList ≠ []) then 3
  else if outside w.n 0 999 = true then 1 else if w.op = 2 ∧ nameB w.name = false then 5 else 0
@[simp] theorem operands_R (op : Int) (ro nx : Nat) (hp : Heap) : R K 43 [.int .i64 op] ro nx hp = some ⟨.int .i64 (if op = 1 ∨ op = 2 then 0 else if op = 8 then 1 else if op = 9 then 3 else 2), false, nx, hp⟩ := by
  rw [R_val' K ro 43 _ nx hp [] Tryz.func43 rfl Tryz.ntmps43 Tryz.results43 (mu := []) rfl (by kernel_rfl) rfl rfl rfl]; simp only [slim, slimO, annO, List.map, List.zip, List.zipWith, List.lookup, holed, Nat.reduceBEq]
  by_cases h1 : op = 1
  · subst h1; simp [List.replicate]
  · by_cases h2 : op = 2
    · subst h2; simp [List.replicate]
    · by_cases h3 : op = 8
      · subst h3; simp [List.replicate]
      · by_cases h4 : op = 9
        · subst h4; simp [List.replicate]
        · simp [List.replicate, h1, h2, h3, h4]
theorem nine {o : Int} (h : 1 ≤ o ∧ o ≤ 9) : o = 1 ∨ o = 2 ∨ o = 3 ∨ o = 4 ∨ o = 5 ∨ o = 6 ∨ o = 7 ∨ o = 8 ∨ o = 9 := by omega
theorem arity_neg (o : Int) : decide (arityF o < 0) = !within o 1 9 := by
  by_cases h : 1 ≤ o ∧ o ≤ 9
  · rcases nine h with rfl | rfl | rfl | rfl | rfl | rfl | rfl | rfl | rfl <;> rfl
  · have h1 : arityF o = -1 := by unfold arityF; rw [if_pos h]
    have h2 : within o 1 9 = false := by simp only [within, Bool.and_eq_false_iff, decide_eq_false_iff_not]; omega
    rw [h1, h2]; rfl
theorem operands_eq {o : Int} (h : ¬ arityF o < 0) : (if o = 1 ∨ o = 2 then (0 : Int) else if o = 8 then 1 else if o = 9 then 3 else 2) = arityF o := by
  by_cases h0 : 1 ≤ o ∧ o ≤ 9
  · rcases nine h0 with rfl | rfl | rfl | rfl | rfl | rfl | rfl | rfl | rfl <;> rfl
  · exact absurd (by unfold arityF; rw [if_pos h0]; omega) h
theorem wordFaultV_R (w : Wd) (ro nx : Nat) (hp : Heap) : R K 85 [.agg [.int .i64 w.op, .int .i64 w.n, .str w.name]] ro nx hp = some ⟨.int .i64 (wordF w), false, nx, hp⟩ := by
  obtain ⟨o, n, s⟩ := w
  rw [R_val' K ro 85 _ nx hp [] Tryz.func85 rfl Tryz.ntmps85 Tryz.results85 (mu := []) rfl (by kernel_rfl) rfl rfl rfl]; simp only [slim, slimO, annO, List.map, List.zip, List.zipWith, List.lookup, holed, Nat.reduceBEq]
  unfold wordF
  have he0 : (⟨#[]⟩ : ByteArray) = ByteArray.empty := rfl
  simp only
  by_cases h1 : arityF o < 0
  · simp [List.replicate, h1]
  · by_cases h2 : o = 1
    · subst h2
      by_cases h5 : s.toList = []
      · cases h6 : outside n 0 999 <;> simp [List.replicate, he0, *]
      · by_cases h4 : n = 0 <;> simp [List.replicate, he0, *]
    · by_cases h4 : n = 0
      · subst h4
        by_cases h3 : o = 2
        · subst h3
          cases h6 : outside 0 0 999 <;> cases h7 : nameB s <;> simp [List.replicate, he0, *]
        · by_cases h5 : s.toList = []
          · cases h6 : outside 0 0 999 <;> simp [List.replicate, he0, *]
          · simp [List.replicate, he0, *]
      · simp [List.replicate, he0, *]
theorem wordFaultR_R (w : Wd) (ro nx : Nat) (hp : Heap) : R K 42 [.agg [.int .i64 w.op, .int .i64 w.n, .str w.name]] ro nx hp = some ⟨.int .i64 (wordF w), false, nx, hp⟩ := by
  obtain ⟨o, n, s⟩ := w
  have h0 := arity_neg o
  have hb := within_not n 0 999
  rw [R_val' K ro 42 _ nx hp [] Tryz.func42 rfl Tryz.ntmps42 Tryz.results42 (mu := []) rfl (by kernel_rfl) rfl rfl rfl]; simp only [slim, slimO, annO, List.map, List.zip, List.zipWith, List.lookup, holed, Nat.reduceBEq]
  unfold wordF
  have he0 : (⟨#[]⟩ : ByteArray) = ByteArray.empty := rfl
  simp only
  cases h1 : within o 1 9
  · have h1' : arityF o < 0 := by simpa [h1] using h0
    simp [List.replicate, h1, h1']
  · have h1' : ¬ arityF o < 0 := by simpa [h1] using h0
    by_cases h2 : o = 1
    · subst h2
      by_cases h5 : s.toList = [] <;> by_cases h4 : n = 0
      · subst h4; cases h6 : outside 0 0 999 <;> simp [List.replicate, he0, *]
      · cases h6 : outside n 0 999 <;> simp [List.replicate, he0, *]
      · subst h4; simp [List.replicate, he0, *]
      · simp [List.replicate, he0, *]
    · by_cases h4 : n = 0
      · subst h4
        by_cases h3 : o = 2
        · subst h3
          by_cases h5 : s.toList = [] <;> cases h6 : outside 0 0 999 <;> cases h7 : nameB s <;> simp [List.replicate, he0, *]
        · by_cases h5 : s.toList = []
          · cases h6 : outside 0 0 999 <;> simp [List.replicate, he0, *]
          · simp [List.replicate, he0, *]
      · simp [List.replicate, he0, *]
end Go.Proofs.YtkpfkadjmijmlaaGreatDoor.M
/- What is wrong with code: CodeFault. -/
namespace Go.Proofs.YtkpfkadjmijmlaaGreatDoor.M
open Go.Proofs Go.Proofs.YtkpfkadjmijmlaaGreatDoor.X
set_option linter.unusedSimpArgs false
set_option linter.unusedVariables false
set_option maxRecDepth 100000
set_option pp.deepTerms false
set_option pp.deepTerms.threshold 6
set_option maxHeartbeats 4000000
/-- The error, how many values there are at the end, and at most. -/
def codeGo : List Wd → Int → Int → Int × Int × Int
  | [], n, m => (0, n, m)
  | w :: r, n, m => if wordF w ≠ 0 then (wordF w, 0, 0) else if n < arityF w.op then (11, 0, 0) else codeGo r (n + (1 - arityF w.op)) (max m (n + (1 - arityF w.op)))
def codeF (c : List Wd) : Int := if (10000 : Int) < c.length then 2 else if (codeGo c 0 0).1 ≠ 0 then (codeGo c 0 0).1 else if (codeGo c 0 0).2.1 ≠ 1 then 3 else 0
theorem wordF_arity {w : Wd} (h : wordF w = 0) : ¬ arityF w.op < 0 := by
  intro q
  unfold wordF at h
  rw [if_pos q] at h
  cases h
def CodeL (len t id v : Nat) (q : Int × Int × Int) (r : Option (AExit × St)) : Prop := ∃ s, r = some (if q.1 = 0 then .exit id else .ret, s) ∧ s.tm.length = len ∧ (q.1 ≠ 0 → getC s.tm t = (.int .i64 q.1, false)) ∧ (q.1 = 0 → getC s.tm v = (.int .i64 q.2.1, false))
theorem codeFault_loop (c : List Wd) (hl : c.length ≤ 10000) (tm : List Cell) (nx : Nat) (hp : Heap) (ht : tm.length = 35) (h3 : getC tm 3 = (.int .i64 0, false)) (h10 : getC tm 10 = (.lst (encWs c), false)) (h11 : getC tm 11 = (.int .i64 c.length, false)) (h12 : getC tm 12 = (.int .i64 0, false)) :
    CodeL 35 2 0 3 (codeGo c 0 0) (X K ⟨0, []⟩ (.loop (LB Tryz.prog 9 [] 0)) ⟨tm, nx, hp⟩) := by
  have e := LB_open (P := Tryz.prog) [] 0 Tryz.func9 rfl rfl (by kernel_rfl)
  simp only [slim, slimO, annO, List.map, List.zip, List.zipWith, List.lookup, holed, loopsOf, List.nil_append, List.cons_append, List.getD_cons_zero, List.getD_cons_succ, Nat.reduceBEq] at e
  refine rounds e c.length (fun k tm n hp => tm.length = 35 ∧ getC tm 10 = (.lst (encWs c), false) ∧ getC tm 11 = (.int .i64 c.length, false) ∧ getC tm 12 = (.int .i64 k, false) ∧ ∃ h m : Int, getC tm 3 = (.int .i64 h, false) ∧ 0 ≤ h ∧ h ≤ k ∧ codeGo (c.drop k) h m = codeGo c 0 0) _ ?_ ?_ 0 tm nx hp (by omega) ⟨ht, h10, h11, h12, 0, 0, h3, by omega, by omega, rfl⟩
  · rintro tm n hp r ⟨ht, h10, h11, h12, h, m, h3, hh, hk, hf⟩ hX
    simp [ht, h11, h12] at hX
    subst hX
    rw [← hf, List.drop_length]
    exact ⟨_, _, rfl, by simp, _, rfl, by simp [ht], fun h => absurd rfl h, fun _ => by simp [ht, h3, codeGo]⟩
  · rintro k tm n hp r hk ⟨ht, h10, h11, h12, h, m, h3, hh, hhk, hf⟩ hX
    have hx := List.getElem?_eq_getElem (l := c) (i := k) hk
    rw [List.drop_eq_getElem_cons hk] at hf
    generalize c[k] = x at hx hf
    have hkl : (k : Int) < c.length := by omega
    have hxe := encWs_at hx
    have hw2 : IntKind.i64.wrap ((k : Int) + 1) = (k : Int) + 1 := wrap_small (by omega) (by omega)
    have hwf := wordFaultR_R x
    rw [codeGo] at hf
    by_cases c1 : wordF x = 0
    · have ha := wordF_arity c1
      have hop := operands_eq ha
      have ha3 := arity_le x.op
      have hw3 : IntKind.i64.wrap (1 - arityF x.op) = 1 - arityF x.op := wrap_small (by omega) (by omega)
      have hw4 : IntKind.i64.wrap (h + (1 - arityF x.op)) = h + (1 - arityF x.op) := wrap_small (by omega) (by omega)
      rw [if_neg (by simpa using c1)] at hf
      by_cases c2 : h < arityF x.op
      · rw [if_pos c2] at hf
        simp [ht, h3, h10, h11, h12, hkl, hxe, hw2, hwf, c1, hop, c2] at hX
        subst hX
        exact .inr ⟨_, _, rfl, by simp, _, by rw [← hf]; rfl, by simp [ht], fun _ => by simp [ht, ← hf], fun q => by rw [← hf] at q; cases q⟩
      · rw [if_neg c2] at hf
        simp [ht, h3, h10, h11, h12, hkl, hxe, hw2, hwf, c1, hop, c2, hw3, hw4] at hX
        subst hX
        exact .inl ⟨_, _, _, rfl, by simp [ht], by simp [h10], by simp [h11], by simp [ht], _, _, by simp [ht], by omega, by omega, hf⟩
    · rw [if_pos c1] at hf
      simp [ht, h3, h10, h11, h12, hkl, hxe, hw2, hwf, c1] at hX
      subst hX
      exact .inr ⟨_, _, rfl, by simp, _, by rw [← hf, if_neg c1], by simp [ht], fun _ => by simp [ht, ← hf], fun q => by rw [← hf] at q; exact absurd q c1⟩
theorem codeFault_R (c : List Wd) (ro nx : Nat) (hp : Heap) : R K 9 [.lst (encWs c)] ro nx hp = some ⟨.int .i64 (codeF c), false, nx, hp⟩ := by
  rw [R_val' K ro 9 _ nx hp [] Tryz.func9 rfl Tryz.ntmps9 Tryz.results9 (mu := []) rfl (by kernel_rfl) rfl rfl rfl]; simp only [slim, slimO, annO, List.map, List.zip, List.zipWith, List.lookup, holed, Nat.reduceBEq]
  unfold codeF
  by_cases h1 : (10000 : Int) < c.length
  · simp [List.replicate, h1]
  · simp [List.replicate, h1]
    generalize hb : X K _ (.loop _) _ = r
    have hk : CodeL 35 2 0 3 (codeGo c 0 0) r := by
      rw [← hb]
      exact codeFault_loop c (by omega) _ _ _ (by simp) (by simp) (by simp) (by simp) (by simp)
    obtain ⟨s, rfl, h2, h3, h4⟩ := hk
    obtain ⟨tm', nx', hp'⟩ := s
    simp only at h2 h3 h4
    by_cases c1 : (codeGo c 0 0).1 = 0
    · have h4' := h4 c1
      by_cases c2 : (codeGo c 0 0).2.1 = 1
      · simp [c1, c2, h2, h4']
      · simp [c1, c2, h2, h4']
    · have h3' := h3 c1
      simp [c1, h2, h3']
end Go.Proofs.YtkpfkadjmijmlaaGreatDoor.M
/- What is wrong with code: value.codeFault. -/
namespace Go.Proofs.YtkpfkadjmijmlaaGreatDoor.M
open Go.Proofs Go.Proofs.YtkpfkadjmijmlaaGreatDoor.X
set_option linter.unusedSimpArgs false
set_option linter.unusedVariables false
set_option maxRecDepth 100000
set_option pp.deepTerms false
set_option pp.deepTerms.threshold 6
set_option maxHeartbeats 4000000
def CodeV (q : Int × Int × Int) (r : Option (AExit × St)) : Prop := ∃ s, r = some (if q.1 = 0 then .exit 0 else .ret, s) ∧ s.tm.length = 41 ∧ (q.1 ≠ 0 → getC s.tm 2 = (.int .i64 0, false) ∧ getC s.tm 3 = (.int .i64 q.1, false)) ∧ (q.1 = 0 → getC s.tm 4 = (.int .i64 q.2.1, false) ∧ getC s.tm 5 = (.int .i64 q.2.2, false))
theorem codeFaultV_loop (c : List Wd) (hl : c.length ≤ 10000) (tm : List Cell) (nx : Nat) (hp : Heap) (ht : tm.length = 41) (h3 : getC tm 4 = (.int .i64 0, false)) (h5 : getC tm 5 = (.int .i64 0, false)) (h10 : getC tm 13 = (.lst (encWs c), false)) (h11 : getC tm 14 = (.int .i64 c.length, false)) (h12 : getC tm 15 = (.int .i64 0, false)) :
    CodeV (codeGo c 0 0) (X K ⟨0, []⟩ (.loop (LB Tryz.prog 46 [] 0)) ⟨tm, nx, hp⟩) := by
  have e := LB_open (P := Tryz.prog) [] 0 Tryz.func46 rfl rfl (by kernel_rfl)
  simp only [slim, slimO, annO, List.map, List.zip, List.zipWith, List.lookup, holed, loopsOf, List.nil_append, List.cons_append, List.getD_cons_zero, List.getD_cons_succ, Nat.reduceBEq] at e
  refine rounds e c.length (fun k tm n hp => tm.length = 41 ∧ getC tm 13 = (.lst (encWs c), false) ∧ getC tm 14 = (.int .i64 c.length, false) ∧ getC tm 15 = (.int .i64 k, false) ∧ ∃ h m : Int, getC tm 4 = (.int .i64 h, false) ∧ getC tm 5 = (.int .i64 m, false) ∧ 0 ≤ h ∧ h ≤ k ∧ codeGo (c.drop k) h m = codeGo c 0 0) _ ?_ ?_ 0 tm nx hp (by omega) ⟨ht, h10, h11, h12, 0, 0, h3, h5, by omega, by omega, rfl⟩
  · rintro tm n hp r ⟨ht, h10, h11, h12, h, m, h3, h5, hh, hk, hf⟩ hX
    simp [ht, h11, h12] at hX
    subst hX
    rw [← hf, List.drop_length]
    exact ⟨_, _, rfl, by simp, _, rfl, by simp [ht], fun h => absurd rfl h, fun _ => ⟨by simp [ht, h3, codeGo], by simp [ht, h5, codeGo]⟩⟩
  · rintro k tm n hp r hk ⟨ht, h10, h11, h12, h, m, h3, h5, hh, hhk, hf⟩ hX
    have hx := List.getElem?_eq_getElem (l := c) (i := k) hk
    rw [List.drop_eq_getElem_cons hk] at hf
    generalize c[k] = x at hx hf
    have hkl : (k : Int) < c.length := by omega
    have hxe := encWs_at hx
    have hw2 : IntKind.i64.wrap ((k : Int) + 1) = (k : Int) + 1 := wrap_small (by omega) (by omega)
    have hwf := wordFaultV_R x
    rw [codeGo] at hf
    by_cases c1 : wordF x = 0
    · have ha := wordF_arity c1
      have hmx : amax (.int .i64 m) (.int .i64 (h + (1 - arityF x.op))) = some (.int .i64 (max m (h + (1 - arityF x.op)))) := by
        simp only [amax]; split <;> (congr 2; omega)
      have ha3 := arity_le x.op
      have hw3 : IntKind.i64.wrap (1 - arityF x.op) = 1 - arityF x.op := wrap_small (by omega) (by omega)
      have hw4 : IntKind.i64.wrap (h + (1 - arityF x.op)) = h + (1 - arityF x.op) := wrap_small (by omega) (by omega)
      rw [if_neg (by simpa using c1)] at hf
      by_cases c2 : h < arityF x.op
      · rw [if_pos c2] at hf
        simp [ht, h3, h5, h10, h11, h12, hkl, hxe, hw2, hwf, c1, c2] at hX
        subst hX
        exact .inr ⟨_, _, rfl, by simp, _, by rw [← hf, if_neg (by decide)], by simp [ht], fun _ => ⟨by simp [ht], by simp [ht, ← hf]⟩, fun q => by rw [← hf] at q; cases q⟩
      · rw [if_neg c2] at hf
        simp [ht, h3, h5, h10, h11, h12, hkl, hxe, hw2, hwf, c1, c2, hw3, hw4, hmx] at hX
        subst hX
        exact .inl ⟨_, _, _, rfl, by simp [ht], by simp [h10], by simp [h11], by simp [ht], _, _, by simp [ht], by simp [ht], by omega, by omega, hf⟩
    · rw [if_pos c1] at hf
      simp [ht, h3, h5, h10, h11, h12, hkl, hxe, hw2, hwf, c1] at hX
      subst hX
      exact .inr ⟨_, _, rfl, by simp, _, by rw [← hf, if_neg c1], by simp [ht], fun _ => ⟨by simp [ht], by simp [ht, ← hf]⟩, fun q => by rw [← hf] at q; exact absurd q c1⟩
theorem codeFaultV_R (c : List Wd) (ro nx : Nat) (hp : Heap) : R K 46 [.lst (encWs c)] ro nx hp = some ⟨.tup [.int .i64 (if codeF c = 0 then (codeGo c 0 0).2.2 else 0), .int .i64 (codeF c)], false, nx, hp⟩ := by
  rw [R_val' K ro 46 _ nx hp [] Tryz.func46 rfl Tryz.ntmps46 Tryz.results46 (mu := []) rfl (by kernel_rfl) rfl rfl rfl]; simp only [slim, slimO, annO, List.map, List.zip, List.zipWith, List.lookup, holed, Nat.reduceBEq]
  unfold codeF
  by_cases h1 : (10000 : Int) < c.length
  · simp [List.replicate, h1]
  · simp [List.replicate, h1]
    generalize hb : X K _ (.loop _) _ = r
    have hk : CodeV (codeGo c 0 0) r := by
      rw [← hb]
      exact codeFaultV_loop c (by omega) _ _ _ (by simp) (by simp) (by simp) (by simp) (by simp) (by simp)
    obtain ⟨s, rfl, h2, h3, h4⟩ := hk
    obtain ⟨tm', nx', hp'⟩ := s
    simp only at h2 h3 h4
    by_cases c1 : (codeGo c 0 0).1 = 0
    · obtain ⟨h4', h5'⟩ := h4 c1
      by_cases c2 : (codeGo c 0 0).2.1 = 1
      · simp [c1, c2, h2, h4', h5']
      · simp [c1, c2, h2, h4', h5']
    · obtain ⟨h3', h5'⟩ := h3 c1
      simp [c1, h2, h3', h5']
end Go.Proofs.YtkpfkadjmijmlaaGreatDoor.M
/- Generators of expressions and spans. -/
namespace Go.Proofs.YtkpfkadjmijmlaaGreatDoor.M
open Go.Proofs
set_option linter.unusedSimpArgs false
set_option linter.unusedVariables false
set_option maxRecDepth 100000
set_option pp.deepTerms false
set_option pp.deepTerms.threshold 6
set_option maxHeartbeats 4000000
def Base (n : Nat) (hp : Heap) : Prop := hlow n hp = hp ∧ hclean n hp = true
theorem ints_ids (n : Nat) (l : List Int) : idsLts n (ints' l) = true := by
  unfold ints'
  induction l with
  | nil => simp
  | cons x r ih => simpa using ih
theorem Base.set {n s : Nat} {hp : Heap} (h : Base n hp) (l : List Int) (a : Int) : Base n (hset hp s (strm l a)) := by
  refine ⟨by rw [hlow_hset, h.1], ?_⟩
  unfold strm
  exact hclean_hset h.2 (by simp [ints_ids])
theorem hget_strm {hp : Heap} {s : Nat} {l : List Int} {a : Int} (hs : hget hp s = some (strm l a)) (b : Int) : hget (hset hp s (strm l b)) s = some (strm l b) := by rw [hget_hset_same]; simp [hs]
theorem hget_lt {n : Nat} {hp : Heap} (h : Base n hp) {s : Nat} {b : ABlk} (hs : hget hp s = some b) : s < n := by
  rw [← h.1] at hs
  by_cases hl : s < n
  · exact hl
  · exfalso
    have : ∀ hp : Heap, hget (hlow n hp) s = none := by
      intro hp
      induction hp with
      | nil => rfl
      | cons p hp ih =>
        obtain ⟨i, c⟩ := p
        rw [hlow_cons]
        split
        · rw [hget_cons, if_neg (by omega)]; exact ih
        · exact ih
    rw [this] at hs
    cases hs
theorem hset_cons_ne {i j : Nat} (b v : ABlk) (h : Heap) (hn : j ≠ i) : hset ((i, b) :: h) j v = (i, b) :: hset h j v := by simp [hn]
theorem leaf_R (l : List Int) (a : Int) (s ro nx : Nat) (hp : Heap) (ha : 0 ≤ a ∧ a < 4611686018427387000) (hl : l.length < 4611686018427387904) (hs : hget hp s = some (strm l a)) (hro : ro ≤ s) (hsn : s < nx) :
    ∃ op n nm b, R K 75 [.ptr s 0] ro nx hp = some ⟨.agg [.int .i64 op, .int .i64 n, .str nm, .lst []], false, nx + 1, (nx, b) :: hset hp s (strm l (a + 2))⟩ := by
  have hne : ¬ s = nx := by omega
  have e2 : a + 1 + 1 = a + 2 := by omega
  have hs1 : hget ((nx, ABlk.cells [(.int .i64 0, false), (.int .i64 0, false), (.str ByteArray.empty, false), (.lst [], true)]) :: hp) s = some (strm l a) := by simp [hne, hs]
  have hF := flip_R l a 2 s ro (nx + 1) _ (by omega) (by omega) hl hs1 hro
  have hs2 : hget ((nx, ABlk.cells [(.int .i64 0, false), (.int .i64 0, false), (.str ByteArray.empty, false), (.lst [], true)]) :: hset hp s (strm l (a + 1))) s = some (strm l (a + 1)) := by simp [hne, hget_strm hs]
  have hP := pick_R l (a + 1) [0, 1, 2, 5, 999] s ro (nx + 1) _ (by omega) (by simp) hl hs2 hro
  have hS := some_R l (a + 1) [⟨#[120]⟩, ⟨#[121]⟩, ⟨#[120]⟩, ⟨#[122]⟩] s ro (nx + 1) _ (by omega) (by simp) hl hs2 hro
  simp only [ints', strs, List.map_cons, List.map_nil] at hP hS
  have hro' : ro ≤ nx := by omega
  by_cases h0 : nextF l a 2 = 0
  · refine ⟨1, pickF l (a + 1) [0, 1, 2, 5, 999], ByteArray.empty, .cells [(.int .i64 1, false), (.int .i64 (pickF l (a + 1) [0, 1, 2, 5, 999]), false), (.str ByteArray.empty, false), (.lst [], true)], ?_⟩
    rw [R_body' K ro 75 _ nx hp [] Tryz.func75 rfl Tryz.ntmps75 Tryz.results75 (mu := []) rfl (by kernel_rfl) rfl rfl rfl rfl]; simp only [slim, slimO, annO, List.map, List.zip, List.zipWith, List.lookup, holed, Nat.reduceBEq]
    simp [List.replicate, hF, hne, h0, hP, e2, hro']
  · refine ⟨2, 0, someF l (a + 1) [⟨#[120]⟩, ⟨#[121]⟩, ⟨#[120]⟩, ⟨#[122]⟩], .cells [(.int .i64 2, false), (.int .i64 0, false), (.str (someF l (a + 1) [⟨#[120]⟩, ⟨#[121]⟩, ⟨#[120]⟩, ⟨#[122]⟩]), false), (.lst [], true)], ?_⟩
    rw [R_body' K ro 75 _ nx hp [] Tryz.func75 rfl Tryz.ntmps75 Tryz.results75 (mu := []) rfl (by kernel_rfl) rfl rfl rfl rfl]; simp only [slim, slimO, annO, List.map, List.zip, List.zipWith, List.lookup, holed, Nat.reduceBEq]
    simp [List.replicate, hF, hne, h0, hS, e2, hro']
/-- What a generator leaves: old variables as they were but for the stream's, new ones above. -/
structure Gen (l : List Int) (s nx : Nat) (hp : Heap) (n' : Nat) (hp' : Heap) (a' : Int) : Prop where
  le : nx ≤ n'
  low : hlow nx hp' = hset hp s (strm l a')
  fresh : Fresh n' hp'
theorem Gen.old {l : List Int} {s nx n' : Nat} {hp hp' : Heap} {a' : Int} (h : Gen l s nx hp n' hp' a') {j : Nat} (hj : j < nx) (hs : j ≠ s) : hget hp' j = hget hp j := by
  have := congrArg (fun h => hget h j) h.low
  simp only [hget_hlow', if_pos hj] at this
  rw [this, hget_hset, if_neg hs]
theorem Gen.strm {l : List Int} {s nx n' : Nat} {hp hp' : Heap} {a a' : Int} (h : Gen l s nx hp n' hp' a') (hs : hget hp s = some (M.strm l a)) (hsn : s < nx) : hget hp' s = some (M.strm l a') := by
  have := congrArg (fun h => hget h s) h.low
  simp only [hget_hlow', if_pos hsn] at this
  rw [this]; exact hget_strm hs a'
theorem Gen.trans {l : List Int} {s nx n1 n2 : Nat} {hp h1 h2 : Heap} {a1 a2 : Int} (h : Gen l s nx hp n1 h1 a1) (k : Gen l s n1 h1 n2 h2 a2) : Gen l s nx hp n2 h2 a2 :=
  ⟨Nat.le_trans h.le k.le, by rw [← hlow_hlow h.le, k.low, hlow_hset, h.low, hset_hset], k.fresh⟩
theorem Gen.push {l : List Int} {s nx n : Nat} {hp h1 : Heap} {a : Int} (h : Gen l s nx hp n h1 a) (b : ABlk) : Gen l s nx hp (n + 1) ((n, b) :: h1) a :=
  ⟨by have := h.le; omega, by rw [hlow_cons, if_neg (by have := h.le; omega), h.low], h.fresh.push b⟩
theorem Gen.set {l : List Int} {s nx n : Nat} {hp h1 : Heap} {a : Int} (h : Gen l s nx hp n h1 a) {i : Nat} (hi : nx ≤ i) (b : ABlk) : Gen l s nx hp n (hset h1 i b) a :=
  ⟨h.le, by rw [hlow_hset' _ _ _ _ hi, h.low], h.fresh.hset i b⟩
theorem Gen.del {l : List Int} {s nx n : Nat} {hp h1 : Heap} {a : Int} (h : Gen l s nx hp n h1 a) {i : Nat} (hi : nx ≤ i) : Gen l s nx hp n (hdel h1 i) a :=
  ⟨h.le, by rw [hlow_hdel' _ _ _ hi, h.low], h.fresh.hdel i⟩
theorem Gen.next {l : List Int} {s nx n : Nat} {hp h1 : Heap} {a : Int} (h : Gen l s nx hp n h1 a) (hsn : s < nx) (a' : Int) : Gen l s nx hp n (hset h1 s (M.strm l a')) a' :=
  ⟨h.le, by rw [hlow_hset, h.low, hset_hset], h.fresh.hset s _⟩
theorem hset_self {hp : Heap} {s : Nat} {b : ABlk} (h : hget hp s = some b) : hset hp s b = hp := by
  induction hp with
  | nil => rfl
  | cons p hp ih =>
    obtain ⟨i, c⟩ := p
    simp only [hget] at h
    simp only [hset]
    split
    · rename_i e
      rw [if_pos e] at h; cases h; rfl
    · rename_i e
      rw [if_neg e] at h; rw [ih h]
theorem Gen.start {l : List Int} {s nx : Nat} {hp : Heap} {a : Int} (hf : Fresh nx hp) (hs : hget hp s = some (M.strm l a)) : Gen l s nx hp nx hp a :=
  ⟨Nat.le_refl _, by rw [hset_self hs]; exact hf, hf⟩
def treeB : Nat → Int
  | 0 => 4
  | d + 1 => 3 + 3 * treeB d
theorem treeB_pos (d : Nat) : 4 ≤ treeB d := by induction d with | zero => decide | succ d ih => simp only [treeB]; omega
def blkB : Nat → Nat
  | 0 => 2
  | d + 1 => 8 + 3 * blkB d
theorem blkB_pos (d : Nat) : 2 ≤ blkB d := by induction d with | zero => decide | succ d ih => simp only [blkB]; omega
def TreeOk (l : List Int) (s ro : Nat) (d : Nat) : Prop := ∀ (a : Int) (nx : Nat) (hp : Heap), 0 ≤ a → a + treeB d < 4611686018427387000 → hget hp s = some (strm l a) → Fresh nx hp →
  ∃ op n nm av n' hp' a', R K 31 [.ptr s 0, .int .i64 d] ro nx hp = some ⟨.agg [.int .i64 op, .int .i64 n, .str nm, av], false, n', hp'⟩ ∧ Gen l s nx hp n' hp' a' ∧ a ≤ a' ∧ a' ≤ a + treeB d ∧ Tv exprT hp' nx n' (.row 0) av ∧ n' ≤ nx + blkB d
/-- The list of arguments while it grows. -/
def Args (hp : Heap) (lo n : Nat) (k : Nat) (v : AVal) (f : Bool) : Prop := (k = 0 ∧ v = .lst [] ∧ f = true) ∨ (∃ id cs, v = .sl id 0 k 4 true ∧ f = false ∧ lo ≤ id ∧ id < n ∧ hget hp id = some (.cells cs) ∧ cs.length = 4 * k ∧ k ≤ 3 ∧ ∀ (j : Nat) (c : Cell) t, cs[j]? = some c → (exprT.of 0).cs[j % 4]? = some t → Tv exprT hp lo id t c.1)
theorem Args.tv {hp : Heap} {lo n k : Nat} {v : AVal} {f : Bool} (h : Args hp lo n k v f) : Tv exprT hp lo n (.row 0) v := by
  rcases h with ⟨_, rfl, _⟩ | ⟨id, cs, rfl, _, h0, h1, hg, hl, hk, hc⟩
  · exact .fr (Leaf.nil 0)
  · have := Tv.sl (T := exprT) (hp := hp) (lo := lo) n 0 id 0 k cs h0 h1 hg (by show (0 + k) * 4 ≤ _; omega) (by show _ ≤ 100; omega) hc
    rwa [Nat.zero_mul] at this
theorem tree_loop (l : List Int) (s ro d : Nat) (hl : l.length < 4611686018427387904) (hd : d + 1 < 100) (ih : TreeOk l s ro d) (nx : Nat) (hp0 : Heap) (hsn : s < nx) (hro : ro ≤ s) (op : Int) (a0 : Int) (hs0 : hget hp0 s = some (strm l a0)) (mm : Int) : ∀ (r k : Nat) (tm : List Cell) (n : Nat) (hp : Heap) (a : Int) (av : AVal) (f : Bool), r + k ≤ 3 → mm = r + k →
    tm.length = 39 → getC tm 0 = (.ptr s 0, false) → getC tm 1 = (.int .i64 (d + 1), false) → getC tm 4 = (.ptr nx 0, false) → getC tm 5 = (.ptr (nx + 1) 0, false) → getC tm 25 = (.int .i64 mm, false) → getC tm 26 = (.int .i64 k, false) →
    0 ≤ a → a + r * treeB d < 4611686018427387000 → nx + 2 ≤ n → Gen l s nx hp0 n hp a → hget hp nx = some (.cells [(.int .i64 0, false), (.int .i64 0, false), (.str ByteArray.empty, false), (.lst [], true)]) → hget hp (nx + 1) = some (.cells [(.int .i64 op, false), (.int .i64 0, false), (.str ByteArray.empty, false), (av, f)]) → Args hp (nx + 2) n k av f →
    ∃ tm' n' hp' a' av' f', X K ⟨ro, [26]⟩ (.loop (LB Tryz.prog 31 [(12, [[], [1], [], [], [], [1], [1], [], [], []])] 0)) ⟨tm, n, hp⟩ = some (.exit 1, ⟨tm', n', hp'⟩) ∧ tm'.length = 39 ∧ getC tm' 4 = (.ptr nx 0, false) ∧ getC tm' 5 = (.ptr (nx + 1) 0, false) ∧ a ≤ a' ∧ a' ≤ a + r * treeB d ∧ nx + 2 ≤ n' ∧ Gen l s nx hp0 n' hp' a' ∧
      hget hp' nx = some (.cells [(.int .i64 0, false), (.int .i64 0, false), (.str ByteArray.empty, false), (.lst [], true)]) ∧ hget hp' (nx + 1) = some (.cells [(.int .i64 op, false), (.int .i64 0, false), (.str ByteArray.empty, false), (av', f')]) ∧ Args hp' (nx + 2) n' (r + k) av' f' ∧ n' ≤ n + r * (blkB d + 2) := by
  have e := LB_open (P := Tryz.prog) [(12, [[], [1], [], [], [], [1], [1], [], [], []])] 0 Tryz.func31 rfl rfl (by kernel_rfl)
  simp only [slim, slimO, annO, List.map, List.zip, List.zipWith, List.lookup, holed, loopsOf, List.nil_append, List.cons_append, List.getD_cons_zero, List.getD_cons_succ, Nat.reduceBEq] at e
  intro r
  induction r with
  | zero =>
    intro k tm n hp a av f hk hmm ht h0 h1 h4 h5 h25 h26 ha hb hn hG hg1 hg2 hA
    rw [Y_loop_eq _ _ e]
    generalize hX : X K _ _ _ = x
    have hk1 : ¬ (k : Int) < mm := by omega
    simp [ht, h25, h26, hk1] at hX
    subst hX
    exact ⟨_, n, hp, a, av, f, rfl, by simp [ht], by simp [h4], by simp [h5], by omega, by omega, hn, hG, hg1, hg2, by rw [Nat.zero_add]; exact hA, by omega⟩
  | succ r ihr =>
    intro k tm n hp a av f hk hmm ht h0 h1 h4 h5 h25 h26 ha hb hn hG hg1 hg2 hA
    rw [Y_loop_eq _ _ e]
    have hpos := treeB_pos d
    have hmul : ((r + 1 : Nat) : Int) * treeB d = r * treeB d + treeB d := by rw [Int.natCast_add, Int.add_mul]; simp
    have hr0 : 0 ≤ (r : Int) * treeB d := Int.mul_nonneg (by omega) (by omega)
    obtain ⟨op1, n1, nm1, av1, n2, hp2, a2, hR, hG2, ha1, ha2, hT2, hnb⟩ := ih a n hp ha (by omega) (hG.strm hs0 hsn) hG.fresh
    have hk1 : (k : Int) < mm := by omega
    have hw1 : IntKind.i64.wrap (d : Int) = d := wrap_small (by omega) (by omega)
    have hw2 : IntKind.i64.wrap ((k : Int) + 1) = (k : Int) + 1 := wrap_small (by omega) (by omega)
    have g2a := (hG2.old (j := nx) (by omega) (by omega)).trans hg1
    have g2b := (hG2.old (j := nx + 1) (by omega) (by omega)).trans hg2
    have hn2 := hG2.le
    have ne1 : ¬ nx + 1 = n2 := by omega
    have ne2 : ¬ nx + 1 = n2 + 1 := by omega
    have key : ∀ (tm2 : List Cell) (n3 : Nat) (hp3 : Heap) (av3 : AVal) (f3 : Bool), tm2.length = 39 → getC tm2 0 = (.ptr s 0, false) → getC tm2 1 = (.int .i64 (d + 1), false) → getC tm2 4 = (.ptr nx 0, false) → getC tm2 5 = (.ptr (nx + 1) 0, false) → getC tm2 25 = (.int .i64 mm, false) → getC tm2 26 = (.int .i64 (k + 1), false) → n3 = n2 + 2 →
        Gen l s nx hp0 n3 hp3 a2 → hget hp3 nx = some (.cells [(.int .i64 0, false), (.int .i64 0, false), (.str ByteArray.empty, false), (.lst [], true)]) → hget hp3 (nx + 1) = some (.cells [(.int .i64 op, false), (.int .i64 0, false), (.str ByteArray.empty, false), (av3, f3)]) → Args hp3 (nx + 2) n3 (k + 1) av3 f3 →
        ∃ tm' n' hp' a' av' f', XK K ⟨ro, [26]⟩ (.loop (LB Tryz.prog 31 [(12, [[], [1], [], [], [], [1], [1], [], [], []])] 0)) (some (.normal, ⟨tm2, n3, hp3⟩)) = some (.exit 1, ⟨tm', n', hp'⟩) ∧ tm'.length = 39 ∧ getC tm' 4 = (.ptr nx 0, false) ∧ getC tm' 5 = (.ptr (nx + 1) 0, false) ∧ a ≤ a' ∧ a' ≤ a + (r + 1 : Nat) * treeB d ∧ nx + 2 ≤ n' ∧ Gen l s nx hp0 n' hp' a' ∧
      hget hp' nx = some (.cells [(.int .i64 0, false), (.int .i64 0, false), (.str ByteArray.empty, false), (.lst [], true)]) ∧ hget hp' (nx + 1) = some (.cells [(.int .i64 op, false), (.int .i64 0, false), (.str ByteArray.empty, false), (av', f')]) ∧ Args hp' (nx + 2) n' (r + 1 + k) av' f' ∧ n' ≤ n + (r + 1) * (blkB d + 2) := by
      intro tm2 n3 hp3 av3 f3 q1 q2 q3 q4 q5 q6 q7 q8 q9 q10 q11 q12
      rw [XK_normal]
      obtain ⟨tm', n', hp', a', av', f', w1, w2, w3, w4, w5, w6, w7, w8, w9, w10, w11, w12⟩ := ihr (k + 1) tm2 n3 hp3 a2 av3 f3 (by omega) (by omega) q1 q2 q3 q4 q5 q6 (by rw [q7]; rfl) (by omega) (by omega) (by omega) q9 q10 q11 q12
      exact ⟨tm', n', hp', a', av', f', w1, w2, w3, w4, by omega, by omega, w7, w8, w9, w10, by rw [show r + 1 + k = r + (k + 1) by omega]; exact w11, by rw [Nat.succ_mul]; omega⟩
    have typed : ∀ (hp3 : Heap), (∀ j, n ≤ j → j < n2 → hget hp3 j = hget hp2 j) → ∀ (j : Nat) (c : Cell) t, [((AVal.int .i64 op1 : AVal), false), (.int .i64 n1, false), (.str nm1, false), (av1, false)][j]? = some c → (exprT.of 0).cs[j]? = some t → Tv exprT hp3 (nx + 2) (n2 + 1) t c.1 := by
      intro hp3 hk3 j c t hj hc
      match j with
      | 0 => cases hj; cases hc; exact .fr (Leaf.int _)
      | 1 => cases hj; cases hc; exact .fr (Leaf.int _)
      | 2 => cases hj; cases hc; exact .fr (Leaf.str _)
      | 3 => cases hj; cases hc; exact hT2.keep hn (by omega) hk3
      | j + 4 => simp at hj
    have h1av := hT2.one
    have hw3 : IntKind.i64.wrap 1 = 1 := wrap_small (by omega) (by omega)
    have ne0 : ¬ nx = n2 := by omega
    have hro2 : ro ≤ nx + 1 := by omega
    generalize hX : X K _ _ _ = x
    rcases hA with ⟨rfl, rfl, rfl⟩ | ⟨id, cs, rfl, rfl, i0, i1, ig, il, ik, ic⟩
    · have hk0 : 0 < mm := by omega
      simp [ht, h0, h1, h4, h5, h25, h26, hk0, hg2, hw1, hR, h1av, hro2, ne0, g2b, ne1, ne2, hw2] at hX
      subst hX
      refine key _ _ _ (.sl (n2 + 1) 0 1 4 true) false ?_ ?_ ?_ ?_ ?_ ?_ ?_ rfl ((((hG.trans hG2).set (i := nx + 1) (by omega) _).push _).push _) ?_ ?_ (.inr ⟨n2 + 1, _, rfl, rfl, by omega, by omega, hget_same _ _ _, ?_, by omega, fun j c t hj hc => ?_⟩)
      · simp [ht]
      · simp [h0]
      · simp [h1]
      · simp [h4]
      · simp [h5]
      · simp [h25]
      · simp [ht, hw3]
      · simp [g2a, hget_hset, show ¬ nx = n2 + 1 by omega, show ¬ nx = n2 by omega]
      · simp [g2b, ne0, ne1, ne2, hget_hset]
      · rfl
      · have hj4 : j < 4 := (List.getElem?_eq_some_iff.1 hj).1
        rw [Nat.mod_eq_of_lt hj4] at hc
        exact typed _ (fun i hi1 hi2 => by simp [hget_hset, show ¬ i = n2 + 1 by omega, show ¬ i = n2 by omega, show ¬ i = nx + 1 by omega]) j c t hj hc
    · have g2c := (hG2.old (j := id) (by omega) (by omega)).trans ig
      have ne3 : ¬ id = n2 := by omega
      have ne4 : ¬ nx + 1 = id := by omega
      have hg' : hget ((n2, ABlk.cells [(AVal.int .i64 op1, false), (.int .i64 n1, false), (.str nm1, false), (av1, false)]) :: hp2) id = some (.cells cs) := by simp [ne3, g2c]
      have hap := apM_sl hg' ro 56 4 true true false (.tmp 29) (n2 + 1) k 4 1 [AVal.int .i64 op1, .int .i64 n1, .str nm1, av1]
      rw [if_pos ⟨by omega, rfl, by omega, by omega⟩] at hap
      simp [ht, h0, h1, h4, h5, h25, h26, hk1, hg2, hw1, hR, h1av, hro2, ne0, g2b, g2c, ne1, ne2, ne3, ne4, hw2, hap] at hX
      subst hX
      refine key _ _ _ (.sl (n2 + 1) 0 (k + 1) 4 true) false ?_ ?_ ?_ ?_ ?_ ?_ ?_ rfl (((((hG.trans hG2).push _).del (i := id) (by omega)).set (i := nx + 1) (by omega) _).push _) ?_ ?_ (.inr ⟨n2 + 1, _, rfl, rfl, by omega, by omega, hget_same _ _ _, ?_, by omega, fun j c t hj hc => ?_⟩)
      · simp [ht]
      · simp [h0]
      · simp [h1]
      · simp [h4]
      · simp [h5]
      · simp [h25]
      · simp [ht, hw3]
      · simp [g2a, hget_hset, hget_hdel, show ¬ nx = n2 + 1 by omega, show ¬ nx = n2 by omega, show ¬ nx = id by omega]
      · simp [g2b, ne0, ne1, ne2, hget_hset, hget_hdel, show ¬ nx + 1 = id by omega]
      · simp; omega
      · by_cases hj4 : j < k * 4
        · rw [List.getElem?_append_left (by simp; omega), List.getElem?_take, if_pos hj4, List.getElem?_map] at hj
          obtain ⟨c0, hc0, rfl⟩ := Option.map_eq_some_iff.1 hj
          exact (ic j c0 t hc0 hc).keep (Nat.le_refl _) (by omega) fun i hi1 hi2 => by
            have := hG2.old (j := i) (by omega) (by omega)
            simp [hget_hset, this, show ¬ i = n2 + 1 by omega, show ¬ i = n2 by omega, show ¬ i = nx + 1 by omega, show ¬ i = id by omega]
        · have hlen : (List.take (k * 4) (List.map ((fun v => ((v : AVal), false)) ∘ fun (x : Cell) => x.1) cs)).length = k * 4 := by simp; omega
          rw [List.getElem?_append_right (by omega), hlen] at hj
          have hj4' : j - k * 4 < 4 := (List.getElem?_eq_some_iff.1 hj).1
          have hm : j % 4 = j - k * 4 := by omega
          rw [hm] at hc
          exact typed _ (fun i hi1 hi2 => by simp [hget_hset, show ¬ i = n2 + 1 by omega, show ¬ i = n2 by omega, show ¬ i = nx + 1 by omega, show ¬ i = id by omega]) _ c t hj hc
theorem tree_zero (l : List Int) (s ro d : Nat) (hl : l.length < 4611686018427387904) (hro : ro ≤ s) (hd : d < 2) : TreeOk l s ro d := by
  intro a nx hp ha hb hs hf
  have hsn := hf.lt hs
  have hne : ¬ s = nx := by omega
  have hro' : ro ≤ nx := by omega
  have hpos := treeB_pos d
  have hs1 : hget ((nx, ABlk.cells [(.int .i64 0, false), (.int .i64 0, false), (.str ByteArray.empty, false), (.lst [], true)]) :: hp) s = some (strm l a) := by simp [hne, hs]
  obtain ⟨op, n, nm, b, hL⟩ := leaf_R l a s ro (nx + 1) _ ⟨ha, by omega⟩ hl hs1 hro (by omega)
  have hd' : (d : Int) < 2 := by omega
  refine ⟨op, n, nm, .lst [], nx + 2, (nx + 1, b) :: (nx, .cells [(.int .i64 op, false), (.int .i64 n, false), (.str nm, false), (.lst [], false)]) :: hset hp s (strm l (a + 2)), a + 2, ?_, (((Gen.start hf hs).next hsn _).push _).push _, by omega, by omega, .fr (Leaf.nil 0), by have := blkB_pos d; omega⟩
  rw [R_body' K ro 31 _ nx hp [(12, [[], [1], [], [], [], [1], [1], [], [], []])] Tryz.func31 rfl Tryz.ntmps31 Tryz.results31 (mu := [26]) rfl (by kernel_rfl) rfl rfl rfl rfl]; simp only [slim, slimO, annO, List.map, List.zip, List.zipWith, List.lookup, holed, Nat.reduceBEq]
  simp [List.replicate, hd', hL, hne, hro']
theorem tree_R (l : List Int) (s ro : Nat) (hl : l.length < 4611686018427387904) (hro : ro ≤ s) : ∀ d : Nat, d < 90 → TreeOk l s ro d := by
  intro d
  induction d with
  | zero => intro _; exact tree_zero l s ro 0 hl hro (by omega)
  | succ d ih =>
    intro hd
    by_cases hd2 : d + 1 < 2
    · exact tree_zero l s ro _ hl hro hd2
    intro a nx hp ha hb hs hf
    have hsn := hf.lt hs
    have hne : ¬ s = nx := by omega
    have hne' : ¬ s = nx + 1 := by omega
    have hro' : ro ≤ nx := by omega
    have hro2 : ro ≤ nx + 1 := by omega
    have hpos := treeB_pos d
    simp only [treeB] at hb ⊢
    have hs1 : hget ((nx, ABlk.cells [(.int .i64 0, false), (.int .i64 0, false), (.str ByteArray.empty, false), (.lst [], true)]) :: hp) s = some (strm l a) := by simp [hne, hs]
    have hF := flip_R l a 3 s ro (nx + 1) _ ⟨ha, by omega⟩ (by omega) hl hs1 hro
    have hs2 : hget ((nx, ABlk.cells [(.int .i64 0, false), (.int .i64 0, false), (.str ByteArray.empty, false), (.lst [], true)]) :: hset hp s (strm l (a + 1))) s = some (strm l (a + 1)) := by simp [hne, hget_strm hs]
    have hd' : ¬ ((d : Int) + 1 < 2) := by omega
    by_cases h0 : nextF l a 3 = 0
    · obtain ⟨op, n, nm, b, hL⟩ := leaf_R l (a + 1) s ro (nx + 1) _ ⟨by omega, by omega⟩ hl hs2 hro (by omega)
      refine ⟨op, n, nm, .lst [], nx + 2, (nx + 1, b) :: (nx, .cells [(.int .i64 op, false), (.int .i64 n, false), (.str nm, false), (.lst [], false)]) :: hset hp s (strm l (a + 1 + 2)), a + 1 + 2, ?_, (((Gen.start hf hs).next hsn _).push _).push _, by omega, by omega, .fr (Leaf.nil 0), by have := blkB_pos d; simp only [blkB]; omega⟩
      rw [R_body' K ro 31 _ nx hp [(12, [[], [1], [], [], [], [1], [1], [], [], []])] Tryz.func31 rfl Tryz.ntmps31 Tryz.results31 (mu := [26]) rfl (by kernel_rfl) rfl rfl rfl rfl]; simp only [slim, slimO, annO, List.map, List.zip, List.zipWith, List.lookup, holed, Nat.reduceBEq]
      simp [List.replicate, hd', hF, h0, hL, hne, hro']
    · have hP := pick_R l (a + 1) [3, 4, 5, 6, 7, 8, 9] s ro (nx + 1) _ ⟨by omega, by omega⟩ (by simp) hl hs2 hro
      simp only [ints', List.map_cons, List.map_nil] at hP
      generalize hop : pickF l (a + 1) [3, 4, 5, 6, 7, 8, 9] = op at hP
      have hG0 := (((Gen.start hf hs).next hsn (a + 2)).push (ABlk.cells [(.int .i64 0, false), (.int .i64 0, false), (.str ByteArray.empty, false), (.lst [], true)])).push (ABlk.cells [(.int .i64 op, false), (.int .i64 0, false), (.str ByteArray.empty, false), (.lst [], true)])
      have hloop := fun (m : Nat) (hm : m ≤ 3) tm q1 q2 q3 q4 q5 q6 q7 => tree_loop l s ro d hl (by omega) (ih (by omega)) nx hp hsn hro op a hs m m 0 tm (nx + 2) _ (a + 2) (.lst []) true (by omega) (by omega) q1 q2 q3 q4 q5 q6 q7 (by omega) (by have : (m : Int) * treeB d ≤ 3 * treeB d := Int.mul_le_mul_of_nonneg_right (by omega) (by omega); omega) (by omega) hG0 (by simp) (by simp) (.inl ⟨rfl, rfl, rfl⟩)
      have fin : ∀ (m : Nat) (tm' : List Cell) (n' : Nat) (hp' : Heap) (a' : Int) (av' : AVal) (f' : Bool), a + 2 ≤ a' → a' ≤ a + 2 + 3 * treeB d → nx + 2 ≤ n' → Gen l s nx hp n' hp' a' →
          hget hp' (nx + 1) = some (.cells [(.int .i64 op, false), (.int .i64 0, false), (.str ByteArray.empty, false), (av', f')]) → Args hp' (nx + 2) n' (m + 0) av' f' →
          Gen l s nx hp n' (hset hp' nx (.cells [(.int .i64 op, false), (.int .i64 0, false), (.str ByteArray.empty, false), (av', false)])) a' ∧ a ≤ a' ∧ a' ≤ a + (3 + 3 * treeB d) ∧ Tv exprT (hset hp' nx (.cells [(.int .i64 op, false), (.int .i64 0, false), (.str ByteArray.empty, false), (av', false)])) nx n' (.row 0) av' :=
        fun m tm' n' hp' a' av' f' h1 h2 h3 h4 h5 h6 => ⟨h4.set (Nat.le_refl nx) _, by omega, by omega, h6.tv.keep (by omega) (Nat.le_refl _) fun i hi1 hi2 => by rw [hget_hset, if_neg (by omega)]⟩
      generalize hX : R K _ _ _ _ _ = x
      rw [R_body' K ro 31 _ nx hp [(12, [[], [1], [], [], [], [1], [1], [], [], []])] Tryz.func31 rfl Tryz.ntmps31 Tryz.results31 (mu := [26]) rfl (by kernel_rfl) rfl rfl rfl rfl] at hX; simp only [slim, slimO, annO, List.map, List.zip, List.zipWith, List.lookup, holed, Nat.reduceBEq] at hX
      by_cases h8 : op = 8
      · subst h8
        simp [List.replicate, hd', hF, h0, hP, hne, hne', hro', hro2] at hX
        generalize hb' : X K _ (.loop _) _ = r at hX
        have hk : ∃ tm' n' hp' a' av' f', r = some (.exit 1, ⟨tm', n', hp'⟩) ∧ tm'.length = 39 ∧ getC tm' 4 = (.ptr nx 0, false) ∧ getC tm' 5 = (.ptr (nx + 1) 0, false) ∧ a + 2 ≤ a' ∧ a' ≤ a + 2 + (1 : Nat) * treeB d ∧ nx + 2 ≤ n' ∧ Gen l s nx hp n' hp' a' ∧
            hget hp' nx = some (.cells [(.int .i64 0, false), (.int .i64 0, false), (.str ByteArray.empty, false), (.lst [], true)]) ∧ hget hp' (nx + 1) = some (.cells [(.int .i64 8, false), (.int .i64 0, false), (.str ByteArray.empty, false), (av', f')]) ∧ Args hp' (nx + 2) n' (1 + 0) av' f' ∧ n' ≤ nx + 2 + 1 * (blkB d + 2) := by
          rw [← hb']
          have e2 : a + 1 + 1 = a + 2 := by omega
          simp only [e2]
          apply hloop 1 (by omega)
          all_goals simp
        obtain ⟨tm', n', hp', a', av', f', rfl, w2, w3, w4, w5, w6, w7, w8, w9, w10, w11, w12⟩ := hk
        simp [w2, w3, w4, w9, w10, hro', show ¬ nx = nx + 1 by omega, w11.tv.one, w11.tv.unS] at hX
        obtain ⟨g1, g2, g3, g4⟩ := fin 1 tm' n' hp' a' av' f' w5 (by omega) w7 w8 w10 w11
        subst hX
        exact ⟨_, _, _, _, _, _, _, rfl, g1, g2, g3, g4, by simp only [blkB]; omega⟩
      · by_cases h9 : op = 9
        · subst h9
          simp [List.replicate, hd', hF, h0, hP, hne, hne', hro', hro2] at hX
          generalize hb' : X K _ (.loop _) _ = r at hX
          have hk : ∃ tm' n' hp' a' av' f', r = some (.exit 1, ⟨tm', n', hp'⟩) ∧ tm'.length = 39 ∧ getC tm' 4 = (.ptr nx 0, false) ∧ getC tm' 5 = (.ptr (nx + 1) 0, false) ∧ a + 2 ≤ a' ∧ a' ≤ a + 2 + (3 : Nat) * treeB d ∧ nx + 2 ≤ n' ∧ Gen l s nx hp n' hp' a' ∧
              hget hp' nx = some (.cells [(.int .i64 0, false), (.int .i64 0, false), (.str ByteArray.empty, false), (.lst [], true)]) ∧ hget hp' (nx + 1) = some (.cells [(.int .i64 9, false), (.int .i64 0, false), (.str ByteArray.empty, false), (av', f')]) ∧ Args hp' (nx + 2) n' (3 + 0) av' f' ∧ n' ≤ nx + 2 + 3 * (blkB d + 2) := by
            rw [← hb']
            have e2 : a + 1 + 1 = a + 2 := by omega
            simp only [e2]
            apply hloop 3 (by omega)
            all_goals simp
          obtain ⟨tm', n', hp', a', av', f', rfl, w2, w3, w4, w5, w6, w7, w8, w9, w10, w11, w12⟩ := hk
          simp [w2, w3, w4, w9, w10, hro', show ¬ nx = nx + 1 by omega, w11.tv.one, w11.tv.unS] at hX
          obtain ⟨g1, g2, g3, g4⟩ := fin 3 tm' n' hp' a' av' f' w5 (by omega) w7 w8 w10 w11
          subst hX
          exact ⟨_, _, _, _, _, _, _, rfl, g1, g2, g3, g4, by simp only [blkB]; omega⟩
        · skip
          simp [List.replicate, hd', hF, h0, hP, hne, hne', hro', hro2, h8, h9] at hX
          generalize hb' : X K _ (.loop _) _ = r at hX
          have hk : ∃ tm' n' hp' a' av' f', r = some (.exit 1, ⟨tm', n', hp'⟩) ∧ tm'.length = 39 ∧ getC tm' 4 = (.ptr nx 0, false) ∧ getC tm' 5 = (.ptr (nx + 1) 0, false) ∧ a + 2 ≤ a' ∧ a' ≤ a + 2 + (2 : Nat) * treeB d ∧ nx + 2 ≤ n' ∧ Gen l s nx hp n' hp' a' ∧
              hget hp' nx = some (.cells [(.int .i64 0, false), (.int .i64 0, false), (.str ByteArray.empty, false), (.lst [], true)]) ∧ hget hp' (nx + 1) = some (.cells [(.int .i64 op, false), (.int .i64 0, false), (.str ByteArray.empty, false), (av', f')]) ∧ Args hp' (nx + 2) n' (2 + 0) av' f' ∧ n' ≤ nx + 2 + 2 * (blkB d + 2) := by
            rw [← hb']
            have e2 : a + 1 + 1 = a + 2 := by omega
            simp only [e2]
            apply hloop 2 (by omega)
            all_goals simp
          obtain ⟨tm', n', hp', a', av', f', rfl, w2, w3, w4, w5, w6, w7, w8, w9, w10, w11, w12⟩ := hk
          simp [w2, w3, w4, w9, w10, hro', show ¬ nx = nx + 1 by omega, w11.tv.one, w11.tv.unS] at hX
          obtain ⟨g1, g2, g3, g4⟩ := fin 2 tm' n' hp' a' av' f' w5 (by omega) w7 w8 w10 w11
          subst hX
          exact ⟨_, _, _, _, _, _, _, rfl, g1, g2, g3, g4, by simp only [blkB]; omega⟩
end Go.Proofs.YtkpfkadjmijmlaaGreatDoor.M
/- AnExpr: a tree with a change in one place. -/
namespace Go.Proofs.YtkpfkadjmijmlaaGreatDoor.M
open Go.Proofs
set_option linter.unusedSimpArgs false
set_option linter.unusedVariables false
set_option maxRecDepth 100000
set_option pp.deepTerms false
set_option pp.deepTerms.threshold 6
set_option maxHeartbeats 4000000
/-- A pointer to a record of the forest. -/
def Pt (G : Kd) (hp : Heap) (p off : Nat) : Prop := G.kind p 0 ∧ off % 4 = 0 ∧ ∃ cs, hget hp p = some (.cells cs) ∧ off + 4 ≤ cs.length
structure AE (l : List Int) (s nx : Nat) (hp0 : Heap) (n1 n : Nat) (hp : Heap) (a : Int) (G : Kd) : Prop where
  gen : Gen l s nx hp0 n hp a
  forest : Forest exprT G (nx + 1) hp
  root : Pt G hp n1 0
  small : ∀ id cs, G.kind id 0 → hget hp id = some (.cells cs) → cs.length ≤ 100
  four : ∀ cs, hget hp n1 = some (.cells cs) → cs.length = 4
  ret : hget hp nx = some (.cells [(.int .i64 0, false), (.int .i64 0, false), (.str ByteArray.empty, false), (.lst [], true)])
theorem pt_cells {G : Kd} {hp : Heap} {lo p off : Nat} (F : Forest exprT G lo hp) (h : Pt G hp p off) : ∃ cs o n nm v f0 f1 f2 f3, hget hp p = some (.cells cs) ∧ off + 4 ≤ cs.length ∧ cs[off]? = some (.int .i64 o, f0) ∧ cs[off + 1]? = some (.int .i64 n, f1) ∧ cs[off + 2]? = some (.str nm, f2) ∧ cs[off + 3]? = some (v, f3) ∧ Hv exprT G hp (G.rank p) (.row 0) v := by
  obtain ⟨hk, h4, cs, hg, hl⟩ := h
  have at_ : ∀ i t, i < 4 → (exprT.of 0).cs[i]? = some t → ∃ c : Cell, cs[off + i]? = some c ∧ Hv exprT G hp (G.rank p) t c.1 := fun i t hi ht => by
    refine ⟨_, List.getElem?_eq_getElem (show off + i < cs.length by omega), F.cells p 0 cs hk hg (off + i) _ t (List.getElem?_eq_getElem (by omega)) ?_⟩
    show (exprT.of 0).cs[(off + i) % 4]? = some t
    rw [show (off + i) % 4 = i by omega]; exact ht
  obtain ⟨⟨v0, f0⟩, e0, h0⟩ := at_ 0 .int (by omega) rfl
  obtain ⟨⟨v1, f1⟩, e1, h1⟩ := at_ 1 .int (by omega) rfl
  obtain ⟨⟨v2, f2⟩, e2, h2⟩ := at_ 2 .str (by omega) rfl
  obtain ⟨⟨v3, f3⟩, e3, h3⟩ := at_ 3 (.row 0) (by omega) rfl
  have i0 : ∀ v r, Hv exprT G hp r .int v → ∃ n, v = .int .i64 n := fun v r h => by
    cases h with
    | fr h => cases h.1; exact ⟨_, rfl⟩
  have i2 : ∀ v r, Hv exprT G hp r .str v → ∃ n, v = .str n := fun v r h => by
    cases h with
    | fr h => cases h.1; exact ⟨_, rfl⟩
  obtain ⟨o, rfl⟩ := i0 v0 _ h0
  obtain ⟨n, rfl⟩ := i0 v1 _ h1
  obtain ⟨nm, rfl⟩ := i2 v2 _ h2
  exact ⟨cs, o, n, nm, v3, f0, f1, f2, f3, hg, hl, e0, e1, e2, e3, h3⟩
theorem hv_row {G : Kd} {hp : Heap} {r : Nat} {v : AVal} (h : Hv exprT G hp r (.row 0) v) : v = .lst [] ∨ ∃ id m len cs, v = .sl id (m * 4) len 4 true ∧ G.kind id 0 ∧ G.rank id < r ∧ hget hp id = some (.cells cs) ∧ (m + len) * 4 ≤ cs.length := by
  cases h with
  | fr h =>
    obtain ⟨h1, h2⟩ := h
    cases h1 with
    | row k xs _ _ _ => left; rw [h2 0 xs rfl rfl rfl]
  | sl k id m len cs hk hr hg hl => exact .inr ⟨id, m, len, cs, rfl, hk, hr, hg, hl⟩
theorem AE.next {l : List Int} {s nx n1 n : Nat} {hp0 hp : Heap} {a a0 : Int} {G : Kd} (h : AE l s nx hp0 n1 n hp a G) (hs0 : hget hp0 s = some (strm l a0)) (hsn : s < nx) (a' : Int) : AE l s nx hp0 n1 n (hset hp s (strm l a')) a' G := by
  have ne : ∀ id k, G.kind id k → id ≠ s := fun id k hk => by have := h.forest.lo id k hk; omega
  have hn1 := ne n1 0 h.root.1
  refine ⟨h.gen.next hsn a', h.forest.move fun id k hk => by rw [hget_hset, if_neg (ne id k hk)], ?_, fun id cs hk hc => h.small id cs hk (by rwa [hget_hset, if_neg (ne id 0 hk)] at hc), fun cs hc => h.four cs (by rwa [hget_hset, if_neg hn1] at hc), by rw [hget_hset, if_neg (by omega)]; exact h.ret⟩
  obtain ⟨q1, q2, cs, q3, q4⟩ := h.root
  exact ⟨q1, q2, cs, by rw [hget_hset, if_neg hn1]; exact q3, q4⟩
theorem Pt.next {l : List Int} {s nx n1 n : Nat} {hp0 hp : Heap} {a : Int} {G : Kd} (h : AE l s nx hp0 n1 n hp a G) (hsn : s < nx) {p off : Nat} (hp' : Pt G hp p off) (a' : Int) : Pt G (hset hp s (strm l a')) p off := by
  obtain ⟨q1, q2, cs, q3, q4⟩ := hp'
  have := h.forest.lo p 0 q1
  exact ⟨q1, q2, cs, by rw [hget_hset, if_neg (by omega)]; exact q3, q4⟩
theorem anExpr_walk (l : List Int) (s ro nx : Nat) (hp0 : Heap) (n1 n : Nat) (hl : l.length < 4611686018427387904) (hro : ro ≤ s) (hsn : s < nx) (a0 : Int) (hs0 : hget hp0 s = some (strm l a0)) (G : Kd) : ∀ (m p off : Nat) (tm : List Cell) (hp : Heap) (a : Int), G.rank p < m → tm.length = 90 → getC tm 0 = (.ptr s 0, false) → getC tm 2 = (.ptr nx 0, false) → getC tm 3 = (.ptr n1 0, false) → getC tm 4 = (.ptr p off, false) →
    0 ≤ a → a + 2 * m < 4611686018427387000 → AE l s nx hp0 n1 n hp a G → Pt G hp p off →
    ∃ tm' p' off' a', X K ⟨ro, [26]⟩ (.loop (LB Tryz.prog 5 [(5, [[], [], [], [3], [], [], [], [], [], [3], [3], [], []]), (18, [[], [], [], [], [4], [], [], [], [], [4], [], [], [], [], []])] 0)) ⟨tm, n, hp⟩ = some (.exit 0, ⟨tm', n, hset hp s (strm l a')⟩) ∧ tm'.length = 90 ∧ getC tm' 0 = (.ptr s 0, false) ∧ getC tm' 2 = (.ptr nx 0, false) ∧ getC tm' 3 = (.ptr n1 0, false) ∧ getC tm' 4 = (.ptr p' off', false) ∧ a ≤ a' ∧ a' ≤ a + 2 * m ∧ AE l s nx hp0 n1 n (hset hp s (strm l a')) a' G ∧ Pt G (hset hp s (strm l a')) p' off' := by
  have e := LB_open (P := Tryz.prog) [(5, [[], [], [], [3], [], [], [], [], [], [3], [3], [], []]), (18, [[], [], [], [], [4], [], [], [], [], [4], [], [], [], [], []])] 0 Tryz.func5 rfl rfl (by kernel_rfl)
  simp only [slim, slimO, annO, List.map, List.zip, List.zipWith, List.lookup, holed, loopsOf, List.nil_append, List.cons_append, List.getD_cons_zero, List.getD_cons_succ, Nat.reduceBEq] at e
  intro m
  induction m with
  | zero => intro p off tm hp a hm; omega
  | succ m ih =>
    intro p off tm hp a hm ht h0 h2 h3 h4 ha hb hA hp'
    rw [Y_loop_eq _ _ e]
    have hs := hA.gen.strm hs0 hsn
    obtain ⟨cs, o, nn, nm, v, f0, f1, f2, f3, hg, hlen, c0, c1, c2, c3, hv⟩ := pt_cells hA.forest hp'
    have hps : ¬ p = s := by have := hA.forest.lo p 0 hp'.1; omega
    have hF := flip_R l a 2 s ro n hp ⟨ha, by omega⟩ (by omega) hl hs hro
    have stay : ∀ a', AE l s nx hp0 n1 n (hset hp s (strm l a')) a' G ∧ Pt G (hset hp s (strm l a')) p off := fun a' => ⟨hA.next hs0 hsn a', hp'.1, hp'.2.1, cs, by rw [hget_hset, if_neg hps]; exact hg, hlen⟩
    have hx : cs[off + 3]? = some (v, false) ∨ cs[off + 3]? = some (v, true) := by cases f3 <;> simp [c3]
    generalize hX : X K _ _ _ = x
    rcases hv_row hv with rfl | ⟨id, mm, len, cs', rfl, hk, hr, hg', hl'⟩
    · have hx' : x = some (.exit 0, ⟨(((((((((tm.set 12 (.ptr p off, false)).set 13 (.ptr p off, false)).set 14 (.ptr p (off + 3), false)).set 15 (.lst [], false)).set 16 (.int .i64 0, false)).set 17 (.bool false, false)).set 18 (.bool false, false)).set 19 (.tup [], false)).set 20 (.tup [], false)).set 21 (.bool false, false), n, hp⟩) := by
        rw [← hX]
        rcases hx with hx | hx <;> simp [ht, h0, h2, h3, h4, hg, hx]
      subst hx'
      exact ⟨_, p, off, a, by rw [hset_self hs]; rfl, by simp [ht], by simp [h0], by simp [h2], by simp [h3], by simp [h4], by omega, by omega, stay a⟩
    · by_cases hz : (len : Int) = 0
      · have hx' : x = some (.exit 0, ⟨(((((((((tm.set 12 (.ptr p off, false)).set 13 (.ptr p off, false)).set 14 (.ptr p (off + 3), false)).set 15 (.sl id (mm * 4) len 4 true, false)).set 16 (.int .i64 len, false)).set 17 (.bool false, false)).set 18 (.bool false, false)).set 19 (.tup [], false)).set 20 (.tup [], false)).set 21 (.bool false, false), n, hp⟩) := by
          rw [← hX]
          rcases hx with hx | hx <;> simp [ht, h0, h2, h3, h4, hg, hx, hz]
        subst hx'
        exact ⟨_, p, off, a, by rw [hset_self hs]; rfl, by simp [ht], by simp [h0], by simp [h2], by simp [h3], by simp [h4], by omega, by omega, stay a⟩
      · have hpos : 0 < len := by omega
        have hs1 : hget (hset hp s (strm l (a + 1))) s = some (strm l (a + 1)) := by simp [hs]
        have hN := next_R l (a + 1) len s ro n (hset hp s (strm l (a + 1))) ⟨by omega, by omega⟩ (by have := hA.small id cs' hk hg'; omega) hl hs1 hro
        have hr2 := (nextF_range l (a + 1) len).1 (by omega)
        by_cases h1 : nextF l a 2 = 0
        · have hx' : ∃ tm', x = some (.normal, ⟨tm', n, hset hp s (strm l (a + 1 + 1))⟩) ∧ tm'.length = 90 ∧ getC tm' 0 = (.ptr s 0, false) ∧ getC tm' 2 = (.ptr nx 0, false) ∧ getC tm' 3 = (.ptr n1 0, false) ∧ getC tm' 4 = (.ptr id (mm * 4 + (nextF l (a + 1) len).toNat * 4), false) := by
            rw [← hX]
            rcases hx with hx | hx <;> simp [ht, h0, h2, h3, h4, hg, hx, hpos, hF, h1, hps, hN, hr2]
          obtain ⟨tm', rfl, q1, q2, q3, q4, q5⟩ := hx'
          rw [XK_normal]
          have hids : ¬ id = s := by have := hA.forest.lo id 0 hk; omega
          obtain ⟨tm2, p', off', a', w1, w2, w3, w4, w5, w6, w7, w8, w9⟩ := ih id (mm * 4 + (nextF l (a + 1) len).toNat * 4) tm' (hset hp s (strm l (a + 1 + 1))) (a + 1 + 1) (by omega) q1 q2 q3 q4 q5 (by omega) (by omega) (hA.next hs0 hsn _) ⟨hk, by omega, cs', by rw [hget_hset, if_neg hids]; exact hg', by omega⟩
          rw [hset_hset] at w1 w9
          exact ⟨tm2, p', off', a', w1, w2, w3, w4, w5, w6, by omega, by omega, w9⟩
        · have hx' : ∃ tm', x = some (.exit 0, ⟨tm', n, hset hp s (strm l (a + 1))⟩) ∧ tm'.length = 90 ∧ getC tm' 0 = (.ptr s 0, false) ∧ getC tm' 2 = (.ptr nx 0, false) ∧ getC tm' 3 = (.ptr n1 0, false) ∧ getC tm' 4 = (.ptr p off, false) := by
            rw [← hX]
            rcases hx with hx | hx <;> simp [ht, h0, h2, h3, h4, hg, hx, hpos, hF, h1]
          obtain ⟨tm', rfl, q1, q2, q3, q4, q5⟩ := hx'
          exact ⟨tm', p, off, a + 1, by rw [XK_exit], q1, q2, q3, q4, q5, by omega, by omega, stay (a + 1)⟩
/-- Cells of a record are written. -/
theorem AE.put {l : List Int} {s nx n1 n : Nat} {hp0 hp : Heap} {a : Int} {G : Kd} (h : AE l s nx hp0 n1 n hp a G) {p off : Nat} (hp' : Pt G hp p off) {cs : List Cell} (hg : hget hp p = some (.cells cs)) (cs' : List Cell) (hl : cs'.length = cs.length) (hc : ∀ (j : Nat) (c : Cell) t, cs'[j]? = some c → (exprT.of 0).cs[j % 4]? = some t → cs[j]? = some c ∨ Hv exprT G hp (G.rank p) t c.1) :
    AE l s nx hp0 n1 n (hset hp p (.cells cs')) a G ∧ Pt G (hset hp p (.cells cs')) p off := by
  have hlo := h.forest.lo p 0 hp'.1
  obtain ⟨r1, r2, csr, r3, r4⟩ := h.root
  refine ⟨⟨h.gen.set (by omega) _, h.forest.set hg cs' hl fun k _ => hc, ?_, fun id cs0 hk hc0 => ?_, fun cs0 hc0 => ?_, by rw [hget_hset, if_neg (by omega)]; exact h.ret⟩, ?_⟩
  · by_cases e : n1 = p
    · subst e
      rw [hg] at r3; cases r3
      exact ⟨r1, r2, cs', by rw [hget_hset, if_pos rfl, hg]; rfl, by omega⟩
    · exact ⟨r1, r2, csr, by rw [hget_hset, if_neg e]; exact r3, r4⟩
  · rw [hget_hset] at hc0
    split at hc0
    · rename_i e; subst e
      rw [hg] at hc0; cases hc0
      have := h.small id cs hk hg
      omega
    · exact h.small id cs0 hk hc0
  · rw [hget_hset] at hc0
    split at hc0
    · rename_i e; subst e
      rw [hg] at hc0; cases hc0
      have := h.four cs hg
      omega
    · exact h.four cs0 hc0
  · obtain ⟨q1, q2, cs0, q3, q4⟩ := hp'
    rw [hg] at q3; cases q3
    exact ⟨q1, q2, cs', by rw [hget_hset, if_pos rfl, hg]; rfl, by omega⟩
theorem AE.put1 {l : List Int} {s nx n1 n : Nat} {hp0 hp : Heap} {a : Int} {G : Kd} (h : AE l s nx hp0 n1 n hp a G) {p off : Nat} (hp' : Pt G hp p off) {cs : List Cell} (hg : hget hp p = some (.cells cs)) (i : Nat) (hi : i < 4) {t : CK} (ht : (exprT.of 0).cs[i]? = some t) {v : AVal} {f : Bool} (hv : Hv exprT G hp (G.rank p) t v) :
    AE l s nx hp0 n1 n (hset hp p (.cells (cs.set (off + i) (v, f)))) a G := by
  refine (h.put hp' hg _ (by simp) fun j c t' hj ht' => ?_).1
  rw [List.getElem?_set] at hj
  split at hj
  · rename_i e
    split at hj
    · cases hj
      have := hp'.2.1
      have e2 : j % 4 = i := by omega
      rw [e2, ht] at ht'; cases ht'
      exact .inr hv
    · cases hj
  · exact .inl hj
/-- The record goes into a new one, that takes its place. -/
theorem AE.wrap {l : List Int} {s nx n1 n : Nat} {hp0 hp : Heap} {a : Int} {G : Kd} (h : AE l s nx hp0 n1 n hp a G) {p off : Nat} (hp' : Pt G hp p off) {cs : List Cell} (hg : hget hp p = some (.cells cs)) {o nn : Int} {nm : ByteArray} {v : AVal} (hv : Hv exprT G hp (G.rank p) (.row 0) v) (op : Int) (f : Bool) :
    ∃ G', AE l s nx hp0 n1 (n + 1) ((n, .cells [(.int .i64 o, false), (.int .i64 nn, false), (.str nm, false), (v, false)]) :: hset hp p (.cells (setCs cs off [(.int .i64 op, false), (.int .i64 0, false), (.str ByteArray.empty, false), (.sl n 0 1 4 true, f)]))) a G' ∧
      Pt G' ((n, .cells [(.int .i64 o, false), (.int .i64 nn, false), (.str nm, false), (v, false)]) :: hset hp p (.cells (setCs cs off [(.int .i64 op, false), (.int .i64 0, false), (.str ByteArray.empty, false), (.sl n 0 1 4 true, f)]))) p off := by
  have hpn : p < n := h.gen.fresh.lt hg
  have hnn : hget hp n = none := by
    cases hx : hget hp n with
    | none => rfl
    | some b => have := h.gen.fresh.lt hx; omega
  have hlo := h.forest.lo p 0 hp'.1
  obtain ⟨r1, r2, csr, r3, r4⟩ := h.root
  have hrn : n1 < n := h.gen.fresh.lt r3
  have hret : nx < n := h.gen.fresh.lt h.ret
  let b : ABlk := .cells [(.int .i64 o, false), (.int .i64 nn, false), (.str nm, false), (v, false)]
  have F1 : Forest exprT (G.between n p 0) (nx + 1) ((n, b) :: hp) := h.forest.between (by omega) hnn (fun j c t hj ht => by
    have hj4 : j < 4 := (List.getElem?_eq_some_iff.1 hj).1
    have ht : (exprT.of 0).cs[j % 4]? = some t := ht
    rw [Nat.mod_eq_of_lt hj4] at ht
    match j with
    | 0 => cases hj; cases ht; exact .fr (Leaf.int _)
    | 1 => cases hj; cases ht; exact .fr (Leaf.int _)
    | 2 => cases hj; cases ht; exact .fr (Leaf.str _)
    | 3 => cases hj; cases ht; exact hv
    | j + 4 => omega)
  have kold : ∀ id, G.kind id 0 → id ≠ n → (G.between n p 0).kind id 0 := fun id hk hne => .inr ⟨hne, hk⟩
  have A1 : AE l s nx hp0 n1 (n + 1) ((n, b) :: hp) a (G.between n p 0) := by
    refine ⟨h.gen.push b, F1, ⟨kold n1 r1 (by omega), r2, csr, by rw [hget_cons, if_neg (by omega)]; exact r3, r4⟩, fun id cs0 hk hc0 => ?_, fun cs0 hc0 => h.four cs0 (by rwa [hget_cons, if_neg (by omega)] at hc0), by rw [hget_cons, if_neg (by omega)]; exact h.ret⟩
    rcases hk with ⟨rfl, _⟩ | ⟨hne, hk⟩
    · rw [hget_same] at hc0
      injection hc0 with e
      injection e with e
      rw [← e]; show 4 ≤ 100; decide
    · rw [hget_cons, if_neg hne] at hc0; exact h.small id cs0 hk hc0
  have hp1 : Pt (G.between n p 0) ((n, b) :: hp) p off := by
    obtain ⟨q1, q2, cs0, q3, q4⟩ := hp'
    exact ⟨kold p q1 (by omega), q2, cs0, by rw [hget_cons, if_neg (by omega)]; exact q3, q4⟩
  have hg1 : hget ((n, b) :: hp) p = some (.cells cs) := by rw [hget_cons, if_neg (by omega)]; exact hg
  have hrk : (G.between n p 0).rank p = 2 * G.rank p + 1 := if_neg (by omega)
  have hrn2 : (G.between n p 0).rank n = 2 * G.rank p := if_pos rfl
  have hsl : Hv exprT (G.between n p 0) ((n, b) :: hp) ((G.between n p 0).rank p) (.row 0) (.sl n 0 1 4 true) := by
    have := Hv.sl (T := exprT) (G := G.between n p 0) (hp := (n, b) :: hp) (r := (G.between n p 0).rank p) 0 n 0 1 _ (.inl ⟨rfl, rfl⟩) (by rw [hrk, hrn2]; omega) (hget_same _ _ _) (by show (0 + 1) * 4 ≤ 4; decide)
    exact this
  have := A1.put hp1 hg1 (setCs cs off [(.int .i64 op, false), (.int .i64 0, false), (.str ByteArray.empty, false), (.sl n 0 1 4 true, f)]) (setCs_len _ _ _) fun j c t hj ht => by
    rw [setCs_get] at hj
    split at hj
    · rename_i hin
      obtain ⟨i1, i2, i3⟩ := hin
      simp only [List.length_cons, List.length_nil] at i2
      have hm := hp'.2.1
      have e : j % 4 = j - off := by omega
      rw [e] at ht
      right
      generalize j - off = i at hj ht
      match i with
      | 0 => cases hj; cases ht; exact .fr (Leaf.int _)
      | 1 => cases hj; cases ht; exact .fr (Leaf.int _)
      | 2 => cases hj; cases ht; exact .fr (Leaf.str _)
      | 3 => cases hj; cases ht; exact hsl
      | i + 4 => simp at hj
    · exact .inl hj
  refine ⟨G.between n p 0, ?_⟩
  have e : hset ((n, b) :: hp) p (.cells (setCs cs off [(.int .i64 op, false), (.int .i64 0, false), (.str ByteArray.empty, false), (.sl n 0 1 4 true, f)])) = (n, b) :: hset hp p (.cells (setCs cs off [(.int .i64 op, false), (.int .i64 0, false), (.str ByteArray.empty, false), (.sl n 0 1 4 true, f)])) := by
    rw [hset_cons, if_neg (by omega)]
  rw [e] at this
  exact this
theorem cells4 {cs : List Cell} {off : Nat} {c0 c1 c2 c3 : Cell} (h0 : cs[off]? = some c0) (h1 : cs[off + 1]? = some c1) (h2 : cs[off + 2]? = some c2) (h3 : cs[off + 3]? = some c3) : ((cs.drop off).take 4).map (·.1) = [c0.1, c1.1, c2.1, c3.1] := by
  have g : ∀ i c, i < 4 → cs[off + i]? = some c → (((cs.drop off).take 4).map (·.1))[i]? = some c.1 := fun i c hi hc => by
    rw [List.getElem?_map, List.getElem?_take, if_pos hi, List.getElem?_drop, hc]; rfl
  have hlen : (((cs.drop off).take 4).map (·.1)).length = 4 := by
    have := (List.getElem?_eq_some_iff.1 h3).1
    simp; omega
  refine List.ext_getElem? fun i => ?_
  match i with
  | 0 => exact g 0 c0 (by omega) h0
  | 1 => exact g 1 c1 (by omega) h1
  | 2 => exact g 2 c2 (by omega) h2
  | 3 => exact g 3 c3 (by omega) h3
  | i + 4 => rw [List.getElem?_eq_none (by omega)]; rfl
theorem hv_one {T : Recs} {G : Kd} {hp : Heap} {r : Nat} {c : CK} {v : AVal} (h : Hv T G hp r c v) : v.one = true ∧ unS v = (v, false) := by
  cases h with
  | fr h => exact ⟨h.1.one, h.1.unS⟩
  | sl => exact ⟨rfl, rfl⟩
theorem anExpr_wrap (l : List Int) (s ro nx : Nat) (hp0 : Heap) (n1 : Nat) (hro : ro ≤ nx) (mm : Int) (hmm : mm ≤ 100) (p off : Nat) (a : Int) : ∀ (r : Nat) (k : Int) (tm : List Cell) (n : Nat) (hp : Heap) (G : Kd), 0 ≤ k → r + k = mm → tm.length = 90 → getC tm 2 = (.ptr nx 0, false) → getC tm 3 = (.ptr n1 0, false) → getC tm 4 = (.ptr p off, false) → getC tm 38 = (.int .i64 mm, false) → getC tm 39 = (.int .i64 k, false) →
    AE l s nx hp0 n1 n hp a G → Pt G hp p off →
    ∃ tm' n' hp' G', X K ⟨ro, [26]⟩ (.loop (LB Tryz.prog 5 [(5, [[], [], [], [3], [], [], [], [], [], [3], [3], [], []]), (18, [[], [], [], [], [4], [], [], [], [], [4], [], [], [], [], []])] 1)) ⟨tm, n, hp⟩ = some (.exit 3, ⟨tm', n', hp'⟩) ∧ tm'.length = 90 ∧ getC tm' 2 = (.ptr nx 0, false) ∧ getC tm' 3 = (.ptr n1 0, false) ∧ AE l s nx hp0 n1 n' hp' a G' := by
  have e := LB_open (P := Tryz.prog) [(5, [[], [], [], [3], [], [], [], [], [], [3], [3], [], []]), (18, [[], [], [], [], [4], [], [], [], [], [4], [], [], [], [], []])] 1 Tryz.func5 rfl rfl (by kernel_rfl)
  simp only [slim, slimO, annO, List.map, List.zip, List.zipWith, List.lookup, holed, loopsOf, List.nil_append, List.cons_append, List.getD_cons_zero, List.getD_cons_succ, Nat.reduceBEq] at e
  intro r
  induction r with
  | zero =>
    intro k tm n hp G hk0 hk ht h2 h3 h4 h38 h39 hA hP
    rw [Y_loop_eq _ _ e]
    have hk1 : ¬ k < mm := by omega
    generalize hX : X K _ _ _ = x
    simp [ht, h38, h39, hk1] at hX
    subst hX
    exact ⟨_, n, hp, G, rfl, by simp [ht], by simp [h2], by simp [h3], hA⟩
  | succ r ih =>
    intro k tm n hp G hk0 hk ht h2 h3 h4 h38 h39 hA hP
    rw [Y_loop_eq _ _ e]
    have hk1 : k < mm := by omega
    have hw : IntKind.i64.wrap (k + 1) = k + 1 := wrap_small (by omega) (by omega)
    obtain ⟨cs, o, nn, nm, v, f0, f1, f2, f3, hg, hlen, c0, c1, c2, c3, hv⟩ := pt_cells hA.forest hP
    have h4c := cells4 c0 c1 c2 c3
    simp only [List.map_take, List.map_drop] at h4c
    have hpn : ¬ p = n := by have := hA.gen.fresh.lt hg; omega
    have hrop : ro ≤ p := by have := hA.forest.lo p 0 hP.1; omega
    obtain ⟨G', hA', hP'⟩ := hA.wrap hP hg hv 8 false (o := o) (nn := nn) (nm := nm)
    have h1 := hv_one hv
    generalize hX : X K _ _ _ = x
    simp [ht, h2, h3, h4, h38, h39, hk1, hw, hg, hlen, h4c, hpn, hrop, h1.1, h1.2] at hX
    subst hX
    rw [XK_normal]
    exact ih (k + 1) _ (n + 1) _ G' (by omega) (by omega) (by simp [ht]) (by simp [h2]) (by simp [h3]) (by simp [h4]) (by simp [h38]) (by simp [ht]) hA' hP'
end Go.Proofs.YtkpfkadjmijmlaaGreatDoor.M
/- AnExpr gives an expression. -/
namespace Go.Proofs.YtkpfkadjmijmlaaGreatDoor.M
open Go.Proofs Go.Proofs.YtkpfkadjmijmlaaGreatDoor.X
set_option linter.unusedSimpArgs false
set_option linter.unusedVariables false
set_option maxRecDepth 100000
set_option pp.deepTerms false
set_option pp.deepTerms.threshold 6
set_option maxHeartbeats 4000000
theorem pickF_mem (l : List Int) (a : Int) (ls : List Int) (h : 1 ≤ ls.length) : pickF l a ls ∈ ls := by
  unfold pickF
  have hr := (nextF_range l a ls.length).1 (by omega)
  rw [List.getD_eq_getElem?_getD, List.getElem?_eq_getElem (show (nextF l a ls.length).toNat < ls.length by omega)]
  exact List.getElem_mem _
theorem Forest.lower {T : Recs} {G : Kd} {lo lo' : Nat} {hp : Heap} (F : Forest T G lo hp) (h : lo' ≤ lo) : Forest T G lo' hp := ⟨fun id k hk => Nat.le_trans h (F.lo id k hk), F.cells⟩
theorem AE.done {l : List Int} {s nx n1 n : Nat} {hp0 hp : Heap} {a : Int} {G : Kd} (h : AE l s nx hp0 n1 n hp a G) (hb : Base nx hp0) :
    ∃ o nn nm v f0 f1 f2 f3, hget hp n1 = some (.cells [(.int .i64 o, f0), (.int .i64 nn, f1), (.str nm, f2), (v, f3)]) ∧ v.one = true ∧ unS v = (v, false) ∧ ∀ cs', ∃ x, Tidied nx (some ⟨.agg [.int .i64 o, .int .i64 nn, .str nm, v], false, n, hset hp nx (.cells cs')⟩) = some ⟨encX x, false, nx, hset hp0 s (strm l a)⟩ := by
  obtain ⟨cs, o, nn, nm, v, f0, f1, f2, f3, hg, hlen, c0, c1, c2, c3, hv⟩ := pt_cells h.forest h.root
  have h4 := h.four cs hg
  have hcs : cs = [(.int .i64 o, f0), (.int .i64 nn, f1), (.str nm, f2), (v, f3)] := by
    refine List.ext_getElem? fun i => ?_
    match i with
    | 0 => exact c0
    | 1 => exact c1
    | 2 => exact c2
    | 3 => exact c3
    | i + 4 => rw [List.getElem?_eq_none (by omega)]; rfl
  subst hcs
  have h1 := hv_one hv
  have key : ∀ cs', ∃ us, FZ nx (hset hp nx (.cells cs')) (.agg [.int .i64 o, .int .i64 nn, .str nm, v]) = some (.agg us) ∧ us.length = 4 ∧ ∀ (i : Nat) u t, us[i]? = some u → (exprT.of 0).cs[i]? = some t → Fr exprT t u := fun cs' => by
    have hne : ∀ id k, G.kind id k → id ≠ nx := fun id k hk => by have := h.forest.lo id k hk; omega
    have F : Forest exprT G nx (hset hp nx (.cells cs')) := (h.forest.move fun id k hk => by rw [hget_hset, if_neg (hne id k hk)]).lower (Nat.le_succ nx)
    refine agg_FZ F (G.rank n1) _ _ rfl fun i c t hc ht => ?_
    match i with
    | 0 => cases hc; cases ht; exact .fr (Leaf.int _)
    | 1 => cases hc; cases ht; exact .fr (Leaf.int _)
    | 2 => cases hc; cases ht; exact .fr (Leaf.str _)
    | 3 => cases hc; cases ht; exact hv.move fun id k cs q1 q2 q3 => ⟨q1, q2, cs, by rw [hget_hset, if_neg (hne id k q1)]; exact q3, Nat.le_refl _⟩
    | i + 4 => simp at hc
  have fin : ∀ us, us.length = 4 → (∀ (i : Nat) u t, us[i]? = some u → (exprT.of 0).cs[i]? = some t → Fr exprT t u) → ∃ x, AVal.agg us = encX x := by
    intro us hl hu
    have at_ : ∀ i t, i < 4 → (exprT.of 0).cs[i]? = some t → ∃ u, us[i]? = some u ∧ Fr exprT t u := fun i t hi ht => by
      have hc : us[i]? = some (us[i]'(by omega)) := List.getElem?_eq_getElem (by omega)
      exact ⟨_, hc, hu i _ t hc ht⟩
    obtain ⟨u0, e0, h0⟩ := at_ 0 .int (by omega) rfl
    obtain ⟨u1, e1, h1⟩ := at_ 1 .int (by omega) rfl
    obtain ⟨u2, e2, h2⟩ := at_ 2 .str (by omega) rfl
    obtain ⟨u3, e3, h3⟩ := at_ 3 (.row 0) (by omega) rfl
    obtain ⟨l, rfl⟩ := fr_row h3 0 rfl
    obtain ⟨o, rfl⟩ := fr_int h0
    obtain ⟨n, rfl⟩ := fr_int h1
    obtain ⟨s, rfl⟩ := fr_str h2
    refine ⟨.mk o n s l, ?_⟩
    rw [encX]
    congr 1
    refine List.ext_getElem? fun i => ?_
    match i with
    | 0 => exact e0
    | 1 => exact e1
    | 2 => exact e2
    | 3 => exact e3
    | i + 4 => rw [List.getElem?_eq_none (by omega)]; rfl
  refine ⟨o, nn, nm, v, f0, f1, f2, f3, hg, h1.1, h1.2, fun cs' => ?_⟩
  obtain ⟨us, q1, q2, q3⟩ := key cs'
  obtain ⟨x, hx⟩ := fin us q2 q3
  refine ⟨x, ?_⟩
  have hlow : hlow nx (hset hp nx (.cells cs')) = hset hp0 s (strm l a) := by rw [hlow_hset' _ _ _ _ (Nat.le_refl nx), h.gen.low]
  have hcl : hclean nx (hset hp nx (.cells cs')) = true := by rw [← hclean_hlow, hlow]; exact (hb.set l a).2
  simp only [Tidied, q1, hx, encX_ids, hcl, Bool.and_true, if_true, slOwn, hlow, Bool.false_and]
theorem anExpr_R (l : List Int) (a : Int) (s ro nx : Nat) (hp : Heap) (ha : 0 ≤ a) (hb : a + 100000 < 4611686018427387000) (hl : l.length < 4611686018427387904) (hs : hget hp s = some (strm l a)) (hro : ro ≤ s) (hB : Base nx hp) :
    ∃ x a', R K 5 [.ptr s 0] ro nx hp = some ⟨encX x, false, nx, hset hp s (strm l a')⟩ ∧ a ≤ a' ∧ a' ≤ a + 100000 := by
  have hf : Fresh nx hp := hB.1
  have hsn := hf.lt hs
  have hne : ¬ s = nx := by omega
  have hro1 : ro ≤ nx := by omega
  have hs1 : hget ((nx, ABlk.cells [(.int .i64 0, false), (.int .i64 0, false), (.str ByteArray.empty, false), (.lst [], true)]) :: hp) s = some (strm l a) := by simp [hne, hs]
  have hP := pick_R l a [1, 2, 3, 4] s ro (nx + 1) _ ⟨ha, by omega⟩ (by simp) hl hs1 hro
  have hPm := pickF_mem l a [1, 2, 3, 4] (by simp)
  obtain ⟨d, hd, hd4⟩ : ∃ d : Nat, pickF l a [1, 2, 3, 4] = d ∧ d ≤ 4 := by
    refine ⟨(pickF l a [1, 2, 3, 4]).toNat, ?_, ?_⟩ <;> simp at hPm <;> omega
  rw [hd] at hP
  simp only [ints', List.map_cons, List.map_nil] at hP
  have hs2 : hget ((nx, ABlk.cells [(.int .i64 0, false), (.int .i64 0, false), (.str ByteArray.empty, false), (.lst [], true)]) :: hset hp s (strm l (a + 1))) s = some (strm l (a + 1)) := by simp [hne, hs]
  have hG1 := ((Gen.start hf hs).next hsn (a + 1)).push (ABlk.cells [(.int .i64 0, false), (.int .i64 0, false), (.str ByteArray.empty, false), (.lst [], true)])
  have htb : treeB d ≤ 500 := by
    match d, hd4 with
    | 0, _ => decide
    | 1, _ => decide
    | 2, _ => decide
    | 3, _ => decide
    | 4, _ => decide
  have hbb : blkB d ≤ 1000 := by
    match d, hd4 with
    | 0, _ => decide
    | 1, _ => decide
    | 2, _ => decide
    | 3, _ => decide
    | 4, _ => decide
  obtain ⟨op, n0, nm, av, n1, hp1, a1, hR, hG2, ha1, ha2, hT, hnb⟩ := tree_R l s ro hl hro d (by omega) (a + 1) (nx + 1) _ (by omega) (by omega) hs2 hG1.fresh
  have hle := hG2.le
  have hnn : hget hp1 n1 = none := by
    cases hx : hget hp1 n1 with
    | none => rfl
    | some b => have := hG2.fresh.lt hx; omega
  have hT1 := hT.one
  have hTu := hT.unS
  have hrt := (hG2.old (j := nx) (by omega) (by omega)).trans (hget_same nx _ _)
  have hA : AE l s nx hp n1 (n1 + 1) ((n1, .cells [(.int .i64 op, false), (.int .i64 n0, false), (.str nm, false), (av, false)]) :: hp1) a1 (Kd.age exprT ((n1, .cells [(.int .i64 op, false), (.int .i64 n0, false), (.str nm, false), (av, false)]) :: hp1) (nx + 1)) := by
    refine ⟨(hG1.trans hG2).push _, age_forest _ _ _, ⟨⟨hle, _, hget_same _ _ _, by show 4 ≤ 100; decide, fun j c t hj ht => ?_⟩, rfl, _, hget_same _ _ _, by show 0 + 4 ≤ 4; decide⟩, fun id cs hk hc => ?_, fun cs hc => ?_, by rw [hget_cons, if_neg (by omega)]; exact hrt⟩
    · have hj4 : j < 4 := (List.getElem?_eq_some_iff.1 hj).1
      have ht : (exprT.of 0).cs[j % 4]? = some t := ht
      rw [Nat.mod_eq_of_lt hj4] at ht
      match j with
      | 0 => cases hj; cases ht; exact .fr (Leaf.int _)
      | 1 => cases hj; cases ht; exact .fr (Leaf.int _)
      | 2 => cases hj; cases ht; exact .fr (Leaf.str _)
      | 3 => cases hj; cases ht; exact hT.keep (Nat.le_refl _) (Nat.le_refl _) fun i hi1 hi2 => by rw [hget_cons, if_neg (by omega)]
      | j + 4 => omega
    · obtain ⟨_, cs', q1, q2, _⟩ := hk
      rw [hc] at q1; cases q1; exact q2
    · rw [hget_same] at hc
      injection hc with e; injection e with e; rw [← e]; rfl
  have hne2 : ¬ s = n1 := by omega
  have hs3 : hget ((n1, ABlk.cells [(.int .i64 op, false), (.int .i64 n0, false), (.str nm, false), (av, false)]) :: hp1) s = some (strm l a1) := by rw [hget_cons, if_neg (by omega)]; exact hG2.strm hs2 (by omega)
  have hF := flip_R l a1 12 s ro (n1 + 1) _ ⟨by omega, by omega⟩ (by omega) hl hs3 hro
  have hro2 : ro ≤ n1 := by omega
  have hne3 : ¬ nx = n1 := by omega
  have hne4 : ¬ nx = s := by omega
  generalize hX : R K _ _ _ _ _ = x
  rw [R_tidy' K ro 5 _ nx hp [(5, [[], [], [], [3], [], [], [], [], [], [3], [3], [], []]), (18, [[], [], [], [], [4], [], [], [], [], [4], [], [], [], [], []])] Tryz.func5 rfl Tryz.ntmps5 Tryz.results5 (mu := [26]) rfl (by kernel_rfl) rfl rfl rfl rfl] at hX; simp only [slim, slimO, annO, List.map, List.zip, List.zipWith, List.lookup, holed, Nat.reduceBEq] at hX
  simp [List.replicate, hP, hne, hR, hT1, hTu, hro1, hro2, hF, hne2, hne3] at hX
  by_cases h0 : nextF l a1 12 = 0
  · have hA2 := hA.next hs hsn (a1 + 1)
    rw [hset_cons, if_neg hne2] at hA2
    simp [h0] at hX
    generalize hb' : X K _ (.loop _) _ = r at hX
    have hk : ∃ tm' p' off' a', r = some (.exit 0, ⟨tm', n1 + 1, hset ((n1, ABlk.cells [(.int .i64 op, false), (.int .i64 n0, false), (.str nm, false), (av, false)]) :: hset hp1 s (strm l (a1 + 1))) s (strm l a')⟩) ∧ tm'.length = 90 ∧ getC tm' 0 = (.ptr s 0, false) ∧ getC tm' 2 = (.ptr nx 0, false) ∧ getC tm' 3 = (.ptr n1 0, false) ∧ getC tm' 4 = (.ptr p' off', false) ∧ a1 + 1 ≤ a' ∧ a' ≤ a1 + 1 + 2 * (n1 - nx + 1 : Nat) ∧
        AE l s nx hp n1 (n1 + 1) (hset ((n1, ABlk.cells [(.int .i64 op, false), (.int .i64 n0, false), (.str nm, false), (av, false)]) :: hset hp1 s (strm l (a1 + 1))) s (strm l a')) a' (Kd.age exprT ((n1, .cells [(.int .i64 op, false), (.int .i64 n0, false), (.str nm, false), (av, false)]) :: hp1) (nx + 1)) ∧ Pt (Kd.age exprT ((n1, .cells [(.int .i64 op, false), (.int .i64 n0, false), (.str nm, false), (av, false)]) :: hp1) (nx + 1)) (hset ((n1, ABlk.cells [(.int .i64 op, false), (.int .i64 n0, false), (.str nm, false), (av, false)]) :: hset hp1 s (strm l (a1 + 1))) s (strm l a')) p' off' := by
      rw [← hb']
      refine anExpr_walk l s ro nx hp n1 (n1 + 1) hl hro hsn a hs _ (n1 - nx + 1) n1 0 _ _ (a1 + 1) ?_ ?_ ?_ ?_ ?_ ?_ ?_ ?_ hA2 hA2.root
      · show n1 - (nx + 1) < _; omega
      all_goals first | omega | simp
    obtain ⟨tm', p', off', a2, rfl, t1, t2, t3, t4, t5, t6, t7, hA3, hp3⟩ := hk
    generalize hset ((n1, ABlk.cells [(.int .i64 op, false), (.int .i64 n0, false), (.str nm, false), (av, false)]) :: hset hp1 s (strm l (a1 + 1))) s (strm l a2) = h3 at *
    clear hb' hF hs3 hA2 hrt hT hA
    generalize Kd.age exprT _ _ = G at *
    have hs4 := hA3.gen.strm hs hsn
    have hN := next_R l a2 5 s ro (n1 + 1) h3 ⟨by omega, by omega⟩ (by omega) hl hs4 hro
    have hr5 := (nextF_range l a2 5).1 (by omega)
    simp [t1, t2, t3, t4, t5, hN] at hX
    have hpl := hA3.forest.lo p' 0 hp3.1
    have hps : ¬ p' = s := by omega
    have hpx : ¬ p' = nx := by omega
    have hxp : ¬ nx = p' := by omega
    have hns : ¬ n1 = s := by omega
    have hrop : ro ≤ p' := by omega
    have hs5 : hget (hset h3 s (strm l (a2 + 1))) s = some (strm l (a2 + 1)) := by simp [hs4]
    have hret3 := hA3.ret
    have lens : ∀ cs : List Cell, off' + 4 ≤ cs.length → off' + 1 ≤ cs.length ∧ off' + 1 + 1 ≤ cs.length ∧ off' + 2 + 1 ≤ cs.length ∧ off' + 3 + 1 ≤ cs.length := fun cs h => by omega
    by_cases c0 : nextF l a2 5 = 0
    · have hO := odd_R l (a2 + 1) 1 9 s ro (n1 + 1) _ ⟨by omega, by omega⟩ (by omega) (by omega) (by omega) hl hs5 hro
      rw [hset_hset, show a2 + 1 + 2 = a2 + 3 by omega] at hO
      have hA5 := hA3.next hs hsn (a2 + 3)
      have hp5 := hp3.next hA3 hsn (a2 + 3)
      obtain ⟨cs, o, nn, nm', v, f0, f1, f2, f3, hg, hlen, _, _, _, e3, hv⟩ := pt_cells hA5.forest hp5
      have hg' : hget h3 p' = some (.cells cs) := by simpa [hps] using hg
      have hA6 := hA5.put1 hp5 hg 0 (by omega) (t := .int) rfl (v := .int .i64 (oddF l (a2 + 1) 1 9).1) (f := false) (.fr (Leaf.int _))
      obtain ⟨o, nn, nm', v, g0, g1, g2, g3, w1, w2, w3, w4⟩ := hA6.done hB
      try simp only [Nat.add_zero] at w1 w4
      simp [c0, hO, hg', t1, t2, t3, t4, t5, hps, hpx, hxp, lens cs hlen, hrop, hret3, hne4, hro1, ↓w1, w2, w3] at hX
      obtain ⟨x', hx'⟩ := w4 [(.int .i64 o, false), (.int .i64 nn, false), (.str nm', false), (v, false)]
      subst hX
      exact ⟨x', a2 + 3, hx', by omega, by omega⟩
    by_cases c1 : nextF l a2 5 = 1
    · have hO := odd_R l (a2 + 1) 0 999 s ro (n1 + 1) _ ⟨by omega, by omega⟩ (by omega) (by omega) (by omega) hl hs5 hro
      rw [hset_hset, show a2 + 1 + 2 = a2 + 3 by omega] at hO
      have hA5 := hA3.next hs hsn (a2 + 3)
      have hp5 := hp3.next hA3 hsn (a2 + 3)
      obtain ⟨cs, o, nn, nm', v, f0, f1, f2, f3, hg, hlen, _, _, _, e3, hv⟩ := pt_cells hA5.forest hp5
      have hg' : hget h3 p' = some (.cells cs) := by simpa [hps] using hg
      have hA6 := hA5.put1 hp5 hg 1 (by omega) (t := .int) rfl (v := .int .i64 (oddF l (a2 + 1) 0 999).1) (f := false) (.fr (Leaf.int _))
      obtain ⟨o, nn, nm', v, g0, g1, g2, g3, w1, w2, w3, w4⟩ := hA6.done hB
      try simp only [Nat.add_zero] at w1 w4
      simp [c0, c1, hO, hg', t1, t2, t3, t4, t5, hps, hpx, hxp, lens cs hlen, hrop, hret3, hne4, hro1, ↓w1, w2, w3] at hX
      obtain ⟨x', hx'⟩ := w4 [(.int .i64 o, false), (.int .i64 nn, false), (.str nm', false), (v, false)]
      subst hX
      exact ⟨x', a2 + 3, hx', by omega, by omega⟩
    by_cases c2 : nextF l a2 5 = 2
    · obtain ⟨r40, h40⟩ := repeat_R ⟨#[97]⟩ 40 (by decide) ro (n1 + 1) (hset h3 s (strm l (a2 + 1)))
      obtain ⟨r41, h41⟩ := repeat_R ⟨#[97]⟩ 41 (by decide) ro (n1 + 1) (hset h3 s (strm l (a2 + 1)))
      have hO := some_R l (a2 + 1) [⟨#[]⟩, ⟨#[105, 102]⟩, ⟨#[120]⟩, ⟨#[65]⟩, r40, r41] s ro (n1 + 1) _ ⟨by omega, by omega⟩ (by simp) hl hs5 hro
      rw [hset_hset, show a2 + 1 + 1 = a2 + 2 by omega] at hO
      simp only [strs, List.map_cons, List.map_nil] at hO
      generalize hsm : someF l (a2 + 1) _ = sm at hO
      have hA5 := hA3.next hs hsn (a2 + 2)
      have hp5 := hp3.next hA3 hsn (a2 + 2)
      obtain ⟨cs, o, nn, nm', v, f0, f1, f2, f3, hg, hlen, _, _, _, e3, hv⟩ := pt_cells hA5.forest hp5
      have hg' : hget h3 p' = some (.cells cs) := by simpa [hps] using hg
      have hA6 := hA5.put1 hp5 hg 2 (by omega) (t := .str) rfl (v := .str sm) (f := false) (.fr (Leaf.str _))
      obtain ⟨o, nn, nm', v, g0, g1, g2, g3, w1, w2, w3, w4⟩ := hA6.done hB
      try simp only [Nat.add_zero] at w1 w4
      simp [c0, c1, c2, h40, h41, hO, hg', t1, t2, t3, t4, t5, hps, hpx, hxp, lens cs hlen, hrop, hret3, hne4, hro1, ↓w1, w2, w3] at hX
      obtain ⟨x', hx'⟩ := w4 [(.int .i64 o, false), (.int .i64 nn, false), (.str nm', false), (v, false)]
      subst hX
      exact ⟨x', a2 + 2, hx', by omega, by omega⟩
    by_cases c3 : nextF l a2 5 = 3
    · have hA5 := hA3.next hs hsn (a2 + 1)
      have hp5 := hp3.next hA3 hsn (a2 + 1)
      obtain ⟨cs, o, nn, nm', v, f0, f1, f2, f3, hg, hlen, _, _, _, e3, hv⟩ := pt_cells hA5.forest hp5
      have hg' : hget h3 p' = some (.cells cs) := by simpa [hps] using hg
      have he3 : cs[off' + 3]? = some (v, false) ∨ cs[off' + 3]? = some (v, true) := by cases f3 <;> simp [e3]
      rcases hv_row hv with rfl | ⟨id, m, len, cs', rfl, hk, hr, hgc, hlc⟩
      · have hA6 := hA5.put1 hp5 hg 3 (by omega) (t := .row 0) rfl (v := .lst []) (f := false) (.fr (Leaf.nil 0))
        obtain ⟨o, nn, nm', v, g0, g1, g2, g3, w1, w2, w3, w4⟩ := hA6.done hB
        have hw : IntKind.i64.wrap 0 = 0 := by decide
        obtain ⟨x', hx'⟩ := w4 [(.int .i64 o, false), (.int .i64 nn, false), (.str nm', false), (v, false)]
        refine ⟨x', a2 + 1, ?_, by omega, by omega⟩
        rw [← hX, ← hx']
        rcases he3 with he3 | he3 <;> simp [c0, c1, c2, c3, hg', he3, hw, t1, t2, t3, t4, t5, hps, hpx, hxp, lens cs hlen, hrop, hret3, hne4, hro1, ↓w1, w2, w3]
      · have hl100 := hA5.small id cs' hk hgc
        obtain ⟨q, hw, hle2⟩ : ∃ q : Nat, IntKind.i64.wrap ((len : Int) / 2) = q ∧ q ≤ len := ⟨len / 2, by
          have hq : (len : Int) / 2 = ((len / 2 : Nat) : Int) := by omega
          rw [hq]; exact wrap_small (by omega) (by omega), by omega⟩
        have hA6 := hA5.put1 hp5 hg 3 (by omega) (t := .row 0) rfl (v := .sl id (m * 4) q 4 true) (f := false) (.sl 0 id m q cs' hk hr hgc (by show (m + q) * 4 ≤ _; omega))
        obtain ⟨o, nn, nm', v, g0, g1, g2, g3, w1, w2, w3, w4⟩ := hA6.done hB
        obtain ⟨x', hx'⟩ := w4 [(.int .i64 o, false), (.int .i64 nn, false), (.str nm', false), (v, false)]
        refine ⟨x', a2 + 1, ?_, by omega, by omega⟩
        rw [← hX, ← hx']
        rcases he3 with he3 | he3 <;> simp [c0, c1, c2, c3, hg', he3, hw, hle2, t1, t2, t3, t4, t5, hps, hpx, hxp, lens cs hlen, hrop, hret3, hne4, hro1, ↓w1, w2, w3]
    · have hRg := range_R l (a2 + 1) 1 4 s ro (n1 + 1) _ ⟨by omega, by omega⟩ (by omega) (by omega) (by omega) hl hs5 hro
      rw [hset_hset, show a2 + 1 + 1 = a2 + 2 by omega] at hRg
      have hrr := (nextF_range l (a2 + 1) (4 - 1 + 1)).1 (by omega)
      generalize hw0 : 1 + nextF l (a2 + 1) (4 - 1 + 1) = w at hRg
      have hA5 := hA3.next hs hsn (a2 + 2)
      have hp5 := hp3.next hA3 hsn (a2 + 2)
      have hw : IntKind.i64.wrap (20 - w) = 20 - w := wrap_small (by omega) (by omega)
      simp [c0, c1, c2, c3, hRg, hw, t1, t2, t3, t4, t5] at hX
      generalize hb2 : X K _ (.loop _) _ = r at hX
      have hk : ∃ tm' n' hp' G', r = some (.exit 3, ⟨tm', n', hp'⟩) ∧ tm'.length = 90 ∧ getC tm' 2 = (.ptr nx 0, false) ∧ getC tm' 3 = (.ptr n1 0, false) ∧ AE l s nx hp n1 n' hp' (a2 + 2) G' := by
        rw [← hb2]
        refine anExpr_wrap l s ro nx hp n1 hro1 (20 - w) (by omega) p' off' (a2 + 2) (20 - w).toNat 0 _ _ _ G (by omega) (by omega) ?_ ?_ ?_ ?_ ?_ ?_ hA5 hp5
        all_goals simp [t1, t3, t4, t5]
      obtain ⟨tm2, n2, hp2, G2, rfl, u1, u2, u3, hA6⟩ := hk
      obtain ⟨o, nn, nm', v, g0, g1, g2, g3, w1, w2, w3, w4⟩ := hA6.done hB
      obtain ⟨x', hx'⟩ := w4 [(.int .i64 o, false), (.int .i64 nn, false), (.str nm', false), (v, false)]
      refine ⟨x', a2 + 2, ?_, by omega, by omega⟩
      have hret2 := hA6.ret
      rw [← hX, ← hx']
      simp [u1, u2, u3, hret2, hro1, w1, w2, w3]
  · have hA2 := hA.next hs hsn (a1 + 1)
    obtain ⟨o, nn, nm', v, f0, f1, f2, f3, w1, w2, w3, w4⟩ := hA2.done hB
    rw [hset_cons, if_neg hne2] at w1 w4
    simp [h0, w1, w2, w3, hne3, hne4, hrt, hro1] at hX
    obtain ⟨x', hx'⟩ := w4 [(.int .i64 o, false), (.int .i64 nn, false), (.str nm', false), (v, false)]
    simp [hne3, hset_cons] at hx'
    subst hX
    exact ⟨x', a1 + 1, hx', by omega, by omega⟩
end Go.Proofs.YtkpfkadjmijmlaaGreatDoor.M
/- Slots; VarList gives some. -/
namespace Go.Proofs.YtkpfkadjmijmlaaGreatDoor.M
open Go.Proofs Go.Proofs.YtkpfkadjmijmlaaGreatDoor.X
set_option linter.unusedSimpArgs false
set_option linter.unusedVariables false
set_option maxRecDepth 100000
set_option pp.deepTerms false
set_option pp.deepTerms.threshold 6
set_option maxHeartbeats 4000000
structure Sl where
  name : ByteArray
  val : Int
def encSl (x : Sl) : AVal := .agg [.str x.name, .int .i64 x.val]
def encSls (l : List Sl) : List AVal := l.map encSl
@[simp] theorem encSl_flat (x : Sl) : (encSl x).flat = [.str x.name, .int .i64 x.val] := rfl
@[simp] theorem encSl_ids (n : Nat) (x : Sl) : (encSl x).idsLt n = true := by simp [encSl]
@[simp] theorem encSls_ids (n : Nat) (l : List Sl) : idsLts n (encSls l) = true := by
  induction l with
  | nil => simp [encSls]
  | cons x r ih => rw [show encSls (x :: r) = encSl x :: encSls r from rfl, idsLts_cons, ih]; simp
@[simp] theorem encSls_len (l : List Sl) : (encSls l).length = l.length := by simp [encSls]
@[simp] theorem encSls_head (l : List Sl) : headOk (encSls l) 2 = true := by cases l <;> rfl
theorem encSls_at {l : List Sl} {k : Nat} {x : Sl} (h : l[k]? = some x) : (encSls l)[k]? = some (encSl x) := by simp [encSls, h]
theorem encSls_app (l : List Sl) (nm : ByteArray) (v : Int) : encSls l ++ [.agg [.str nm, .int .i64 v]] = encSls (l ++ [⟨nm, v⟩]) := by simp [encSls, encSl]
theorem varList_loop (l : List Int) (s ro nx : Nat) (hp0 : Heap) (hl : l.length < 4611686018427387904) (hro : ro ≤ s) (hsn : s < nx) (a0 : Int) (ha0 : 0 ≤ a0 ∧ a0 + 100 < 4611686018427387000) (hs0 : hget hp0 s = some (strm l a0)) (tm : List Cell) (ht : tm.length = 35) (h0 : getC tm 0 = (.ptr s 0, false)) (h3 : getC tm 3 = (.lst [], true)) (h6 : getC tm 6 = (.lst [.str ⟨#[120]⟩, .str ⟨#[121]⟩, .str ⟨#[122]⟩], true)) (h7 : getC tm 7 = (.int .i64 3, false)) (h8 : getC tm 8 = (.int .i64 0, false)) :
    ∃ tm' a' y, X K ⟨ro, []⟩ (.loop (LB Tryz.prog 7 [] 0)) ⟨tm, nx, hp0⟩ = some (.exit 0, ⟨tm', nx, hset hp0 s (strm l a')⟩) ∧ tm'.length = 35 ∧ getC tm' 0 = (.ptr s 0, false) ∧ getC tm' 3 = (.lst (encSls y), true) ∧ a0 ≤ a' ∧ a' ≤ a0 + 6 ∧ y.length ≤ 3 := by
  have e := LB_open (P := Tryz.prog) [] 0 Tryz.func7 rfl rfl (by kernel_rfl)
  simp only [slim, slimO, annO, List.map, List.zip, List.zipWith, List.lookup, holed, loopsOf, List.nil_append, List.cons_append, List.getD_cons_zero, List.getD_cons_succ, Nat.reduceBEq] at e
  refine rounds e 3 (fun k tm n hp => tm.length = 35 ∧ getC tm 0 = (.ptr s 0, false) ∧ getC tm 6 = (.lst [.str ⟨#[120]⟩, .str ⟨#[121]⟩, .str ⟨#[122]⟩], true) ∧ getC tm 7 = (.int .i64 3, false) ∧ getC tm 8 = (.int .i64 k, false) ∧ n = nx ∧ ∃ a y, a0 ≤ a ∧ a ≤ a0 + 2 * k ∧ y.length ≤ k ∧ hp = hset hp0 s (strm l a) ∧ getC tm 3 = (.lst (encSls y), true))
    (fun r => ∃ tm' a' y, r = some (.exit 0, ⟨tm', nx, hset hp0 s (strm l a')⟩) ∧ tm'.length = 35 ∧ getC tm' 0 = (.ptr s 0, false) ∧ getC tm' 3 = (.lst (encSls y), true) ∧ a0 ≤ a' ∧ a' ≤ a0 + 6 ∧ y.length ≤ 3) ?_ ?_ 0 tm nx hp0 (by omega) ⟨ht, h0, h6, h7, h8, rfl, a0, [], by omega, by omega, by simp, (hset_self hs0).symm, h3⟩
  · rintro tm n hp r ⟨ht, h0, h6, h7, h8, rfl, a, y, ha, hb, hy, rfl, h3⟩ hX
    simp [ht, h7, h8] at hX
    subst hX
    exact ⟨_, _, rfl, by simp, _, a, y, rfl, by simp [ht], by simp [h0], by simp [h3], ha, by omega, hy⟩
  · rintro k tm n hp r hk ⟨ht, h0, h6, h7, h8, rfl, a, y, ha, hb, hy, rfl, h3⟩ hX
    left
    have hk3 : (k : Int) < 3 := by omega
    have hw2 : IntKind.i64.wrap ((k : Int) + 1) = (k : Int) + 1 := wrap_small (by omega) (by omega)
    obtain ⟨nm, hnm⟩ : ∃ nm, ([.str ⟨#[120]⟩, .str ⟨#[121]⟩, .str ⟨#[122]⟩] : List AVal)[k]? = some (.str nm) := by
      match k with
      | 0 => exact ⟨_, rfl⟩
      | 1 => exact ⟨_, rfl⟩
      | 2 => exact ⟨_, rfl⟩
      | k + 3 => omega
    have hs : hget (hset hp0 s (strm l a)) s = some (strm l a) := hget_strm hs0 a
    have hs1 : hget (hset hp0 s (strm l (a + 1))) s = some (strm l (a + 1)) := hget_strm hs0 _
    have hF := flip_R l a 2 s ro n _ ⟨by omega, by omega⟩ (by omega) hl hs hro
    rw [hset_hset] at hF
    have hP := pick_R l (a + 1) [0, 1, 2, 5, 7, 500, 999] s ro n _ ⟨by omega, by omega⟩ (by simp) hl hs1 hro
    rw [hset_hset, show a + 1 + 1 = a + 2 by omega] at hP
    simp only [ints', List.map_cons, List.map_nil] at hP
    have hlen : (y.length + 1) * 24 ≤ 140737488355328 := by omega
    by_cases hf : nextF l a 2 = 0
    · simp [ht, h0, h3, h6, h7, h8, hk3, hnm, hF, hf, hP, hw2, hlen] at hX
      subst hX
      exact ⟨_, _, _, rfl, by simp [ht], by simp [h0], by simp [h6], by simp [h7], by simp [ht], rfl, a + 2, y ++ [⟨nm, pickF l (a + 1) [0, 1, 2, 5, 7, 500, 999]⟩], by omega, by omega, by simp; omega, rfl, by simp [ht, encSls_app]⟩
    · simp [ht, h0, h3, h6, h7, h8, hk3, hnm, hF, hf, hw2] at hX
      subst hX
      exact ⟨_, _, _, rfl, by simp [ht], by simp [h0], by simp [h6], by simp [h7], by simp [ht], rfl, a + 1, y, by omega, by omega, by omega, rfl, by simp [h3]⟩
theorem varList_R (l : List Int) (a : Int) (s ro nx : Nat) (hp : Heap) (ha : 0 ≤ a) (hb : a + 100 < 4611686018427387000) (hl : l.length < 4611686018427387904) (hs : hget hp s = some (strm l a)) (hro : ro ≤ s) (hB : Base nx hp) :
    ∃ y a' own, R K 7 [.ptr s 0] ro nx hp = some ⟨.lst (encSls y), own, nx, hset hp s (strm l a')⟩ ∧ a ≤ a' ∧ a' ≤ a + 100 := by
  have hf : Fresh nx hp := hB.1
  have hsn := hf.lt hs
  have hloop := varList_loop l s ro nx hp hl hro hsn a ⟨ha, hb⟩ hs
  generalize hX : R K _ _ _ _ _ = x
  rw [R_tidy' K ro 7 _ nx hp [] Tryz.func7 rfl Tryz.ntmps7 Tryz.results7 (mu := []) rfl (by kernel_rfl) rfl rfl rfl rfl] at hX; simp only [slim, slimO, annO, List.map, List.zip, List.zipWith, List.lookup, holed, Nat.reduceBEq] at hX
  simp [List.replicate] at hX
  generalize hb' : X K _ (.loop _) _ = r at hX
  obtain ⟨tm', a', y, rfl, t1, t2, t3, t4, t5, t6⟩ : ∃ tm' a' y, r = some (.exit 0, ⟨tm', nx, hset hp s (strm l a')⟩) ∧ tm'.length = 35 ∧ getC tm' 0 = (.ptr s 0, false) ∧ getC tm' 3 = (.lst (encSls y), true) ∧ a ≤ a' ∧ a' ≤ a + 6 ∧ y.length ≤ 3 := by
    rw [← hb']
    refine hloop _ ?_ ?_ ?_ ?_ ?_ ?_
    all_goals simp
  clear hb' hloop
  have hs1 : hget (hset hp s (strm l a')) s = some (strm l a') := hget_strm hs _
  have hs2 : hget (hset hp s (strm l (a' + 1))) s = some (strm l (a' + 1)) := hget_strm hs _
  have hs3 : hget (hset hp s (strm l (a' + 2))) s = some (strm l (a' + 2)) := hget_strm hs _
  have hF := flip_R l a' 15 s ro nx _ ⟨by omega, by omega⟩ (by omega) hl hs1 hro
  rw [hset_hset] at hF
  have hS := some_R l (a' + 1) [⟨#[120]⟩, ⟨#[65]⟩, ⟨#[122, 122]⟩] s ro nx _ ⟨by omega, by omega⟩ (by simp) hl hs2 hro
  rw [hset_hset, show a' + 1 + 1 = a' + 2 by omega] at hS
  simp only [strs, List.map_cons, List.map_nil] at hS
  have hO := odd_R l (a' + 2) 0 999 s ro nx _ ⟨by omega, by omega⟩ (by omega) (by omega) (by omega) hl hs3 hro
  rw [hset_hset, show a' + 2 + 2 = a' + 4 by omega] at hO
  have hcl : ∀ b : Int, hclean nx (hset hp s (strm l b)) = true := fun b => (hB.set l b).2
  have hlo : ∀ b : Int, hlow nx (hset hp s (strm l b)) = hset hp s (strm l b) := fun b => (hB.set l b).1
  have hlen : (y.length + 1) * 24 ≤ 140737488355328 := by omega
  by_cases h0 : nextF l a' 15 = 0
  · refine ⟨y ++ [⟨someF l (a' + 1) [⟨#[120]⟩, ⟨#[65]⟩, ⟨#[122, 122]⟩], (oddF l (a' + 2) 0 999).1⟩], a' + 4, false, ?_, by omega, by omega⟩
    rw [← hX]
    simp [t1, t2, t3, hF, h0, hS, hO, hlen, encSls_app, hcl, hlo]
  · refine ⟨y, a' + 1, false, ?_, by omega, by omega⟩
    rw [← hX]
    simp [t1, t2, t3, hF, h0, hcl, hlo]
end Go.Proofs.YtkpfkadjmijmlaaGreatDoor.M
/- CheckSlots, SlotsFault. -/
namespace Go.Proofs.YtkpfkadjmijmlaaGreatDoor.M
open Go.Proofs Go.Proofs.YtkpfkadjmijmlaaGreatDoor.X
set_option linter.unusedSimpArgs false
set_option linter.unusedVariables false
set_option maxRecDepth 100000
set_option pp.deepTerms false
set_option pp.deepTerms.threshold 6
set_option maxHeartbeats 4000000
/-- The first error among numbered ones. -/
def errGo (f : Nat → Int) : Nat → Nat → Int
  | 0, _ => 0
  | n + 1, j => if f j = 0 then errGo f n (j + 1) else f j
theorem errGo_zero {f : Nat → Int} : ∀ (n k : Nat), errGo f n k = 0 → ∀ j, k ≤ j → j < k + n → f j = 0 := by
  intro n
  induction n with
  | zero => intro k _ j h1 h2; omega
  | succ n ih =>
    intro k h j h1 h2
    rw [errGo] at h
    split at h
    · by_cases e : j = k
      · subst e; assumption
      · exact ih (k + 1) h j (by omega) (by omega)
    · contradiction
def slAt (xs : List Sl) (j : Nat) : Int :=
  match xs[j]? with
  | none => 0
  | some x => if nameB x.name = false then 5 else if outside x.val 0 999 = true then 1 else
    if 0 < j ∧ (match xs[j - 1]? with | some y => leB x.name y.name | none => false) = true then 7 else 0
def slF (xs : List Sl) : Int := if 2000 < xs.length then 2 else errGo (slAt xs) xs.length 0
theorem checkSlots_loop (xs : List Sl) (hl : xs.length ≤ 2000) (tm : List Cell) (nx : Nat) (hp : Heap) (ht : tm.length = 39) (h0 : getC tm 0 = (.lst (encSls xs), false)) (h8 : getC tm 8 = (.lst (encSls xs), false)) (h9 : getC tm 9 = (.int .i64 xs.length, false)) (h10 : getC tm 10 = (.int .i64 0, false)) :
    LoopF 39 2 0 (errGo (slAt xs) xs.length 0) (X K ⟨0, []⟩ (.loop (LB Tryz.prog 49 [] 0)) ⟨tm, nx, hp⟩) := by
  have e := LB_open (P := Tryz.prog) [] 0 Tryz.func49 rfl rfl (by kernel_rfl)
  simp only [slim, slimO, annO, List.map, List.zip, List.zipWith, List.lookup, holed, loopsOf, List.nil_append, List.cons_append, List.getD_cons_zero, List.getD_cons_succ, Nat.reduceBEq] at e
  refine rounds e xs.length (fun k tm n hp => tm.length = 39 ∧ getC tm 0 = (.lst (encSls xs), false) ∧ getC tm 8 = (.lst (encSls xs), false) ∧ getC tm 9 = (.int .i64 xs.length, false) ∧ getC tm 10 = (.int .i64 k, false) ∧ errGo (slAt xs) (xs.length - k) k = errGo (slAt xs) xs.length 0) _ ?_ ?_ 0 tm nx hp (by omega) ⟨ht, h0, h8, h9, h10, by simp⟩
  · rintro tm n hp r ⟨ht, h0, h8, h9, h10, hf⟩ hX
    simp [ht, h9, h10] at hX
    subst hX
    rw [← hf, Nat.sub_self]
    exact ⟨_, _, rfl, by simp, _, rfl, by simp [ht], fun h => absurd rfl h⟩
  · rintro k tm n hp r hk ⟨ht, h0, h8, h9, h10, hf⟩ hX
    have hx := List.getElem?_eq_getElem (l := xs) (i := k) hk
    generalize xs[k] = x at hx
    have hkl : (k : Int) < xs.length := by omega
    have hxe := encSls_at hx
    have hw2 : IntKind.i64.wrap ((k : Int) + 1) = (k : Int) + 1 := wrap_small (by omega) (by omega)
    have hsp : slAt xs k = if nameB x.name = false then 5 else if outside x.val 0 999 = true then 1 else if 0 < k ∧ (match xs[k - 1]? with | some y => leB x.name y.name | none => false) = true then 7 else 0 := by simp only [slAt, hx]
    simp only [encSl] at hxe
    rw [show xs.length - k = (xs.length - (k + 1)) + 1 by omega, errGo] at hf
    cases c1 : nameB x.name
    · simp [ht, h0, h8, h9, h10, hkl, hxe, hw2, c1] at hX
      have hz : slAt xs k = 5 := by rw [hsp, if_pos c1]
      rw [hz, if_neg (by decide)] at hf
      subst hX
      exact .inr ⟨_, _, rfl, by simp, _, by rw [if_neg (by omega)], by simp [ht], fun _ => by simp [ht, ← hf]⟩
    · cases c2 : outside x.val 0 999
      · have next : slAt xs k = 0 → errGo (slAt xs) (xs.length - (k + 1)) (k + 1) = errGo (slAt xs) xs.length 0 := fun h => by rw [if_pos h] at hf; exact hf
        by_cases c4 : 0 < k
        · have hy := List.getElem?_eq_getElem (l := xs) (i := k - 1) (by omega)
          generalize xs[k - 1] = y at hy
          have hye := encSls_at hy
          simp only [encSl] at hye
          have hw3 : IntKind.i64.wrap ((k : Int) - 1) = ((k - 1 : Nat) : Int) := by rw [wrap_small (by omega) (by omega)]; omega
          have c4' : (0 : Int) < k := by omega
          have hleB : (Op.bytesLess x.name.toList y.name.toList || x.name.toList == y.name.toList) = leB x.name y.name := rfl
          cases c5 : leB x.name y.name
          · simp [ht, h0, h8, h9, h10, hkl, hxe, hye, hw2, hw3, c1, c2, c4, c4', hleB, c5] at hX
            subst hX
            have hz : slAt xs k = 0 := by rw [hsp]; simp [c1, c2, c4, hy, c5]
            exact .inl ⟨_, _, _, rfl, by simp [ht], by simp [h0], by simp [h8], by simp [h9], by simp [ht], next hz⟩
          · simp [ht, h0, h8, h9, h10, hkl, hxe, hye, hw2, hw3, c1, c2, c4, c4', hleB, c5] at hX
            have hz : slAt xs k = 7 := by rw [hsp]; simp [c1, c2, c4, hy, c5]
            rw [hz, if_neg (by decide)] at hf
            subst hX
            exact .inr ⟨_, _, rfl, by simp, _, by rw [if_neg (by omega)], by simp [ht], fun _ => by simp [ht, ← hf]⟩
        · have c4' : ¬ (0 : Int) < k := by omega
          simp [ht, h0, h8, h9, h10, hkl, hxe, hw2, c1, c2, c4, c4'] at hX
          subst hX
          have hz : slAt xs k = 0 := by rw [hsp]; simp [c1, c2, c4]
          exact .inl ⟨_, _, _, rfl, by simp [ht], by simp [h0], by simp [h8], by simp [h9], by simp [ht], next hz⟩
      · simp [ht, h0, h8, h9, h10, hkl, hxe, hw2, c1, c2] at hX
        have hz : slAt xs k = 1 := by rw [hsp, if_neg (by simp [c1]), if_pos c2]
        rw [hz, if_neg (by decide)] at hf
        subst hX
        exact .inr ⟨_, _, rfl, by simp, _, by rw [if_neg (by omega)], by simp [ht], fun _ => by simp [ht, ← hf]⟩
@[simp] theorem checkSlots_R (xs : List Sl) (ro nx : Nat) (hp : Heap) : R K 49 [.lst (encSls xs)] ro nx hp = some ⟨.int .i64 (slF xs), false, nx, hp⟩ := by
  unfold slF
  rw [R_val' K ro 49 _ nx hp [] Tryz.func49 rfl Tryz.ntmps49 Tryz.results49 (mu := []) rfl (by kernel_rfl) rfl rfl rfl]; simp only [slim, slimO, annO, List.map, List.zip, List.zipWith, List.lookup, holed, Nat.reduceBEq]
  by_cases h : 2000 < xs.length
  · have h' : (2000 : Int) < xs.length := by omega
    simp [List.replicate, h, h']
  · have h' : ¬ (2000 : Int) < xs.length := by omega
    simp [List.replicate, h, h']
    generalize hb : X K _ (.loop _) _ = r
    have hk : LoopF 39 2 0 (errGo (slAt xs) xs.length 0) r := by
      rw [← hb]
      exact checkSlots_loop xs (by omega) _ _ _ (by simp) (by simp) (by simp) (by simp) (by simp)
    obtain ⟨⟨tm', nx', hp'⟩, rfl, h1, h2⟩ := hk
    simp only at h1 h2
    clear hb
    by_cases h0 : errGo (slAt xs) xs.length 0 = 0
    · simp [h0, h1]
    · simp [h0, h1, h2 h0]
theorem slotsFault_loop (xs : List Sl) (hl : xs.length ≤ 2000) (tm : List Cell) (nx : Nat) (hp : Heap) (ht : tm.length = 33) (h3 : getC tm 3 = (.str ⟨#[]⟩, false)) (h9 : getC tm 9 = (.lst (encSls xs), false)) (h10 : getC tm 10 = (.int .i64 xs.length, false)) (h11 : getC tm 11 = (.int .i64 0, false)) :
    LoopF 33 2 0 (errGo (slAt xs) xs.length 0) (X K ⟨0, []⟩ (.loop (LB Tryz.prog 15 [] 0)) ⟨tm, nx, hp⟩) := by
  have e := LB_open (P := Tryz.prog) [] 0 Tryz.func15 rfl rfl (by kernel_rfl)
  simp only [slim, slimO, annO, List.map, List.zip, List.zipWith, List.lookup, holed, loopsOf, List.nil_append, List.cons_append, List.getD_cons_zero, List.getD_cons_succ, Nat.reduceBEq] at e
  refine rounds e xs.length (fun k tm n hp => tm.length = 33 ∧ getC tm 9 = (.lst (encSls xs), false) ∧ getC tm 10 = (.int .i64 xs.length, false) ∧ getC tm 11 = (.int .i64 k, false) ∧ (∃ last, getC tm 3 = (.str last, false) ∧ (k = 0 → last = ⟨#[]⟩) ∧ (0 < k → ∃ y, xs[k - 1]? = some y ∧ last = y.name)) ∧ errGo (slAt xs) (xs.length - k) k = errGo (slAt xs) xs.length 0) _ ?_ ?_ 0 tm nx hp (by omega) ⟨ht, h9, h10, h11, ⟨_, h3, fun _ => rfl, fun h => by omega⟩, by simp⟩
  · rintro tm n hp r ⟨ht, h9, h10, h11, _, hf⟩ hX
    simp [ht, h10, h11] at hX
    subst hX
    rw [← hf, Nat.sub_self]
    exact ⟨_, _, rfl, by simp, _, rfl, by simp [ht], fun h => absurd rfl h⟩
  · rintro k tm n hp r hk ⟨ht, h9, h10, h11, ⟨last, h3, hl0, hl1⟩, hf⟩ hX
    have hx := List.getElem?_eq_getElem (l := xs) (i := k) hk
    generalize xs[k] = x at hx
    have hkl : (k : Int) < xs.length := by omega
    have hxe := encSls_at hx
    have hw2 : IntKind.i64.wrap ((k : Int) + 1) = (k : Int) + 1 := wrap_small (by omega) (by omega)
    have hsp : slAt xs k = if nameB x.name = false then 5 else if outside x.val 0 999 = true then 1 else if 0 < k ∧ (match xs[k - 1]? with | some y => leB x.name y.name | none => false) = true then 7 else 0 := by simp only [slAt, hx]
    simp only [encSl] at hxe
    rw [show xs.length - k = (xs.length - (k + 1)) + 1 by omega, errGo] at hf
    cases c1 : nameB x.name
    · simp [ht, h9, h10, h11, hkl, hxe, hw2, c1] at hX
      have hz : slAt xs k = 5 := by rw [hsp, if_pos c1]
      rw [hz, if_neg (by decide)] at hf
      subst hX
      exact .inr ⟨_, _, rfl, by simp, _, by rw [if_neg (by omega)], by simp [ht], fun _ => by simp [ht, ← hf]⟩
    · cases c2 : outside x.val 0 999
      · have hleB : (Op.bytesLess x.name.toList last.toList || x.name.toList == last.toList) = leB x.name last := rfl
        have hle : (0 < k ∧ (match xs[k - 1]? with | some y => leB x.name y.name | none => false) = true) ↔ leB x.name last = true := by
          by_cases c4 : 0 < k
          · obtain ⟨y, hy, rfl⟩ := hl1 c4
            rw [hy]
            exact ⟨fun h => h.2, fun h => ⟨c4, h⟩⟩
          · have hl := hl0 (by omega)
            subst hl
            constructor
            · intro h; exact absurd h.1 c4
            · intro h
              exfalso
              have hne : x.name.toList ≠ [] := by
                intro he
                unfold nameB nameL at c1
                have : x.name.data.toList = [] := by rw [← ByteArray.toList_eq]; exact he
                rw [this] at c1
                simp at c1
              unfold leB at h
              cases hq : x.name.toList with
              | nil => exact hne hq
              | cons a r => rw [hq] at h; simp [ByteArray.toList_eq, Op.bytesLess] at h
        cases c5 : leB x.name last
        · simp [ht, h3, h9, h10, h11, hkl, hxe, hw2, within_not, c1, c2, hleB, c5] at hX
          subst hX
          have hz : slAt xs k = 0 := by rw [hsp, if_neg (by simp [c1]), if_neg (by simp [c2]), if_neg (fun h => by rw [hle.1 h] at c5; cases c5)]
          rw [if_pos hz] at hf
          exact .inl ⟨_, _, _, rfl, by simp [ht], by simp [h9], by simp [h10], by simp [ht], ⟨x.name, by simp [ht], fun h => by omega, fun _ => ⟨x, by simpa using hx, rfl⟩⟩, hf⟩
        · simp [ht, h3, h9, h10, h11, hkl, hxe, hw2, within_not, c1, c2, hleB, c5] at hX
          have hz : slAt xs k = 7 := by rw [hsp, if_neg (by simp [c1]), if_neg (by simp [c2]), if_pos (hle.2 c5)]
          rw [hz, if_neg (by decide)] at hf
          subst hX
          exact .inr ⟨_, _, rfl, by simp, _, by rw [if_neg (by omega)], by simp [ht], fun _ => by simp [ht, ← hf]⟩
      · simp [ht, h9, h10, h11, hkl, hxe, hw2, within_not, c1, c2] at hX
        have hz : slAt xs k = 1 := by rw [hsp, if_neg (by simp [c1]), if_pos c2]
        rw [hz, if_neg (by decide)] at hf
        subst hX
        exact .inr ⟨_, _, rfl, by simp, _, by rw [if_neg (by omega)], by simp [ht], fun _ => by simp [ht, ← hf]⟩
@[simp] theorem slotsFault_R (xs : List Sl) (ro nx : Nat) (hp : Heap) : R K 15 [.lst (encSls xs)] ro nx hp = some ⟨.int .i64 (slF xs), false, nx, hp⟩ := by
  unfold slF
  rw [R_val' K ro 15 _ nx hp [] Tryz.func15 rfl Tryz.ntmps15 Tryz.results15 (mu := []) rfl (by kernel_rfl) rfl rfl rfl]; simp only [slim, slimO, annO, List.map, List.zip, List.zipWith, List.lookup, holed, Nat.reduceBEq]
  by_cases h : 2000 < xs.length
  · have h' : (2000 : Int) < xs.length := by omega
    simp [List.replicate, h, h']
  · have h' : ¬ (2000 : Int) < xs.length := by omega
    simp [List.replicate, h, h']
    generalize hb : X K _ (.loop _) _ = r
    have hk : LoopF 33 2 0 (errGo (slAt xs) xs.length 0) r := by
      rw [← hb]
      exact slotsFault_loop xs (by omega) _ _ _ (by simp) (by simp) (by simp) (by simp) (by simp)
    obtain ⟨⟨tm', nx', hp'⟩, rfl, h1, h2⟩ := hk
    simp only at h1 h2
    clear hb
    by_cases h0 : errGo (slAt xs) xs.length 0 = 0
    · simp [h0, h1]
    · simp [h0, h1, h2 h0]
/-- The names are in order. -/
theorem slF_zero {xs : List Sl} (h : slF xs = 0) : xs.length ≤ 2000 ∧ ∀ (i j : Nat) (x y : Sl), i < j → xs[i]? = some x → xs[j]? = some y → x.name.toList < y.name.toList := by
  unfold slF at h
  split at h
  · contradiction
  · rename_i hl
    have h0 := errGo_zero _ _ h
    have hn : ∀ (j : Nat) (x y : Sl), xs[j]? = some x → xs[j + 1]? = some y → x.name.toList < y.name.toList := by
      intro j x y hx hy
      have hj := (List.getElem?_eq_some_iff.1 hy).1
      have := h0 (j + 1) (by omega) (by omega)
      simp only [slAt, hy, Nat.add_sub_cancel, hx] at this
      apply leB_lt
      cases hq : leB y.name x.name with
      | false => rfl
      | true => simp only [hq] at this; grind
    refine ⟨by omega, ?_⟩
    intro i j x y hij hx hy
    induction j generalizing y with
    | zero => omega
    | succ j ih =>
      have hj := (List.getElem?_eq_some_iff.1 hy).1
      have hz := List.getElem?_eq_getElem (l := xs) (i := j) (by omega)
      have h1 := hn j _ y hz hy
      by_cases e : i = j
      · subst e
        rw [hx] at hz; cases hz; exact h1
      · exact List.lt_trans (ih _ (by omega) hz) h1
end Go.Proofs.YtkpfkadjmijmlaaGreatDoor.M
/- Values of expressions: maps, operators. -/
namespace Go.Proofs.YtkpfkadjmijmlaaGreatDoor.M
open Go.Proofs Go.Proofs.YtkpfkadjmijmlaaGreatDoor.X
set_option linter.unusedSimpArgs false
set_option linter.unusedVariables false
set_option maxRecDepth 100000
set_option pp.deepTerms false
set_option pp.deepTerms.threshold 6
set_option maxHeartbeats 4000000
/-- Maps with strings for keys. -/
def mapP (l : List (ByteArray × AVal)) : List (AVal × AVal) := l.map fun p => (.str p.1, p.2)
def lookP : List (ByteArray × AVal) → ByteArray → Option AVal
  | [], _ => none
  | p :: r, s => if (s.toList == p.1.toList) = true then some p.2 else lookP r s
theorem bytes_ext {a b : ByteArray} (h : a.toList = b.toList) : a = b := by
  rw [ByteArray.toList_eq, ByteArray.toList_eq] at h
  cases a; cases b
  simp only [ByteArray.mk.injEq]
  exact Array.ext' h
theorem afind_P (s : ByteArray) : ∀ (l : List (ByteArray × AVal)) (i : Nat), (lookP l s = none ∧ afind (.str s) (mapP l) i = some none) ∨ ∃ (j : Nat) (v : AVal), lookP l s = some v ∧ afind (.str s) (mapP l) i = some (some (i + j, v)) ∧ l[j]? = some (s, v) := by
  intro l
  induction l with
  | nil => intro i; exact .inl ⟨rfl, rfl⟩
  | cons p r ih =>
    intro i
    cases c : (s.toList == p.1.toList)
    · have hf : afind (.str s) (mapP (p :: r)) i = afind (.str s) (mapP r) (i + 1) := by
        show (match akeq (.str s) (.str p.1) with | some true => some (some (i, p.2)) | some false => afind (.str s) (mapP r) (i + 1) | none => none) = _
        simp only [akeq, c]
      rw [hf, lookP, if_neg (by rw [c]; decide)]
      rcases ih (i + 1) with h | ⟨j, v, h1, h2, h3⟩
      · exact .inl h
      · exact .inr ⟨j + 1, v, h1, by rw [h2, show i + 1 + j = i + (j + 1) by omega], by simpa using h3⟩
    · refine .inr ⟨0, p.2, by rw [lookP, if_pos c], ?_, ?_⟩
      · show (match akeq (.str s) (.str p.1) with | some true => some (some (i, p.2)) | some false => afind (.str s) (mapP r) (i + 1) | none => none) = _
        simp only [akeq, c]
        rfl
      · have : s = p.1 := bytes_ext (by simpa using c)
        subst this
        rfl
def pairV (l : List Sl) : List (ByteArray × AVal) := l.map fun x => (x.name, .int .i64 x.val)
def mapSl (l : List Sl) : List (AVal × AVal) := mapP (pairV l)
def lookV : List Sl → ByteArray → Int
  | [], _ => 0
  | x :: r, s => if (s.toList == x.name.toList) = true then x.val else lookV r s
theorem lookP_V (s : ByteArray) (l : List Sl) : (lookP (pairV l) s = none ∧ lookV l s = 0) ∨ lookP (pairV l) s = some (.int .i64 (lookV l s)) := by
  induction l with
  | nil => exact .inl ⟨rfl, rfl⟩
  | cons x r ih =>
    show (lookP ((x.name, .int .i64 x.val) :: pairV r) s = none ∧ _) ∨ lookP ((x.name, .int .i64 x.val) :: pairV r) s = _
    rw [lookP, lookV]
    split
    · exact .inr rfl
    · exact ih
theorem azeroI : azero Tryz.prog 3 = some (.int .i64 0) := by kernel_rfl
theorem akeyS (s : ByteArray) : akey Tryz.prog 9 (.str s) = true := rfl
theorem alook_V {l : List Sl} {m : Nat} {hp : Heap} (h : hget hp m = some (.map (mapSl l))) (s : ByteArray) : alookup Tryz.prog 90 (.map m) (.str s) false hp = some (.int .i64 (lookV l s)) := by
  unfold alookup
  rw [show (Tryz.prog).underlying 90 = some (.map 9 3) from by kernel_rfl]
  dsimp only
  rw [if_pos (akeyS s), h]
  dsimp only
  rcases afind_P s (pairV l) 0 with ⟨h1, h2⟩ | ⟨j, v, h1, h2, h3⟩
  · rw [show afind (.str s) (mapSl l) 0 = some none from h2]
    rcases lookP_V s l with ⟨_, q⟩ | q
    · dsimp only
      rw [azeroI, q]; rfl
    · rw [h1] at q; cases q
  · rw [show afind (.str s) (mapSl l) 0 = some (some (0 + j, v)) from h2]
    rcases lookP_V s l with ⟨q, _⟩ | q
    · rw [h1] at q; cases q
    · rw [h1] at q
      injection q with q
      subst q
      rfl
theorem lookP_take {xs : List Sl} (h : ∀ (i j : Nat) (x y : Sl), i < j → xs[i]? = some x → xs[j]? = some y → x.name.toList < y.name.toList) {k : Nat} {x : Sl} (hx : xs[k]? = some x) : lookP (pairV (xs.take k)) x.name = none := by
  rcases afind_P x.name (pairV (xs.take k)) 0 with ⟨h1, _⟩ | ⟨j, v, _, _, h3⟩
  · exact h1
  · exfalso
    unfold pairV at h3
    rw [List.getElem?_map] at h3
    obtain ⟨y, hy, hye⟩ := Option.map_eq_some_iff.1 h3
    injection hye with hye _
    have hj := (List.getElem?_eq_some_iff.1 hy).1
    rw [List.length_take] at hj
    rw [List.getElem?_take_of_lt (by omega)] at hy
    have := h j k y x (by omega) hy hx
    rw [hye] at this
    exact List.lt_irrefl _ this
theorem amapset_V {l : List Sl} {m lo : Nat} {hp : Heap} (h : hget hp m = some (.map (mapSl l))) (x : Sl) (hx : lookP (pairV l) x.name = none) (hlo : lo ≤ m) : amapset Tryz.prog lo 90 (.map m) (.str x.name) (.int .i64 x.val) hp = some (hset hp m (.map (mapSl (l ++ [x])))) := by
  unfold amapset
  rw [show (Tryz.prog).underlying 90 = some (.map 9 3) from by kernel_rfl]
  dsimp only
  rw [if_pos (akeyS _), h]
  dsimp only
  rcases afind_P x.name (pairV l) 0 with ⟨_, h2⟩ | ⟨j, v, h1, _⟩
  · rw [if_pos hlo, show afind (.str x.name) (mapSl l) 0 = some none from h2]
    simp [mapSl, mapP, pairV]
  · rw [hx] at h1; cases h1
/-- A map of slots is filled. -/
structure Filled (xs : List Sl) (nx : Nat) (hp : Heap) (n' : Nat) (hp' : Heap) : Prop where
  le : nx + 2 ≤ n'
  map : hget hp' nx = some (.map (mapSl xs))
  old : ∀ id, id < nx → hget hp' id = hget hp id
theorem values_R (xs : List Sl) (hl : xs.length ≤ 2000) (h : ∀ (i j : Nat) (x y : Sl), i < j → xs[i]? = some x → xs[j]? = some y → x.name.toList < y.name.toList) (ro nx : Nat) (hp : Heap) (hro : ro ≤ nx) :
    ∃ n' hp', R K 50 [.lst (encSls xs)] ro nx hp = some ⟨.clo 88 [] [.ptr (nx + 1) 0], false, n', hp'⟩ ∧ Filled xs nx hp n' hp' ∧ hget hp' (nx + 1) = some (.cells [(.map nx, false)]) := by
  have e := LB_open (P := Tryz.prog) [] 0 Tryz.func50 rfl rfl (by kernel_rfl)
  simp only [slim, slimO, annO, List.map, List.zip, List.zipWith, List.lookup, holed, loopsOf, List.nil_append, List.cons_append, List.getD_cons_zero, List.getD_cons_succ, Nat.reduceBEq] at e
  have hloop := rounds (K := K) (ro := ⟨ro, []⟩) e xs.length (fun k tm n h1 => tm.length = 20 ∧ getC tm 3 = (.ptr (nx + 1) 0, false) ∧ getC tm 7 = (.lst (encSls xs), false) ∧ getC tm 8 = (.int .i64 xs.length, false) ∧ getC tm 9 = (.int .i64 k, false) ∧ Filled (xs.take k) nx hp n h1 ∧ hget h1 (nx + 1) = some (.cells [(.map nx, false)]))
    (fun r => ∃ tm' n' hp', r = some (.exit 0, ⟨tm', n', hp'⟩) ∧ tm'.length = 20 ∧ getC tm' 3 = (.ptr (nx + 1) 0, false) ∧ Filled xs nx hp n' hp' ∧ hget hp' (nx + 1) = some (.cells [(.map nx, false)])) ?_ ?_ 0
  · generalize hX : R K _ _ _ _ _ = x
    have hro1 : ro ≤ nx + 1 := by omega
    rw [R_body' K ro 50 _ nx hp [] Tryz.func50 rfl Tryz.ntmps50 Tryz.results50 (mu := []) rfl (by kernel_rfl) rfl rfl rfl rfl] at hX; simp only [slim, slimO, annO, List.map, List.zip, List.zipWith, List.lookup, holed, Nat.reduceBEq] at hX
    simp [List.replicate, hro, hro1] at hX
    generalize hb : X K _ (.loop _) _ = r at hX
    obtain ⟨tm', n', hp', rfl, t1, t2, t3, t4⟩ : ∃ tm' n' hp', r = some (.exit 0, ⟨tm', n', hp'⟩) ∧ tm'.length = 20 ∧ getC tm' 3 = (.ptr (nx + 1) 0, false) ∧ Filled xs nx hp n' hp' ∧ hget hp' (nx + 1) = some (.cells [(.map nx, false)]) := by
      rw [← hb]
      refine hloop _ _ _ (by omega) ⟨?_, ?_, ?_, ?_, ?_, ⟨?_, ?_, ?_⟩, ?_⟩
      rotate_left 7
      · intro id hid
        have q1 : ¬ nx = id := by omega
        have q2 : ¬ nx + 1 = id := by omega
        have q3 : ¬ id = nx := by omega
        have q4 : ¬ id = nx + 1 := by omega
        simp [q1, q2, q3, q4]
      all_goals simp [mapSl, mapP, pairV, hro]
    clear hb hloop
    refine ⟨n', hp', ?_, t3, t4⟩
    rw [← hX]
    simp [t1, t2]
  · rintro tm n hp1 r ⟨ht, h3, h7, h8, h9, hF, hc⟩ hX
    simp [ht, h8, h9] at hX
    subst hX
    rw [List.take_length] at hF
    exact ⟨_, _, rfl, by simp, _, _, _, rfl, by simp [ht], by simp [h3], hF, hc⟩
  · rintro k tm n hp1 r hk ⟨ht, h3, h7, h8, h9, hF, hc⟩ hX
    left
    obtain ⟨f1, f2, f3⟩ := hF
    have hx := List.getElem?_eq_getElem (l := xs) (i := k) hk
    have htk : xs.take (k + 1) = xs.take k ++ [xs[k]] := by rw [List.take_add_one, hx]; rfl
    generalize xs[k] = x at hx htk
    have hkl : (k : Int) < xs.length := by omega
    have hxe := encSls_at hx
    have hw2 : IntKind.i64.wrap ((k : Int) + 1) = (k : Int) + 1 := wrap_small (by omega) (by omega)
    simp only [encSl] at hxe
    have hnew := lookP_take h hx
    have ham := fun hp (hh : hget hp nx = some (.map (mapSl (xs.take k)))) => amapset_V (lo := ro) hh x hnew hro
    have q1 : ¬ n = nx := by omega
    have q2 : ¬ nx = n := by omega
    have q3 : ¬ n = nx + 1 := by omega
    have q4 : ¬ nx + 1 = n := by omega
    have q5 : ro ≤ n := by omega
    simp [ht, h3, h7, h8, h9, hkl, hxe, hw2, q1, q2, q3, q4, q5, f2, hc, ham] at hX
    subst hX
    refine ⟨_, _, _, rfl, by simp [ht], by simp [h3], by simp [h7], by simp [h8], by simp [ht], ⟨by omega, ?_, fun id hid => ?_⟩, ?_⟩
    · simp [q1, q2, f2, htk]
    · have w1 : ¬ n = id := by omega
      have w2 : ¬ id = n := by omega
      have w3 : ¬ id = nx := by omega
      simp [w1, w2, w3, f3 id hid]
    · have w5 : ¬ nx + 1 = nx := by omega
      simp [q3, q4, w5, hc]
theorem table_R (xs : List Sl) (hl : xs.length ≤ 2000) (h : ∀ (i j : Nat) (x y : Sl), i < j → xs[i]? = some x → xs[j]? = some y → x.name.toList < y.name.toList) (ro nx : Nat) (hp : Heap) (hro : ro ≤ nx) :
    ∃ n' hp', R K 57 [.lst (encSls xs)] ro nx hp = some ⟨.map nx, false, n', hp'⟩ ∧ nx + 1 ≤ n' ∧ hget hp' nx = some (.map (mapSl xs)) ∧ ∀ id, id < nx → hget hp' id = hget hp id := by
  have e := LB_open (P := Tryz.prog) [] 0 Tryz.func57 rfl rfl (by kernel_rfl)
  simp only [slim, slimO, annO, List.map, List.zip, List.zipWith, List.lookup, holed, loopsOf, List.nil_append, List.cons_append, List.getD_cons_zero, List.getD_cons_succ, Nat.reduceBEq] at e
  have hloop := rounds (K := K) (ro := ⟨ro, []⟩) e xs.length (fun k tm n h1 => tm.length = 20 ∧ getC tm 3 = (.map nx, false) ∧ getC tm 7 = (.lst (encSls xs), false) ∧ getC tm 8 = (.int .i64 xs.length, false) ∧ getC tm 9 = (.int .i64 k, false) ∧ nx + 1 ≤ n ∧ hget h1 nx = some (.map (mapSl (xs.take k))) ∧ ∀ id, id < nx → hget h1 id = hget hp id)
    (fun r => ∃ tm' n' hp', r = some (.exit 0, ⟨tm', n', hp'⟩) ∧ tm'.length = 20 ∧ getC tm' 3 = (.map nx, false) ∧ nx + 1 ≤ n' ∧ hget hp' nx = some (.map (mapSl xs)) ∧ ∀ id, id < nx → hget hp' id = hget hp id) ?_ ?_ 0
  · generalize hX : R K _ _ _ _ _ = x
    rw [R_body' K ro 57 _ nx hp [] Tryz.func57 rfl Tryz.ntmps57 Tryz.results57 (mu := []) rfl (by kernel_rfl) rfl rfl rfl rfl] at hX; simp only [slim, slimO, annO, List.map, List.zip, List.zipWith, List.lookup, holed, Nat.reduceBEq] at hX
    simp [List.replicate] at hX
    generalize hb : X K _ (.loop _) _ = r at hX
    obtain ⟨tm', n', hp', rfl, t1, t2, t3, t4, t5⟩ : ∃ tm' n' hp', r = some (.exit 0, ⟨tm', n', hp'⟩) ∧ tm'.length = 20 ∧ getC tm' 3 = (.map nx, false) ∧ nx + 1 ≤ n' ∧ hget hp' nx = some (.map (mapSl xs)) ∧ ∀ id, id < nx → hget hp' id = hget hp id := by
      rw [← hb]
      refine hloop _ _ _ (by omega) ⟨?_, ?_, ?_, ?_, ?_, ?_, ?_, ?_⟩
      rotate_left 7
      · intro id hid
        have q1 : ¬ nx = id := by omega
        have q3 : ¬ id = nx := by omega
        simp [q1, q3]
      all_goals simp [mapSl, mapP, pairV, hro]
    clear hb hloop
    refine ⟨n', hp', ?_, t3, t4, t5⟩
    rw [← hX]
    simp [t1, t2]
  · rintro tm n hp1 r ⟨ht, h3, h7, h8, h9, hn, hm, ho⟩ hX
    simp [ht, h8, h9] at hX
    subst hX
    rw [List.take_length] at hm
    exact ⟨_, _, rfl, by simp, _, _, _, rfl, by simp [ht], by simp [h3], hn, hm, ho⟩
  · rintro k tm n hp1 r hk ⟨ht, h3, h7, h8, h9, f1, f2, f3⟩ hX
    left
    have hx := List.getElem?_eq_getElem (l := xs) (i := k) hk
    have htk : xs.take (k + 1) = xs.take k ++ [xs[k]] := by rw [List.take_add_one, hx]; rfl
    generalize xs[k] = x at hx htk
    have hkl : (k : Int) < xs.length := by omega
    have hxe := encSls_at hx
    have hw2 : IntKind.i64.wrap ((k : Int) + 1) = (k : Int) + 1 := wrap_small (by omega) (by omega)
    simp only [encSl] at hxe
    have hnew := lookP_take h hx
    have ham := fun hp (hh : hget hp nx = some (.map (mapSl (xs.take k)))) => amapset_V (lo := ro) hh x hnew hro
    have q1 : ¬ n = nx := by omega
    have q2 : ¬ nx = n := by omega
    have q5 : ro ≤ n := by omega
    simp [ht, h3, h7, h8, h9, hkl, hxe, hw2, q1, q2, q5, f2, ham] at hX
    subst hX
    refine ⟨_, _, _, rfl, by simp [ht], by simp [h3], by simp [h7], by simp [h8], by simp [ht], by omega, ?_, fun id hid => ?_⟩
    · simp [q1, q2, f2, htk]
    · have w1 : ¬ n = id := by omega
      have w2 : ¬ id = n := by omega
      have w3 : ¬ id = nx := by omega
      simp [w1, w2, w3, f3 id hid]
def trV (b : Bool) : Int := if b then 1 else 0
@[simp] theorem truthV_R (b : Bool) (ro nx : Nat) (hp : Heap) : R K 89 [.bool b] ro nx hp = some ⟨.int .i64 (trV b), false, nx, hp⟩ := by
  rw [R_val' K ro 89 _ nx hp [] Tryz.func89 rfl Tryz.ntmps89 Tryz.results89 (mu := []) rfl (by kernel_rfl) rfl rfl rfl]; simp only [slim, slimO, annO, List.map, List.zip, List.zipWith, List.lookup, holed, Nat.reduceBEq]
  cases b <;> simp [List.replicate, trV]
@[simp] theorem truthR_R (b : Bool) (ro nx : Nat) (hp : Heap) : R K 92 [.bool b] ro nx hp = some ⟨.int .i64 (trV b), false, nx, hp⟩ := by
  rw [R_val' K ro 92 _ nx hp [] Tryz.func92 rfl Tryz.ntmps92 Tryz.results92 (mu := []) rfl (by kernel_rfl) rfl rfl rfl]; simp only [slim, slimO, annO, List.map, List.zip, List.zipWith, List.lookup, holed, Nat.reduceBEq]
  cases b <;> simp [List.replicate, trV]
/-- The value of an operator, as the machine computes it. -/
def opV (op a b c : Int) : Int := if op = 3 then (IntKind.i64.wrap (a + b)).tmod 1000 else if op = 4 then (IntKind.i64.wrap (IntKind.i64.wrap (a - b) + 1000)).tmod 1000 else if op = 5 then (IntKind.i64.wrap (a * b)).tmod 1000
  else if op = 6 then trV (decide (a < b)) else if op = 7 then trV (a == b) else if op = 8 then trV (a == 0) else if a ≠ 0 then b else c
def appV (op : Int) (l : List Int) : Int := opV op (l.getD 0 0) (l.getD 1 0) (l.getD 2 0)
theorem arity_list {op : Int} (h : 3 ≤ op ∧ op ≤ 9) {α : Type} (l : List α) (hl : (l.length : Int) = arityF op) : ((op = 3 ∨ op = 4 ∨ op = 5 ∨ op = 6 ∨ op = 7) ∧ ∃ a b, l = [a, b]) ∨ (op = 8 ∧ ∃ a, l = [a]) ∨ (op = 9 ∧ ∃ a b c, l = [a, b, c]) := by
  have h37 : (op = 3 ∨ op = 4 ∨ op = 5 ∨ op = 6 ∨ op = 7) ∨ op = 8 ∨ op = 9 := by omega
  rcases h37 with c | c | c
  · have : arityF op = 2 := by unfold arityF; grind
    refine .inl ⟨c, ?_⟩
    match l, hl with
    | [a, b], _ => exact ⟨a, b, rfl⟩
    | [], hl => simp at hl; omega
    | [_], hl => simp at hl; omega
    | _ :: _ :: _ :: _, hl => simp at hl; omega
  · refine .inr (.inl ⟨c, ?_⟩)
    subst c
    match l, hl with
    | [a], _ => exact ⟨a, rfl⟩
    | [], hl => simp [arityF] at hl
    | _ :: _ :: _, hl => simp [arityF] at hl; omega
  · refine .inr (.inr ⟨c, ?_⟩)
    subst c
    match l, hl with
    | [a, b, e], _ => exact ⟨a, b, e, rfl⟩
    | [], hl => simp [arityF] at hl
    | [_], hl => simp [arityF] at hl
    | [_, _], hl => simp [arityF] at hl
    | _ :: _ :: _ :: _ :: _, hl => simp [arityF] at hl; omega
theorem apply_R (op : Int) (h : 3 ≤ op ∧ op ≤ 9) (l : List Int) (hl : (l.length : Int) = arityF op) (ro nx : Nat) (hp : Heap) : R K 51 [.int .i64 op, .lst (ints' l)] ro nx hp = some ⟨.int .i64 (appV op l), false, nx, hp⟩ := by
  rcases arity_list h l hl with ⟨c, a, b, rfl⟩ | ⟨rfl, a, rfl⟩ | ⟨rfl, a, b, c, rfl⟩
  · rcases c with rfl | rfl | rfl | rfl | rfl
    all_goals
      rw [R_pure' K ro 51 _ nx hp [] Tryz.func51 rfl Tryz.ntmps51 Tryz.results51 (mu := []) rfl (by kernel_rfl) rfl rfl rfl rfl]; simp only [slim, slimO, annO, List.map, List.zip, List.zipWith, List.lookup, holed, Nat.reduceBEq]
      simp [List.replicate, ints', appV, opV]
  · rw [R_pure' K ro 51 _ nx hp [] Tryz.func51 rfl Tryz.ntmps51 Tryz.results51 (mu := []) rfl (by kernel_rfl) rfl rfl rfl rfl]; simp only [slim, slimO, annO, List.map, List.zip, List.zipWith, List.lookup, holed, Nat.reduceBEq]
    simp [List.replicate, ints', appV, opV]
  · rw [R_pure' K ro 51 _ nx hp [] Tryz.func51 rfl Tryz.ntmps51 Tryz.results51 (mu := []) rfl (by kernel_rfl) rfl rfl rfl rfl]; simp only [slim, slimO, annO, List.map, List.zip, List.zipWith, List.lookup, holed, Nat.reduceBEq]
    by_cases ha : a = 0 <;> simp [List.replicate, ints', appV, opV, ha]
theorem computed_R (op : Int) (h : 3 ≤ op ∧ op ≤ 9) (l : List Int) (hl : (l.length : Int) = arityF op) (ro nx : Nat) (hp : Heap) : R K 58 [.int .i64 op, .lst (ints' l)] ro nx hp = some ⟨.int .i64 (appV op l), false, nx, hp⟩ := by
  rcases arity_list h l hl with ⟨c, a, b, rfl⟩ | ⟨rfl, a, rfl⟩ | ⟨rfl, a, b, c, rfl⟩
  · rcases c with rfl | rfl | rfl | rfl | rfl
    all_goals
      rw [R_val' K ro 58 _ nx hp [] Tryz.func58 rfl Tryz.ntmps58 Tryz.results58 (mu := []) rfl (by kernel_rfl) rfl rfl rfl]; simp only [slim, slimO, annO, List.map, List.zip, List.zipWith, List.lookup, holed, Nat.reduceBEq]
      simp [List.replicate, ints', appV, opV]
  · rw [R_val' K ro 58 _ nx hp [] Tryz.func58 rfl Tryz.ntmps58 Tryz.results58 (mu := []) rfl (by kernel_rfl) rfl rfl rfl]; simp only [slim, slimO, annO, List.map, List.zip, List.zipWith, List.lookup, holed, Nat.reduceBEq]
    simp [List.replicate, ints', appV, opV]
  · rw [R_val' K ro 58 _ nx hp [] Tryz.func58 rfl Tryz.ntmps58 Tryz.results58 (mu := []) rfl (by kernel_rfl) rfl rfl rfl]; simp only [slim, slimO, annO, List.map, List.zip, List.zipWith, List.lookup, holed, Nat.reduceBEq]
    by_cases ha : a = 0 <;> simp [List.replicate, ints', appV, opV, ha]
end Go.Proofs.YtkpfkadjmijmlaaGreatDoor.M
/- Values of expressions: the program and the reference. -/
namespace Go.Proofs.YtkpfkadjmijmlaaGreatDoor.M
open Go.Proofs Go.Proofs.YtkpfkadjmijmlaaGreatDoor.X
set_option linter.unusedSimpArgs false
set_option linter.unusedVariables false
set_option maxRecDepth 100000
set_option pp.deepTerms false
set_option pp.deepTerms.threshold 6
set_option maxHeartbeats 4000000
mutual
def valX (t : ByteArray → Int) : Ex → Int
  | .mk o n s a => if o = 1 then n else if o = 2 then t s else appV o (valXs t a)
def valXs (t : ByteArray → Int) : List Ex → List Int
  | [] => []
  | x :: r => valX t x :: valXs t r
end
theorem valX_eq (t : ByteArray → Int) (x : Ex) : valX t x = if x.op = 1 then x.n else if x.op = 2 then t x.name else appV x.op (valXs t x.args) := by cases x; rw [valX]; rfl
theorem valXs_eq (t : ByteArray → Int) (r : List Ex) : valXs t r = r.map (valX t) := by induction r with | nil => rfl | cons x r ih => simp [valXs, ih]
@[simp] theorem ints'_len (l : List Int) : (ints' l).length = l.length := by simp [ints']
@[simp] theorem ints'_app (l : List Int) (x : Int) : ints' l ++ [.int .i64 x] = ints' (l ++ [x]) := by simp [ints']
@[simp] theorem ints'_ids (n : Nat) (l : List Int) : idsLts n (ints' l) = true := ints_ids n l
@[simp] theorem ints'_head (l : List Int) : headOk (ints' l) 1 = true := by cases l <;> rfl
/-- A closure that tells a variable's value, whatever lies above b. -/
def CloOk (g : FuncId) (cs : List AVal) (t : ByteArray → Int) (b : Nat) (hp0 : Heap) : Prop := ∀ s ro nx hp, b ≤ nx → (∀ id, id < b → hget hp id = hget hp0 id) → R K g (.str s :: cs) ro nx hp = some ⟨.int .i64 (t s), false, nx, hp⟩
theorem cloV (xs : List Sl) (m p b : Nat) (hp0 : Heap) (hm : m < b) (hpb : p < b) (h1 : hget hp0 m = some (.map (mapSl xs))) (h2 : hget hp0 p = some (.cells [(.map m, false)])) : CloOk 88 [.ptr p 0] (lookV xs) b hp0 := by
  intro s ro nx hp hb he
  have q1 := (he p hpb).trans h2
  have q2 := (he m hm).trans h1
  have hla := alook_V q2 s
  rw [R_pure' K ro 88 _ nx hp [] Tryz.func88 rfl Tryz.ntmps88 Tryz.results88 (mu := []) rfl (by kernel_rfl) rfl rfl rfl rfl]; simp only [slim, slimO, annO, List.map, List.zip, List.zipWith, List.lookup, holed, Nat.reduceBEq]
  simp [List.replicate, q1, hla]
theorem of_loop (g : FuncId) (cs : List AVal) (t : ByteArray → Int) (b lo : Nat) (hp0 : Heap) (hc : CloOk g cs t b hp0) (es : List Ex) (hl : es.length < 1000) (hlo : b ≤ lo) (ih : ∀ x ∈ es, ∀ ro nx hp, b ≤ nx → (∀ id, id < b → hget hp id = hget hp0 id) → R K 93 [encX x, .clo g [] cs] ro nx hp = some ⟨.int .i64 (valX t x), false, nx, hp⟩)
    (tm : List Cell) (nx : Nat) (hp : Heap) (hnx : lo ≤ nx) (hb : ∀ id, id < b → hget hp id = hget hp0 id) (ht : tm.length = 38) (h1 : getC tm 1 = (.clo g [] cs, false)) (h21 : getC tm 21 = (.lst (encXs es), false)) (h22 : getC tm 22 = (.int .i64 es.length, false)) (h23 : getC tm 23 = (.int .i64 0, false)) (h5 : getC tm 5 = (.lst [], true)) :
    ∃ tm' n' hp', X K ⟨lo, []⟩ (.loop (LB Tryz.prog 93 [] 0)) ⟨tm, nx, hp⟩ = some (.exit 1, ⟨tm', n', hp'⟩) ∧ tm'.length = 38 ∧ getC tm' 2 = getC tm 2 ∧ getC tm' 5 = (.lst (ints' (valXs t es)), true) ∧ nx ≤ n' ∧ ∀ id, id < nx → hget hp' id = hget hp id := by
  have e := LB_open (P := Tryz.prog) [] 0 Tryz.func93 rfl rfl (by kernel_rfl)
  simp only [slim, slimO, annO, List.map, List.zip, List.zipWith, List.lookup, holed, loopsOf, List.nil_append, List.cons_append, List.getD_cons_zero, List.getD_cons_succ, Nat.reduceBEq] at e
  refine rounds e es.length (fun k tm1 n h => tm1.length = 38 ∧ getC tm1 1 = (.clo g [] cs, false) ∧ getC tm1 21 = (.lst (encXs es), false) ∧ getC tm1 22 = (.int .i64 es.length, false) ∧ getC tm1 23 = (.int .i64 k, false) ∧ getC tm1 5 = (.lst (ints' (valXs t (es.take k))), true) ∧ getC tm1 2 = getC tm 2 ∧ nx ≤ n ∧ ∀ id, id < nx → hget h id = hget hp id)
    (fun r => ∃ tm' n' hp', r = some (.exit 1, ⟨tm', n', hp'⟩) ∧ tm'.length = 38 ∧ getC tm' 2 = getC tm 2 ∧ getC tm' 5 = (.lst (ints' (valXs t es)), true) ∧ nx ≤ n' ∧ ∀ id, id < nx → hget hp' id = hget hp id) ?_ ?_ 0 tm nx hp (by omega) ⟨ht, h1, h21, h22, h23, h5, rfl, Nat.le_refl _, fun _ _ => rfl⟩
  · rintro tm1 n h r ⟨ht, h1, h21, h22, h23, h5, h2, hn, ho⟩ hX
    rw [List.take_length] at h5
    simp [ht, h22, h23] at hX
    subst hX
    exact ⟨_, _, rfl, by simp, _, _, _, rfl, by simp [ht], by simp [h2], by simp [h5], hn, ho⟩
  · rintro k tm1 n h r hk ⟨ht, h1, h21, h22, h23, h5, h2, hn, ho⟩ hX
    left
    have hx := List.getElem?_eq_getElem (l := es) (i := k) hk
    have htk : valXs t (es.take (k + 1)) = valXs t (es.take k) ++ [valX t es[k]] := by
      rw [List.take_add_one, hx, valXs_eq, valXs_eq, List.map_append]; rfl
    generalize es[k] = x at hx htk
    have hkl : (k : Int) < es.length := by omega
    have hxe := encXs_at hx
    have hw2 : IntKind.i64.wrap ((k : Int) + 1) = (k : Int) + 1 := wrap_small (by omega) (by omega)
    have hlen : (valXs t (es.take k)).length < 1000 := by rw [valXs_eq, List.length_map, List.length_take]; omega
    have hlen : ((valXs t (es.take k)).length + 1) * 8 ≤ 140737488355328 := by omega
    have hlon : lo ≤ n := by omega
    have hxm := fun c => ih x (List.mem_of_getElem? hx) lo (n + 1) ((n, c) :: h) (by omega) fun id hid => by
      have q1 : ¬ n = id := by omega
      have q2 : ¬ id = n := by omega
      rw [← hb id hid, ← ho id (by omega)]
      simp [q1, q2]
    rw [encX_eq] at hxm hxe
    simp [ht, h1, h21, h22, h23, h5, hkl, hxe, hw2, hlon, hxm, hlen] at hX
    subst hX
    refine ⟨_, _, _, rfl, by simp [ht], by simp [h1], by simp [h21], by simp [h22], by simp [ht], by simp [ht, htk], by simp [h2], by omega, fun id hid => ?_⟩
    have q1 : ¬ n = id := by omega
    have q2 : ¬ id = n := by omega
    simp [q1, q2, ho id hid]
theorem of_R (g : FuncId) (cs : List AVal) (t : ByteArray → Int) (b : Nat) (hp0 : Heap) (hc : CloOk g cs t b hp0) : ∀ (N : Nat) (x : Ex) (d : Int), SizeOf.sizeOf x < N → exF x d = 0 → ∀ (ro nx : Nat) (hp : Heap), b ≤ nx → (∀ id, id < b → hget hp id = hget hp0 id) → R K 93 [encX x, .clo g [] cs] ro nx hp = some ⟨.int .i64 (valX t x), false, nx, hp⟩ := by
  intro N
  induction N with
  | zero => intro x d hx; omega
  | succ N ih =>
    intro x d hx hf ro nx hp hb ho
    obtain ⟨h1, h2⟩ := exF_zero hf
    obtain ⟨q1, q2, q3, q4, q5, q6, q7, q8, q9⟩ := own_zero h1
    have hn : ∀ c id, id < b → hget ((nx, c) :: hp) id = hget hp0 id := fun c id hid => by
      have q1 : ¬ nx = id := by omega
      have q2 : ¬ id = nx := by omega
      rw [← ho id hid]
      simp [q1, q2]
    by_cases c1 : x.op = 1
    · rw [valX_eq, if_pos c1]
      rw [R_pure' K ro 93 _ nx hp [] Tryz.func93 rfl Tryz.ntmps93 Tryz.results93 (mu := []) rfl (by kernel_rfl) rfl rfl rfl rfl]; simp only [slim, slimO, annO, List.map, List.zip, List.zipWith, List.lookup, holed, Nat.reduceBEq]
      simp [List.replicate, encX_eq, encXs_len, c1]
    · by_cases c2 : x.op = 2
      · rw [valX_eq, if_neg c1, if_pos c2]
        have hcl := fun ro c => hc x.name ro (nx + 1) ((nx, c) :: hp) (by omega) (hn c)
        rw [R_pure' K ro 93 _ nx hp [] Tryz.func93 rfl Tryz.ntmps93 Tryz.results93 (mu := []) rfl (by kernel_rfl) rfl rfl rfl rfl]; simp only [slim, slimO, annO, List.map, List.zip, List.zipWith, List.lookup, holed, Nat.reduceBEq]
        simp [List.replicate, encX_eq, encXs_len, c1, c2, hcl]
      · rw [valX_eq, if_neg c1, if_neg c2]
        have ha := arity_le x.op
        have hloop := fun tm nx' hp' => of_loop g cs t b nx hp0 hc x.args (by omega) hb (fun y hy ro2 nx2 hp2 b1 b2 => ih y (d + 1) (by have := args_lt hy; omega) (exsF_mem h2 y hy) ro2 nx2 hp2 b1 b2) tm nx' hp'
        have hop := fun ro nx hp => apply_R x.op (by omega) (valXs t x.args) (by rw [valXs_eq, List.length_map]; exact q4) ro nx hp
        rw [R_pure' K ro 93 _ nx hp [] Tryz.func93 rfl Tryz.ntmps93 Tryz.results93 (mu := []) rfl (by kernel_rfl) rfl rfl rfl rfl]; simp only [slim, slimO, annO, List.map, List.zip, List.zipWith, List.lookup, holed, Nat.reduceBEq]
        simp [List.replicate, encX_eq, encXs_len, c1, c2]
        generalize hg : X K _ (.loop _) _ = r
        obtain ⟨tm', nx', hp', rfl, g1, g2, g3, g4, g5⟩ : ∃ tm' n' hp', r = some (.exit 1, ⟨tm', n', hp'⟩) ∧ tm'.length = 38 ∧ getC tm' 2 = (.ptr nx 0, false) ∧ getC tm' 5 = (.lst (ints' (valXs t x.args)), true) ∧ nx + 1 ≤ n' ∧ ∀ id, id < nx + 1 → hget hp' id = hget ((nx, .cells [(.int .i64 x.op, false), (.int .i64 x.n, false), (.str x.name, false), (.lst (encXs x.args), false)]) :: hp) id := by
          rw [← hg]
          exact hloop _ _ _ (by omega) (hn _) (by simp) (by simp) (by simp) (by simp) (by simp) (by simp)
        have g6 := g5 nx (by omega)
        simp at g6
        clear hg g5 hloop
        simp [g1, g2, g3, g6, hop]
def evalF (x : Ex) (xs : List Sl) : Int × Int := if exF x 1 ≠ 0 then (0, exF x 1) else if slF xs ≠ 0 then (0, slF xs) else (valX (lookV xs) x, 0)
theorem eval_R (x : Ex) (xs : List Sl) (ro nx : Nat) (hp : Heap) : R K 60 [encX x, .lst (encSls xs)] ro nx hp = some ⟨.tup [.int .i64 (evalF x xs).1, .int .i64 (evalF x xs).2], false, nx, hp⟩ := by
  have hce := checkExpr_R x
  unfold evalF
  by_cases c1 : exF x 1 = 0
  · by_cases c2 : slF xs = 0
    · obtain ⟨g1, g2⟩ := slF_zero c2
      obtain ⟨n', hp', hv, ⟨f1, f2, f3⟩, f4⟩ := values_R xs g1 g2 0 1 [(0, .cells [(.int .i64 x.op, false), (.int .i64 x.n, false), (.str x.name, false), (.lst (encXs x.args), false)])] (by omega)
      have hof := fun ro => of_R _ _ _ (n' : Nat) hp' (cloV xs 1 2 n' hp' (by omega) (by omega) f2 f4) (SizeOf.sizeOf x + 1) x 1 (Nat.lt_succ_self _) c1 ro n' hp' (Nat.le_refl _) (fun _ _ => rfl)
      simp only [encX_eq] at hce hof
      simp only [Nat.reduceAdd] at hv
      have f30 := f3 0 (by omega)
      simp at f30
      rw [R_val' K ro 60 _ nx hp [(7, [[0], [], [0], [], [], []])] Tryz.func60 rfl Tryz.ntmps60 Tryz.results60 (mu := []) rfl (by kernel_rfl) rfl rfl rfl]; simp only [slim, slimO, annO, List.map, List.zip, List.zipWith, List.lookup, holed, Nat.reduceBEq]
      simp [List.replicate, encX_eq, encXs_len, c1, c2, hce, hv, hof, f30]
    · simp only [encX_eq] at hce
      rw [R_val' K ro 60 _ nx hp [(7, [[0], [], [0], [], [], []])] Tryz.func60 rfl Tryz.ntmps60 Tryz.results60 (mu := []) rfl (by kernel_rfl) rfl rfl rfl]; simp only [slim, slimO, annO, List.map, List.zip, List.zipWith, List.lookup, holed, Nat.reduceBEq]
      simp [List.replicate, encX_eq, encXs_len, c1, c2, hce]
  · simp only [encX_eq] at hce
    rw [R_val' K ro 60 _ nx hp [(7, [[0], [], [0], [], [], []])] Tryz.func60 rfl Tryz.ntmps60 Tryz.results60 (mu := []) rfl (by kernel_rfl) rfl rfl rfl]; simp only [slim, slimO, annO, List.map, List.zip, List.zipWith, List.lookup, holed, Nat.reduceBEq]
    simp [List.replicate, encX_eq, encXs_len, c1, hce]
end Go.Proofs.YtkpfkadjmijmlaaGreatDoor.M
/- The parts of an expression, their number, their names. -/
namespace Go.Proofs.YtkpfkadjmijmlaaGreatDoor.M
open Go.Proofs Go.Proofs.YtkpfkadjmijmlaaGreatDoor.X
set_option linter.unusedSimpArgs false
set_option linter.unusedVariables false
set_option maxRecDepth 100000
set_option pp.deepTerms false
set_option pp.deepTerms.threshold 6
set_option maxHeartbeats 4000000
mutual
def partsX : Ex → List Ex
  | .mk o n s a => partsXs a ++ [.mk o n s a]
def partsXs : List Ex → List Ex
  | [] => []
  | x :: r => partsX x ++ partsXs r
end
theorem partsX_eq (x : Ex) : partsX x = partsXs x.args ++ [x] := by cases x; rw [partsX]; rfl
theorem partsXs_app (l r : List Ex) : partsXs (l ++ r) = partsXs l ++ partsXs r := by induction l with | nil => rfl | cons x l ih => simp [partsXs, ih]
theorem partsXs_one (x : Ex) : partsXs [x] = partsX x := by simp [partsXs]
def cntB : Nat → Nat
  | 0 => 0
  | k + 1 => 1 + 3 * cntB k
theorem partsXs_len {l : List Ex} {c : Nat} (h : ∀ x ∈ l, (partsX x).length ≤ c) : (partsXs l).length ≤ l.length * c := by
  induction l with
  | nil => simp [partsXs]
  | cons x r ih =>
    have h1 := h x (.head _)
    have h2 := ih fun y hy => h y (.tail _ hy)
    rw [partsXs, List.length_append, List.length_cons, Nat.add_mul]
    omega
theorem cnt_le : ∀ (k : Nat) (x : Ex) (d : Int), exF x d = 0 → (k : Int) = 21 - d → (partsX x).length ≤ cntB k := by
  intro k
  induction k with
  | zero =>
    intro x d h hk
    obtain ⟨h1, _⟩ := exF_zero h
    have := (own_zero h1).1
    omega
  | succ k ih =>
    intro x d h hk
    obtain ⟨h1, h2⟩ := exF_zero h
    have q4 := (own_zero h1).2.2.2.1
    have ha := arity_le x.op
    rw [partsX_eq, List.length_append, List.length_singleton]
    have h3 := partsXs_len (l := x.args) (c := cntB k) fun y hy => ih y (d + 1) (exsF_mem h2 y hy) (by omega)
    have h4 : x.args.length * cntB k ≤ 3 * cntB k := Nat.mul_le_mul_right _ (by omega)
    simp only [cntB]
    omega
theorem cnt_bound {x : Ex} {d : Int} (h : exF x d = 0) (hd : 1 ≤ d) : (partsX x).length ≤ 1743392200 := by
  have hd2 := (own_zero (exF_zero h).1).1
  have h1 := cnt_le (21 - d).toNat x d h (by omega)
  have h2 : ∀ k, k ≤ 20 → cntB k ≤ cntB 20 := by decide
  have h3 := h2 (21 - d).toNat (by omega)
  have h4 : cntB 20 = 1743392200 := by decide
  omega
theorem cnts_bound {x : Ex} {d : Int} (h : exF x d = 0) (hd : 1 ≤ d) (k : Nat) : (partsXs (x.args.take k)).length ≤ 1743392200 := by
  have h1 := cnt_bound h hd
  rw [partsX_eq, ← List.take_append_drop k x.args, partsXs_app] at h1
  simp at h1
  omega
theorem parts_R : ∀ (N : Nat) (x : Ex) (d : Int), SizeOf.sizeOf x < N → 1 ≤ d → exF x d = 0 → ∀ (ro nx : Nat) (hp : Heap), R K 54 [encX x] ro nx hp = some ⟨.lst (encXs (partsX x)), true, nx, hp⟩ := by
  have e := LB_open (P := Tryz.prog) [] 0 Tryz.func54 rfl rfl (by kernel_rfl)
  simp only [slim, slimO, annO, List.map, List.zip, List.zipWith, List.lookup, holed, loopsOf, List.nil_append, List.cons_append, List.getD_cons_zero, List.getD_cons_succ, Nat.reduceBEq] at e
  intro N
  induction N with
  | zero => intro x d hx; omega
  | succ N ih =>
    intro x d hx hd hf ro nx hp
    obtain ⟨h1, h2⟩ := exF_zero hf
    obtain ⟨q1, q2, q3, q4, q5, q6, q7, q8, q9⟩ := own_zero h1
    have ha := arity_le x.op
    have hloop := rounds (K := K) (ro := ⟨0, []⟩) e x.args.length (fun k tm1 n h => tm1.length = 22 ∧ getC tm1 1 = (.ptr 0 0, false) ∧ getC tm1 7 = (.lst (encXs x.args), false) ∧ getC tm1 8 = (.int .i64 x.args.length, false) ∧ getC tm1 9 = (.int .i64 k, false) ∧ getC tm1 3 = (.lst (encXs (partsXs (x.args.take k))), true) ∧ 1 ≤ n ∧ hget h 0 = some (.cells [(.int .i64 x.op, false), (.int .i64 x.n, false), (.str x.name, false), (.lst (encXs x.args), false)]))
      (fun r => ∃ tm' n' hp', r = some (.exit 0, ⟨tm', n', hp'⟩) ∧ tm'.length = 22 ∧ getC tm' 1 = (.ptr 0 0, false) ∧ getC tm' 3 = (.lst (encXs (partsXs x.args)), true) ∧ 1 ≤ n' ∧ hget hp' 0 = some (.cells [(.int .i64 x.op, false), (.int .i64 x.n, false), (.str x.name, false), (.lst (encXs x.args), false)])) ?_ ?_ 0
    · have hb0 := cnts_bound hf hd x.args.length
      rw [List.take_length] at hb0
      have hlen : ((partsXs x.args).length + 1) * 56 ≤ 140737488355328 := by omega
      have hfold : encXs (partsXs x.args) ++ [.agg [.int .i64 x.op, .int .i64 x.n, .str x.name, .lst (encXs x.args)]] = encXs (partsX x) := by simp [partsX_eq, encXs_app, encXs, encX_eq]
      rw [R_val' K ro 54 _ nx hp [] Tryz.func54 rfl Tryz.ntmps54 Tryz.results54 (mu := []) rfl (by kernel_rfl) rfl rfl rfl]; simp only [slim, slimO, annO, List.map, List.zip, List.zipWith, List.lookup, holed, Nat.reduceBEq]
      simp [List.replicate, encX_eq, encXs_len]
      generalize hg : X K _ (.loop _) _ = r
      obtain ⟨tm', n', hp', rfl, g1, g2, g3, g4, g5⟩ : ∃ tm' n' hp', r = some (.exit 0, ⟨tm', n', hp'⟩) ∧ tm'.length = 22 ∧ getC tm' 1 = (.ptr 0 0, false) ∧ getC tm' 3 = (.lst (encXs (partsXs x.args)), true) ∧ 1 ≤ n' ∧ hget hp' 0 = some (.cells [(.int .i64 x.op, false), (.int .i64 x.n, false), (.str x.name, false), (.lst (encXs x.args), false)]) := by
        rw [← hg]
        refine hloop _ _ _ (by omega) ⟨?_, ?_, ?_, ?_, ?_, ?_, ?_, ?_⟩
        all_goals simp [partsXs, encXs]
      clear hg hloop
      simp [g1, g2, g3, g5, hlen, hfold]
    · rintro tm1 n h r ⟨ht, hc1, hsl, hcl, hix, hac, hn, hb⟩ hX
      rw [List.take_length] at hac
      simp [ht, hcl, hix] at hX
      subst hX
      exact ⟨_, _, rfl, by simp, _, _, _, rfl, by simp [ht], by simp [hc1], by simp [hac], hn, hb⟩
    · rintro k tm1 n h r hk ⟨ht, hc1, hsl, hcl, hix, hac, hn, hb⟩ hX
      left
      have hx := List.getElem?_eq_getElem (l := x.args) (i := k) hk
      have htk : partsXs (x.args.take (k + 1)) = partsXs (x.args.take k) ++ partsX x.args[k] := by
        rw [List.take_add_one, hx, partsXs_app]; simp [partsXs]
      have hb1 := cnts_bound hf hd k
      have hb2 := cnts_bound hf hd (k + 1)
      rw [htk, List.length_append] at hb2
      generalize x.args[k] = y at hx htk hb2
      have hym := List.mem_of_getElem? hx
      have hkl : (k : Int) < x.args.length := by omega
      have hxe := encXs_at hx
      have hw2 : IntKind.i64.wrap ((k : Int) + 1) = (k : Int) + 1 := wrap_small (by omega) (by omega)
      have hn0 : ¬ n = 0 := by omega
      have hn0' : ¬ 0 = n := by omega
      have hxm := fun ro nx hp => ih y (d + 1) (by have := args_lt hym; omega) (by omega) (exsF_mem h2 y hym) ro nx hp
      rw [encX_eq] at hxm hxe
      have hlen : ((partsXs (x.args.take k)).length + (partsX y).length) * 56 ≤ 140737488355328 := by omega
      simp [ht, hc1, hsl, hcl, hix, hac, hkl, hxe, hw2, hxm, hn0, hn0', hlen] at hX
      subst hX
      refine ⟨_, _, _, rfl, by simp [ht], by simp [hc1], by simp [hsl], by simp [hcl], by simp [ht], ?_, by omega, by simp [hn0, hn0', hb]⟩
      simp [ht, htk, encXs_app]
end Go.Proofs.YtkpfkadjmijmlaaGreatDoor.M
/- Rows that grow; value.code. -/
namespace Go.Proofs.YtkpfkadjmijmlaaGreatDoor.M
open Go.Proofs Go.Proofs.YtkpfkadjmijmlaaGreatDoor.X
set_option linter.unusedSimpArgs false
set_option linter.unusedVariables false
set_option maxRecDepth 100000
set_option pp.deepTerms false
set_option pp.deepTerms.threshold 6
set_option maxHeartbeats 4000000
@[simp] theorem unown_len (l : List AVal) : (unown l).length = l.length := by simp [unown]
theorem unown_fst (l : List AVal) : (unown l).map (·.1) = l := by simp [unown, Function.comp_def]
theorem hget_old {j n : Nat} {b : ABlk} {hp : Heap} (h : j < n) : hget ((n, b) :: hp) j = hget hp j := by rw [hget_cons, if_neg (by omega)]
theorem flats_app (a b : List AVal) : flats (a ++ b) = flats a ++ flats b := by simp [flats]
/-- What an array holds, so far. -/
def RowV (hp : Heap) (ro n sz : Nat) (ag : Bool) (xs : List AVal) (v : AVal) (f : Bool) : Prop :=
  (xs = [] ∧ ((v = .lst [] ∧ f = true) ∨ (v = .nils ∧ f = false))) ∨ ∃ id, v = .sl id 0 xs.length sz ag ∧ f = false ∧ ro ≤ id ∧ id < n ∧ 0 < xs.length ∧ hget hp id = some (.cells (unown (flats xs)))
/-- v is not the array id. -/
def notAt (v : AVal) (id : Nat) : Prop := ∀ o n s a, v ≠ .sl id o n s a
theorem RowV.keep {hp hp' : Heap} {ro n n' sz : Nat} {ag : Bool} {xs : List AVal} {v : AVal} {f : Bool} (h : RowV hp ro n sz ag xs v f) (hn : n ≤ n') (hk : ∀ id, id < n → hget hp' id = hget hp id) : RowV hp' ro n' sz ag xs v f := by
  rcases h with h | ⟨id, q1, q2, q3, q4, q5, q6⟩
  · exact .inl h
  · exact .inr ⟨id, q1, q2, q3, by omega, q5, by rw [hk id q4, q6]⟩
theorem RowV.app {hp hp' : Heap} {ro n n' sz b k : Nat} {ag : Bool} {xs : List AVal} {v : AVal} {f : Bool} {ys : List AVal} (h : RowV hp ro n sz ag xs v f) (hs : ∀ x ∈ xs, x.flat.length = sz) (hk : ∀ id, id < n → hget hp' id = hget hp id) (h0 : k ≠ 0) (hb : (xs.length + k) * b ≤ 140737488355328) :
    ∃ h2, (∀ x, apM ro b sz ag x n' hp' (v, f) (some (k, ys)) = some ⟨.sl n' 0 (xs.length + k) sz ag, false, none, n' + 1, (n', .cells (unown (flats xs ++ ys))) :: h2⟩) ∧ (∀ j, notAt v j → hget h2 j = hget hp' j) ∧ (h2 = hp' ∨ ∃ id o l s a, v = .sl id o l s a ∧ h2 = hdel hp' id) := by
  rcases h with ⟨rfl, ⟨rfl, rfl⟩ | ⟨rfl, rfl⟩⟩ | ⟨id, rfl, rfl, q3, q4, q5, q6⟩
  · refine ⟨hp', fun x => ?_, fun j _ => rfl, .inl rfl⟩
    simp only [List.length_nil, Nat.zero_add] at hb ⊢
    simp only [apM]
    rw [if_neg h0, if_pos hb]; rfl
  · refine ⟨hp', fun x => ?_, fun j _ => rfl, .inl rfl⟩
    simp only [List.length_nil, Nat.zero_add] at hb ⊢
    simp only [apM]
    rw [if_neg h0, if_pos hb]; rfl
  · refine ⟨hdel hp' id, fun x => ?_, fun j hj => ?_, .inr ⟨id, _, _, _, _, rfl, rfl⟩⟩
    · have hg : hget hp' id = some (.cells (unown (flats xs))) := by rw [hk id q4, q6]
      rw [apM_sl hg, if_pos ⟨q3, rfl, by rw [unown_len, flats_len hs]; exact Nat.le_refl _, hb⟩]
      have e : ((unown (flats xs)).take (xs.length * sz)).map (·.1) = flats xs := by
        rw [← flats_len hs, ← unown_len (flats xs), List.take_length, unown_fst]
      rw [e]
    · rw [hget_hdel, if_neg fun e => hj 0 xs.length sz ag (by rw [e])]
theorem RowV.sl {ro n sz m : Nat} {ag : Bool} {xs : List AVal} {hp : Heap} (h : hget hp n = some (.cells (unown (flats xs)))) (hr : ro ≤ n) (hm : n < m) (h0 : 0 < xs.length) : RowV hp ro m sz ag xs (.sl n 0 xs.length sz ag) false := .inr ⟨n, rfl, rfl, hr, hm, h0, h⟩
theorem encWs_flat {l : List Wd} : ∀ x ∈ encWs l, x.flat.length = 3 := by
  intro x hx
  obtain ⟨w, _, rfl⟩ := List.mem_map.1 hx
  rfl
theorem encWs_app (a b : List Wd) : encWs (a ++ b) = encWs a ++ encWs b := by simp [encWs]
def wordX (x : Ex) : Wd := ⟨x.op, x.n, x.name⟩
def wordsX (l : List Ex) : List Wd := l.map wordX
@[simp] theorem wordsX_len (l : List Ex) : (wordsX l).length = l.length := by simp [wordsX]
theorem wordsX_app (a b : List Ex) : wordsX (a ++ b) = wordsX a ++ wordsX b := by simp [wordsX]
def boxX (x : Ex) : ABlk := .cells [(.int .i64 x.op, false), (.int .i64 x.n, false), (.str x.name, false), (.lst (encXs x.args), false)]
theorem partsX_pos (x : Ex) : 0 < (partsX x).length := by rw [partsX_eq, List.length_append]; simp
/-- What value.code leaves. -/
def CodeOk (v : AVal) (nx : Nat) (hp : Heap) (ws : List Wd) (id n' : Nat) (hp' : Heap) : Prop := nx ≤ id ∧ id < n' ∧ hget hp' id = some (.cells (unown (flats (encWs ws)))) ∧ ∀ j, j < nx → notAt v j → hget hp' j = hget hp j
theorem code_R : ∀ (N : Nat) (x : Ex) (d : Int), SizeOf.sizeOf x < N → 1 ≤ d → exF x d = 0 → ∀ (ws : List Wd) (v : AVal) (ro nx : Nat) (hp : Heap), ws.length + (partsX x).length ≤ 2000000000 → ro ≤ nx → RowV hp ro nx 3 true (encWs ws) v false →
    ∃ id n' hp', R K 44 [encX x, v] ro nx hp = some ⟨.sl id 0 (ws ++ wordsX (partsX x)).length 3 true, false, n', hp'⟩ ∧ CodeOk v nx hp (ws ++ wordsX (partsX x)) id n' hp' := by
  have e := LB_open (P := Tryz.prog) [] 0 Tryz.func44 rfl rfl (by kernel_rfl)
  simp only [slim, slimO, annO, List.map, List.zip, List.zipWith, List.lookup, holed, loopsOf, List.nil_append, List.cons_append, List.getD_cons_zero, List.getD_cons_succ, Nat.reduceBEq] at e
  intro N
  induction N with
  | zero => intro x d hx; omega
  | succ N ih =>
    intro x d hx hd hf ws v ro nx hp hlen hro hrow
    obtain ⟨h1, h2⟩ := exF_zero hf
    obtain ⟨q1, q2, q3, q4, q5, q6, q7, q8, q9⟩ := own_zero h1
    have ha := arity_le x.op
    have hpx : (partsX x).length = (partsXs x.args).length + 1 := by rw [partsX_eq, List.length_append]; rfl
    have hloop := rounds (K := K) (ro := ⟨ro, [30]⟩) e x.args.length (fun k tm1 n h => tm1.length = 28 ∧ getC tm1 2 = (.ptr nx 0, false) ∧ getC tm1 8 = (.lst (encXs x.args), false) ∧ getC tm1 9 = (.int .i64 x.args.length, false) ∧ getC tm1 10 = (.int .i64 k, false) ∧ nx < n ∧ hget h nx = some (boxX x) ∧ ∃ u, getC tm1 1 = (u, false) ∧ RowV h ro n 3 true (encWs (ws ++ wordsX (partsXs (x.args.take k)))) u false ∧ (u = v ∨ ∀ j, j ≤ nx → notAt u j) ∧ ∀ j, j < nx → notAt v j → hget h j = hget hp j)
      (fun r => ∃ tm' n' hp' u, r = some (.exit 0, ⟨tm', n', hp'⟩) ∧ tm'.length = 28 ∧ getC tm' 2 = (.ptr nx 0, false) ∧ nx < n' ∧ hget hp' nx = some (boxX x) ∧ getC tm' 1 = (u, false) ∧ RowV hp' ro n' 3 true (encWs (ws ++ wordsX (partsXs x.args))) u false ∧ (u = v ∨ ∀ j, j ≤ nx → notAt u j) ∧ ∀ j, j < nx → notAt v j → hget hp' j = hget hp j) ?_ ?_ 0
    · have hvx : notAt v nx := by
        intro o n s a e
        rcases hrow with ⟨_, ⟨rfl, _⟩ | ⟨rfl, _⟩⟩ | ⟨id, rfl, _, _, q, _⟩
        · cases e
        · cases e
        · injection e; omega
      generalize hX : R K _ _ _ _ _ = z
      rw [R_body' K ro 44 _ nx hp [] Tryz.func44 rfl Tryz.ntmps44 Tryz.results44 (mu := [30]) rfl (by kernel_rfl) rfl rfl rfl rfl] at hX; simp only [slim, slimO, annO, List.map, List.zip, List.zipWith, List.lookup, holed, Nat.reduceBEq] at hX
      simp [List.replicate, encX_eq, encXs_len] at hX
      generalize hg : X K _ (.loop _) _ = r at hX
      obtain ⟨tm', n1, hp1, u, rfl, g1, g2, g3, g4, g5, g6, g7, g8⟩ : ∃ tm' n' hp' u, r = some (.exit 0, ⟨tm', n', hp'⟩) ∧ tm'.length = 28 ∧ getC tm' 2 = (.ptr nx 0, false) ∧ nx < n' ∧ hget hp' nx = some (boxX x) ∧ getC tm' 1 = (u, false) ∧ RowV hp' ro n' 3 true (encWs (ws ++ wordsX (partsXs x.args))) u false ∧ (u = v ∨ ∀ j, j ≤ nx → notAt u j) ∧ ∀ j, j < nx → notAt v j → hget hp' j = hget hp j := by
        rw [← hg]
        refine hloop _ _ _ (by omega) ⟨by simp, by simp, by simp, by simp, by simp, by omega, by simp [boxX], v, by simp, ?_, .inl rfl, fun j hj _ => ?_⟩
        · have hk := hrow.keep (hp' := (nx, boxX x) :: hp) (n' := nx + 1) (by omega) (fun id hid => hget_old (by omega))
          simpa [partsXs, wordsX, boxX] using hk
        · exact hget_old (by omega)
      clear hg hloop
      have hrn : ro ≤ n1 := by omega
      have hwl : ((ws ++ wordsX (partsXs x.args)).length + 1) * 32 ≤ 140737488355328 := by
        rw [List.length_append, wordsX_len]; omega
      have hun : notAt u nx := by
        rcases g7 with rfl | g7
        · exact hvx
        · exact g7 nx (Nat.le_refl _)
      have happ := g6.app (hp' := (n1, .cells [(.int .i64 x.op, false), (.int .i64 x.n, false), (.str x.name, false)]) :: hp1) (n' := n1 + 1) (b := 32) (k := 1) (ys := [.int .i64 x.op, .int .i64 x.n, .str x.name]) encWs_flat (fun id hid => hget_old (by omega)) (by decide) (by rw [encWs_len]; exact hwl)
      obtain ⟨h3, hap, hh3, _⟩ := happ
      have hbx := g4
      simp only [boxX] at hbx
      have hws : ws ++ wordsX (partsX x) = (ws ++ wordsX (partsXs x.args)) ++ [wordX x] := by rw [partsX_eq, wordsX_app, List.append_assoc]; rfl
      simp [g1, g2, g5, hbx, hap] at hX
      subst hX
      have hfl : flats (encWs ((ws ++ wordsX (partsXs x.args)) ++ [wordX x])) = flats (encWs (ws ++ wordsX (partsXs x.args))) ++ [.int .i64 x.op, .int .i64 x.n, .str x.name] := by rw [encWs_app, flats_app]; rfl
      refine ⟨n1 + 1, n1 + 1 + 1, (n1 + 1, .cells (unown (flats (encWs (ws ++ wordsX (partsXs x.args))) ++ [.int .i64 x.op, .int .i64 x.n, .str x.name]))) :: h3, ?_, by omega, by omega, ?_, ?_⟩
      · rw [hws]; simp [Nat.add_assoc]
      · rw [hws, hfl]; exact hget_same _ _ _
      · intro j hj hjv
        have hju : notAt u j := by
          rcases g7 with rfl | g7
          · exact hjv
          · exact g7 j (by omega)
        rw [hget_cons, if_neg (by omega), hh3 j hju, hget_cons, if_neg (by omega)]
        exact g8 j hj hjv
    · rintro tm1 n h r ⟨ht, t2, t8, t9, t10, hn, hb, u, t1, hr, hu, hfr⟩ hX
      rw [List.take_length] at hr
      simp [ht, t9, t10] at hX
      subst hX
      exact ⟨_, _, rfl, by simp, _, _, _, u, rfl, by simp [ht], by simp [t2], hn, hb, by simp [t1], hr, hu, hfr⟩
    · rintro k tm1 n h r hk ⟨ht, t2, t8, t9, t10, hn, hb, u, t1, hr, hu, hfr⟩ hX
      left
      have hx := List.getElem?_eq_getElem (l := x.args) (i := k) hk
      have htk : partsXs (x.args.take (k + 1)) = partsXs (x.args.take k) ++ partsX x.args[k] := by
        rw [List.take_add_one, hx, partsXs_app]; simp [partsXs]
      have hle : (partsXs (x.args.take (k + 1))).length ≤ (partsXs x.args).length := by
        have : partsXs x.args = partsXs (x.args.take (k + 1)) ++ partsXs (x.args.drop (k + 1)) := by rw [← partsXs_app, List.take_append_drop]
        rw [this, List.length_append]; omega
      generalize x.args[k] = y at hx htk
      rw [htk] at hle ⊢
      rw [List.length_append] at hle
      have hym := List.mem_of_getElem? hx
      have hkl : (k : Int) < x.args.length := by omega
      have hxe := encXs_at hx
      have hw2 : IntKind.i64.wrap ((k : Int) + 1) = (k : Int) + 1 := wrap_small (by omega) (by omega)
      have hrn : ro ≤ n := by omega
      have hkeep := hr.keep (hp' := (n, .cells [(.int .i64 y.op, false), (.int .i64 y.n, false), (.str y.name, false), (.lst (encXs y.args), false)]) :: h) (n' := n + 1) (by omega) (fun id hid => hget_old (by omega))
      obtain ⟨id, n2, hp2, hR, c1, c2, c3, c4⟩ := ih y (d + 1) (by have := args_lt hym; omega) (by omega) (exsF_mem h2 y hym) (ws ++ wordsX (partsXs (x.args.take k))) u ro (n + 1) _ (by rw [List.length_append, wordsX_len]; omega) (by omega) hkeep
      rw [encX_eq] at hR hxe
      simp [ht, t1, t2, t8, t9, t10, hkl, hxe, hw2, hR, hrn] at hX
      subst hX
      have hun : ∀ j, j ≤ nx → notAt v j → notAt u j := by
        intro j hj hv
        rcases hu with rfl | hu
        · exact hv
        · exact hu j hj
      have hvx : notAt u nx := by
        rcases hu with rfl | hu
        · intro o n s a e
          rcases hrow with ⟨_, ⟨rfl, _⟩ | ⟨rfl, _⟩⟩ | ⟨id, rfl, _, _, q, _⟩
          · cases e
          · cases e
          · injection e; omega
        · exact hu nx (Nat.le_refl _)
      have hwa : ws ++ wordsX (partsXs (x.args.take k) ++ partsX y) = (ws ++ wordsX (partsXs (x.args.take k))) ++ wordsX (partsX y) := by rw [wordsX_app, List.append_assoc]
      rw [hwa]
      refine ⟨_, _, _, rfl, by simp [ht], by simp [t2], by simp [t8], by simp [t9], by simp [ht], by omega, ?_, .sl id 0 ((ws ++ wordsX (partsXs (x.args.take k))) ++ wordsX (partsX y)).length 3 true, by simp [ht], ?_, .inr fun j hj o n' s a e => ?_, fun j hj hjv => ?_⟩
      · rw [c4 nx (by omega) hvx, hget_cons, if_neg (by omega)]; exact hb
      · have := RowV.sl (ro := ro) (sz := 3) (m := n2) (ag := true) (xs := encWs ((ws ++ wordsX (partsXs (x.args.take k))) ++ wordsX (partsX y))) c3 (by omega) c2 (by rw [encWs_len, List.length_append, wordsX_len]; have := partsX_pos y; omega)
        rwa [encWs_len] at this
      · injection e; omega
      · rw [c4 j (by omega) (hun j (by omega) hjv), hget_cons, if_neg (by omega)]
        exact hfr j hj hjv
end Go.Proofs.YtkpfkadjmijmlaaGreatDoor.M
/- Rows are frozen; value.Code, CodeOf. -/
namespace Go.Proofs.YtkpfkadjmijmlaaGreatDoor.M
open Go.Proofs Go.Proofs.YtkpfkadjmijmlaaGreatDoor.X
set_option linter.unusedSimpArgs false
set_option linter.unusedVariables false
set_option maxRecDepth 100000
set_option pp.deepTerms false
set_option pp.deepTerms.threshold 6
set_option maxHeartbeats 4000000
theorem mapO_low {lo n : Nat} {hp : Heap} : ∀ {l : List AVal}, (∀ u ∈ l, u.idsLt lo = true) → mapO (fz lo hp n) l = some l := by
  intro l
  induction l with
  | nil => intro _; rfl
  | cons x r ih =>
    intro h
    rw [mapO, ih fun u hu => h u (.tail _ hu)]
    have hx := h x (.head _)
    have : fz lo hp n x = some x := by cases n <;> simp [fz, hx]
    rw [this]
theorem chunks_flats {sz : Nat} : ∀ {xs : List AVal}, (∀ x ∈ xs, ∃ cs, x = .agg cs ∧ cs.length = sz) → chunks sz xs.length (flats xs) = xs := by
  intro xs
  induction xs with
  | nil => intro _; rfl
  | cons x r ih =>
    intro h
    obtain ⟨cs, rfl, hc⟩ := h x (.head _)
    have e : flats (AVal.agg cs :: r) = cs ++ flats r := rfl
    rw [e, List.length_cons, chunks, List.take_left' hc, List.drop_left' hc, ih fun x hx => h x (.tail _ hx)]
theorem fz_rowA {lo id sz : Nat} {hp : Heap} {xs : List AVal} (hid : hget hp id = some (.cells (unown (flats xs)))) (hlo : lo ≤ id) (hsz : 0 < sz) (hx : ∀ x ∈ xs, ∃ cs, x = .agg cs ∧ cs.length = sz) (hi : ∀ u ∈ flats xs, u.idsLt lo = true) : fz lo hp 1 (.sl id 0 xs.length sz true) = some (.lst xs) := by
  have hs : ∀ x ∈ xs, x.flat.length = sz := fun x q => by obtain ⟨cs, rfl, hc⟩ := hx x q; exact hc
  have e : fz lo hp 1 (.sl id 0 xs.length sz true) = if (AVal.sl id 0 xs.length sz true).idsLt lo then some (.sl id 0 xs.length sz true) else fzv lo hp (fz lo hp 0) (.sl id 0 xs.length sz true) := rfl
  rw [e, if_neg (by simp; omega)]
  simp only [fzv, hid]
  have hlen := flats_len hs
  have e2 : (((unown (flats xs)).drop 0).take (xs.length * sz)).map (·.1) = flats xs := by
    rw [List.drop_zero, ← hlen, ← unown_len (flats xs), List.take_length, unown_fst]
  rw [if_pos ⟨hlo, hsz, .inl trivial, by rw [unown_len, hlen]; omega⟩, e2, mapO_low hi]
  simp [chop, chunks_flats hx]
theorem FZ_rowA {lo id sz : Nat} {hp : Heap} {xs : List AVal} (hid : hget hp id = some (.cells (unown (flats xs)))) (hlo : lo ≤ id) (hsz : 0 < sz) (hx : ∀ x ∈ xs, ∃ cs, x = .agg cs ∧ cs.length = sz) (hi : ∀ u ∈ flats xs, u.idsLt lo = true) : FZ lo hp (.sl id 0 xs.length sz true) = some (.lst xs) := FZ_iff.2 ⟨1, fz_rowA hid hlo hsz hx hi⟩
theorem FZ_pair {lo : Nat} {hp : Heap} {v a w : AVal} (hv : v.idsLt lo = false) (h : FZ lo hp v = some a) (hw : w.idsLt lo = true) : FZ lo hp (.tup [v, w]) = some (.tup [a, w]) := by
  obtain ⟨n, hn⟩ := FZ_iff.1 h
  refine FZ_iff.2 ⟨n + 1, ?_⟩
  have e : fz lo hp (n + 1) (.tup [v, w]) = if (AVal.tup [v, w]).idsLt lo then some (.tup [v, w]) else fzv lo hp (fz lo hp n) (.tup [v, w]) := rfl
  rw [e, if_neg (by simp [hv])]
  have h2 : fz lo hp n w = some w := by cases n <;> simp [fz, hw]
  simp only [fzv, mapO, hn, h2]
  rfl
theorem Sealed_FZ {nx n' : Nat} {hp h' : Heap} {v u : AVal} {own : Bool} (h : FZ nx h' v = some u) (hu : u.idsLt nx = true) (hv : v.idsLt nx = false) : Sealed nx hp (some ⟨v, own, n', h'⟩) = some ⟨u, false, nx, hp⟩ := by
  simp only [Sealed, h, hu, if_true, slOwn, hv, Bool.and_false]
theorem Tidied_FZ {nx n' : Nat} {h' : Heap} {v u : AVal} {own : Bool} (h : FZ nx h' v = some u) (hu : u.idsLt nx = true) (hv : v.idsLt nx = false) (hc : hclean nx h' = true) : Tidied nx (some ⟨v, own, n', h'⟩) = some ⟨u, false, nx, hlow nx h'⟩ := by
  simp only [Tidied, h, hu, hc, Bool.and_self, if_true, slOwn, hv, Bool.and_false]
theorem encWs_agg {l : List Wd} : ∀ x ∈ encWs l, ∃ cs, x = .agg cs ∧ cs.length = 3 := by
  intro x hx
  obtain ⟨w, _, rfl⟩ := List.mem_map.1 hx
  exact ⟨_, rfl, rfl⟩
theorem encWs_low {l : List Wd} {lo : Nat} : ∀ u ∈ flats (encWs l), u.idsLt lo = true := by
  intro u hu
  unfold flats at hu
  obtain ⟨x, hx, hu⟩ := List.mem_flatMap.1 hu
  obtain ⟨w, _, rfl⟩ := List.mem_map.1 hx
  simp at hu
  rcases hu with rfl | rfl | rfl <;> simp
theorem FZ_words {lo id : Nat} {hp : Heap} {ws : List Wd} (hid : hget hp id = some (.cells (unown (flats (encWs ws))))) (hlo : lo ≤ id) : FZ lo hp (.sl id 0 ws.length 3 true) = some (.lst (encWs ws)) := by
  have := FZ_rowA (sz := 3) hid hlo (by decide) encWs_agg encWs_low
  rwa [encWs_len] at this
theorem vCode_R (x : Ex) (ro nx : Nat) (hp : Heap) : R K 10 [encX x] ro nx hp = some ⟨.tup [.lst (if exF x 1 ≠ 0 then [] else encWs (wordsX (partsX x))), .int .i64 (exF x 1)], false, nx, hp⟩ := by
  have hce := checkExpr_R x
  by_cases c : exF x 1 = 0
  · have hb := cnt_bound c (by decide)
    obtain ⟨id, n', hp', hR, q1, q2, q3, q4⟩ := code_R _ x 1 (Nat.lt_succ_self _) (by decide) c [] .nils 0 1 [(0, boxX x)] (by simp only [List.length_nil]; omega) (by decide) (.inl ⟨rfl, .inr ⟨rfl, rfl⟩⟩)
    rw [encX_eq] at hR hce
    simp only [boxX, List.nil_append] at hR q3
    have hfz : FZ 0 hp' (.tup [.sl id 0 (wordsX (partsX x)).length 3 true, .int .i64 0]) = some (.tup [.lst (encWs (wordsX (partsX x))), .int .i64 0]) := FZ_pair (by simp) (FZ_words q3 (by omega)) (by simp)
    have hS := Sealed_FZ (hp := []) (own := false) (n' := n') hfz (by simp) (by simp)
    rw [R_val' K ro 10 _ nx hp [] Tryz.func10 rfl Tryz.ntmps10 Tryz.results10 (mu := [30]) rfl (by kernel_rfl) rfl rfl rfl]; simp only [slim, slimO, annO, List.map, List.zip, List.zipWith, List.lookup, holed, Nat.reduceBEq]
    rw [wordsX_len] at hS hR
    simp [List.replicate, encX_eq, hce, c, hR, hS]
  · have c' : exF x 1 ≠ 0 := c
    rw [encX_eq] at hce
    rw [R_val' K ro 10 _ nx hp [] Tryz.func10 rfl Tryz.ntmps10 Tryz.results10 (mu := [30]) rfl (by kernel_rfl) rfl rfl rfl]; simp only [slim, slimO, annO, List.map, List.zip, List.zipWith, List.lookup, holed, Nat.reduceBEq]
    simp [List.replicate, encX_eq, hce, c']
/-- What CodeOf leaves. -/
theorem codeOf_R {x : Ex} (c : exF x 1 = 0) (ro nx : Nat) (hp : Heap) (hro : ro ≤ nx) : ∃ id n' hp', R K 16 [encX x] ro nx hp = some ⟨.sl id 0 (wordsX (partsX x)).length 3 true, false, n', hp'⟩ ∧ nx ≤ id ∧ id < n' ∧ hget hp' id = some (.cells (unown (flats (encWs (wordsX (partsX x)))))) ∧ (∀ j, j < nx → hget hp' j = hget hp j) ∧ (Fresh nx hp → hlow nx hp' = hp ∧ Fresh n' hp') := by
  have e := LB_open (P := Tryz.prog) [] 0 Tryz.func16 rfl rfl (by kernel_rfl)
  simp only [slim, slimO, annO, List.map, List.zip, List.zipWith, List.lookup, holed, loopsOf, List.nil_append, List.cons_append, List.getD_cons_zero, List.getD_cons_succ, Nat.reduceBEq] at e
  have hb := cnt_bound c (by decide)
  have hpt := fun ro nx hp => parts_R _ x 1 (Nat.lt_succ_self _) (by decide) c ro nx hp
  have hpos := partsX_pos x
  rw [encX_eq] at hpt
  generalize partsX x = ps at hb hpt hpos ⊢
  have hloop := rounds (K := K) (ro := ⟨ro, [30]⟩) e ps.length (fun k tm1 n h => tm1.length = 25 ∧ getC tm1 7 = (.lst (encXs ps), true) ∧ getC tm1 8 = (.int .i64 ps.length, false) ∧ getC tm1 9 = (.int .i64 k, false) ∧ nx ≤ n ∧ (∃ u f, getC tm1 3 = (u, f) ∧ RowV h nx n 3 true (encWs (wordsX (ps.take k))) u f ∧ u ≠ .nils) ∧ (∀ j, j < nx → hget h j = hget hp j) ∧ (Fresh nx hp → hlow nx h = hp ∧ Fresh n h))
    (fun r => ∃ tm' n' hp' u f, r = some (.exit 0, ⟨tm', n', hp'⟩) ∧ tm'.length = 25 ∧ nx ≤ n' ∧ getC tm' 3 = (u, f) ∧ RowV hp' nx n' 3 true (encWs (wordsX ps)) u f ∧ (∀ j, j < nx → hget hp' j = hget hp j) ∧ (Fresh nx hp → hlow nx hp' = hp ∧ Fresh n' hp')) ?_ ?_ 0
  · generalize hX : R K _ _ _ _ _ = z
    rw [R_body' K ro 16 _ nx hp [] Tryz.func16 rfl Tryz.ntmps16 Tryz.results16 (mu := [30]) rfl (by kernel_rfl) rfl rfl rfl rfl] at hX; simp only [slim, slimO, annO, List.map, List.zip, List.zipWith, List.lookup, holed, Nat.reduceBEq] at hX
    simp [List.replicate, encX_eq, encXs_len, hpt] at hX
    generalize hg : X K _ (.loop _) _ = r at hX
    obtain ⟨tm', n1, hp1, u, f, rfl, g1, g2, g3, g4, g5, g6⟩ : ∃ tm' n' hp' u f, r = some (.exit 0, ⟨tm', n', hp'⟩) ∧ tm'.length = 25 ∧ nx ≤ n' ∧ getC tm' 3 = (u, f) ∧ RowV hp' nx n' 3 true (encWs (wordsX ps)) u f ∧ (∀ j, j < nx → hget hp' j = hget hp j) ∧ (Fresh nx hp → hlow nx hp' = hp ∧ Fresh n' hp') := by
      rw [← hg]
      refine hloop _ _ _ (by omega) ⟨by simp, by simp, by simp, by simp, by omega, ⟨.lst [], true, by simp, .inl ⟨rfl, .inl ⟨rfl, rfl⟩⟩, by simp⟩, fun j hj => hget_old (by omega), fun hh => ?_⟩
      exact ⟨by rw [hlow_cons, if_neg (by omega)]; exact hh, hh.push _⟩
    clear hg hloop
    rcases g4 with ⟨q, _⟩ | ⟨id, rfl, rfl, k3, k4, k5, k6⟩
    · exfalso
      have := congrArg List.length q
      simp at this
      rw [this] at hpos
      exact absurd hpos (by decide)
    · simp [g1, g3] at hX
      subst hX
      exact ⟨id, n1, hp1, by simp, k3, k4, k6, g5, g6⟩
  · rintro tm1 n h r ⟨ht, t7, t8, t9, hn, ⟨u, f, t3, hr, hu⟩, hfr, hlw⟩ hX
    rw [List.take_length] at hr
    simp [ht, t8, t9] at hX
    subst hX
    exact ⟨_, _, rfl, by simp, _, _, _, u, f, rfl, by simp [ht], hn, by simp [t3], hr, hfr, hlw⟩
  · rintro k tm1 n h r hk ⟨ht, t7, t8, t9, hn, ⟨u, f, t3, hr, hu⟩, hfr, hlw⟩ hX
    left
    have hx := List.getElem?_eq_getElem (l := ps) (i := k) hk
    have htk : wordsX (ps.take (k + 1)) = wordsX (ps.take k) ++ [wordX ps[k]] := by
      rw [List.take_add_one, hx, wordsX_app]; rfl
    have hwl : (wordsX (ps.take k)).length = k := by rw [wordsX_len, List.length_take]; omega
    generalize ps[k] = y at hx htk
    have hkl : (k : Int) < ps.length := by omega
    have hxe := encXs_at hx
    have hw2 : IntKind.i64.wrap ((k : Int) + 1) = (k : Int) + 1 := wrap_small (by omega) (by omega)
    have hrn : ro ≤ n := by omega
    rw [encX_eq] at hxe
    have hr0 : RowV h ro n 3 true (encWs (wordsX (ps.take k))) u f := by
      rcases hr with hr | ⟨id, k1, k2, k3, k4⟩
      · exact .inl hr
      · exact .inr ⟨id, k1, k2, by omega, k4⟩
    obtain ⟨h3, hap, hh3, hd3⟩ := hr0.app (hp' := (n + 1, .cells [(.int .i64 y.op, false), (.int .i64 y.n, false), (.str y.name, false)]) :: (n, .cells [(.int .i64 y.op, false), (.int .i64 y.n, false), (.str y.name, false), (.lst (encXs y.args), false)]) :: h) (n' := n + 1 + 1) (b := 32) (k := 1) (ys := [.int .i64 y.op, .int .i64 y.n, .str y.name]) encWs_flat (fun id hid => by rw [hget_old (by omega), hget_old (by omega)]) (by decide) (by rw [encWs_len, hwl]; omega)
    have hfl : flats (encWs (wordsX (ps.take k) ++ [wordX y])) = flats (encWs (wordsX (ps.take k))) ++ [.int .i64 y.op, .int .i64 y.n, .str y.name] := by rw [encWs_app, flats_app]; rfl
    have hnj : ∀ j, j < nx → notAt u j := by
      intro j hj o n' s a e
      rcases hr with ⟨_, ⟨rfl, _⟩ | ⟨rfl, _⟩⟩ | ⟨id, rfl, _, q, _⟩
      · cases e
      · cases e
      · injection e; omega
    have hlw3 : Fresh nx hp → hlow nx h3 = hp ∧ Fresh (n + 1 + 1) h3 := by
      intro hh
      obtain ⟨w1, w2⟩ := hlw hh
      have w3 := (w2.push (.cells [(.int .i64 y.op, false), (.int .i64 y.n, false), (.str y.name, false), (.lst (encXs y.args), false)])).push (.cells [(.int .i64 y.op, false), (.int .i64 y.n, false), (.str y.name, false)])
      have w4 : hlow nx ((n + 1, .cells [(.int .i64 y.op, false), (.int .i64 y.n, false), (.str y.name, false)]) :: (n, .cells [(.int .i64 y.op, false), (.int .i64 y.n, false), (.str y.name, false), (.lst (encXs y.args), false)]) :: h) = hp := by rw [hlow_cons, if_neg (by omega), hlow_cons, if_neg (by omega)]; exact w1
      rcases hd3 with rfl | ⟨id, o, l, s, a, rfl, rfl⟩
      · exact ⟨w4, w3⟩
      · refine ⟨?_, w3.hdel id⟩
        rw [hlow_hdel' _ _ _ ?_, w4]
        exact Nat.le_of_not_lt fun q => hnj id q o l s a rfl
    rw [htk]
    have key : ∀ (tm2 : List Cell) (h4 : Heap), h4 = (n + 1 + 1, ABlk.cells (unown (flats (encWs (wordsX (ps.take k))) ++ [.int .i64 y.op, .int .i64 y.n, .str y.name]))) :: h3 → tm2.length = 25 → getC tm2 7 = (.lst (encXs ps), true) → getC tm2 8 = (.int .i64 ps.length, false) → getC tm2 9 = (.int .i64 (k + 1 : Nat), false) → getC tm2 3 = (.sl (n + 1 + 1) 0 (k + 1) 3 true, false) → tm2.length = 25 ∧ getC tm2 7 = (.lst (encXs ps), true) ∧ getC tm2 8 = (.int .i64 ps.length, false) ∧ getC tm2 9 = (.int .i64 (k + 1 : Nat), false) ∧ nx ≤ n + 1 + 1 + 1 ∧ (∃ u f, getC tm2 3 = (u, f) ∧ RowV h4 nx (n + 1 + 1 + 1) 3 true (encWs (wordsX (ps.take k) ++ [wordX y])) u f ∧ u ≠ .nils) ∧ (∀ j, j < nx → hget h4 j = hget hp j) ∧ (Fresh nx hp → hlow nx h4 = hp ∧ Fresh (n + 1 + 1 + 1) h4) := by
      intro tm2 h4 e4 p1 p2 p3 p4 p5
      subst e4
      refine ⟨p1, p2, p3, p4, by omega, ⟨_, _, p5, ?_, by simp⟩, fun j hj => ?_, fun hh => ⟨?_, (hlw3 hh).2.push _⟩⟩
      · have := RowV.sl (hp := (n + 1 + 1, ABlk.cells (unown (flats (encWs (wordsX (ps.take k))) ++ [.int .i64 y.op, .int .i64 y.n, .str y.name]))) :: h3) (ro := nx) (sz := 3) (m := n + 1 + 1 + 1) (ag := true) (n := n + 1 + 1) (xs := encWs (wordsX (ps.take k) ++ [wordX y])) (by rw [hfl]; exact hget_same _ _ _) (by omega) (by omega) (by simp)
        rwa [encWs_len, List.length_append, hwl] at this
      · rw [hget_old (by omega), hh3 j (hnj j hj), hget_old (by omega), hget_old (by omega), hfr j hj]
      · rw [hlow_cons, if_neg (by omega)]; exact (hlw3 hh).1
    have hk1 : (encWs (wordsX (ps.take k))).length = k := by rw [encWs_len, hwl]
    rw [hk1] at hap
    rcases hr with ⟨_, ⟨rfl, rfl⟩ | ⟨rfl, rfl⟩⟩ | ⟨id, rfl, rfl, _⟩
    · simp [ht, t3, t7, t8, t9, hkl, hxe, hw2, hap, hrn, -apM_nil] at hX
      subst hX
      refine ⟨_, _, _, rfl, ?_⟩
      refine key _ _ (by simp [unown]) ?_ ?_ ?_ ?_ ?_
      all_goals simp [ht, t7, t8]
    · exact absurd rfl hu
    · rw [hk1] at t3 hap
      simp [ht, t3, t7, t8, t9, hkl, hxe, hw2, hap, hrn] at hX
      subst hX
      refine ⟨_, _, _, rfl, ?_⟩
      refine key _ _ (by simp [unown]) ?_ ?_ ?_ ?_ ?_
      all_goals simp [ht, t7, t8]
end Go.Proofs.YtkpfkadjmijmlaaGreatDoor.M
/- The stack of code; BackOf, ExecOf. -/
namespace Go.Proofs.YtkpfkadjmijmlaaGreatDoor.M
open Go.Proofs Go.Proofs.YtkpfkadjmijmlaaGreatDoor.X
set_option linter.unusedSimpArgs false
set_option linter.unusedVariables false
set_option maxRecDepth 100000
set_option pp.deepTerms false
set_option pp.deepTerms.threshold 6
set_option maxHeartbeats 4000000
def arN (w : Wd) : Nat := (arityF w.op).toNat
/-- One word on the stack. -/
def stk1 {α : Type} (f : Wd → List α → α) (w : Wd) (s : List α) : List α := s.take (s.length - arN w) ++ [f w (s.drop (s.length - arN w))]
def stk {α : Type} (f : Wd → List α → α) : List Wd → List α → List α
  | [], s => s
  | w :: r, s => stk f r (stk1 f w s)
theorem stk1_len {α : Type} (f : Wd → List α → α) (w : Wd) (s : List α) : (stk1 f w s).length = s.length - arN w + 1 := by simp [stk1]
/-- What holds of code that is right, while it runs. -/
structure Runs {α : Type} (f : Wd → List α → α) (c : List Wd) (k : Nat) (s : List α) (m : Int) : Prop where
  go : codeGo (c.drop k) s.length m = codeGo c 0 0
  st : stk f (c.drop k) s = stk f c []
  le : s.length ≤ k
theorem Runs.start {α : Type} (f : Wd → List α → α) (c : List Wd) : Runs f c 0 [] 0 := ⟨rfl, rfl, Nat.le_refl _⟩
theorem Runs.step {α : Type} {f : Wd → List α → α} {c : List Wd} {k : Nat} {s : List α} {m : Int} (h : Runs f c k s m) (hok : (codeGo c 0 0).1 = 0) (hk : k < c.length) {w : Wd} (hw : c[k]? = some w) :
    wordF w = 0 ∧ (arN w : Int) = arityF w.op ∧ arN w ≤ s.length ∧ Runs f c (k + 1) (stk1 f w s) (max m ((stk1 f w s).length : Int)) := by
  have hw' : c[k] = w := by rw [List.getElem?_eq_getElem hk] at hw; injection hw
  have h1 := h.go
  have h2 := h.st
  rw [List.drop_eq_getElem_cons hk, hw'] at h1 h2
  rw [codeGo] at h1
  by_cases c1 : wordF w = 0
  · have ha := wordF_arity c1
    have har : (arN w : Int) = arityF w.op := by unfold arN; omega
    rw [if_neg (by simpa using c1)] at h1
    by_cases c2 : (s.length : Int) < arityF w.op
    · rw [if_pos c2] at h1
      rw [← h1] at hok
      cases hok
    · rw [if_neg c2] at h1
      have hle : arN w ≤ s.length := by omega
      have hl : (((stk1 f w s).length : Nat) : Int) = s.length + (1 - arityF w.op) := by rw [stk1_len]; omega
      refine ⟨c1, har, hle, ⟨?_, ?_, ?_⟩⟩
      · rw [hl]; exact h1
      · exact h2
      · rw [stk1_len]; have := h.le; omega
  · rw [if_pos c1] at h1
    rw [← h1] at hok
    exact absurd hok c1
theorem Runs.done {α : Type} {f : Wd → List α → α} {c : List Wd} {s : List α} {m : Int} (h : Runs f c c.length s m) : codeGo c 0 0 = (0, (s.length : Int), m) ∧ stk f c [] = s := by
  have h1 := h.go
  have h2 := h.st
  rw [List.drop_length] at h1 h2
  exact ⟨h1.symm, h2.symm⟩
theorem codeF_zero {c : List Wd} (h : codeF c = 0) : c.length ≤ 10000 ∧ (codeGo c 0 0).1 = 0 ∧ (codeGo c 0 0).2.1 = 1 := by
  unfold codeF at h
  split at h
  · cases h
  · split at h
    · rename_i q; exact absurd h q
    · rename_i q
      split at h
      · cases h
      · rename_i q2
        exact ⟨by omega, by simpa using q, by simpa using q2⟩
theorem stk_one {α : Type} (f : Wd → List α → α) {c : List Wd} {s : List α} {m : Int} (h : codeF c = 0) (hr : Runs f c c.length s m) : ∃ x, s = [x] ∧ stk f c [] = [x] := by
  obtain ⟨h1, h2⟩ := hr.done
  have := (codeF_zero h).2.2
  rw [h1] at this
  have hl : s.length = 1 := by simp only at this; omega
  match s, hl with
  | [x], _ => exact ⟨x, rfl, h2⟩
def fB (w : Wd) (l : List Ex) : Ex := .mk w.op w.n w.name l
def exZ : Ex := .mk 0 0 ByteArray.empty []
@[simp] theorem exZ_op : exZ.op = 0 := rfl
@[simp] theorem exZ_n : exZ.n = 0 := rfl
@[simp] theorem exZ_name : exZ.name = ByteArray.empty := rfl
@[simp] theorem exZ_args : exZ.args = [] := rfl
def backX (c : List Wd) : Ex := (stk fB c []).headD exZ
def backE (c : List Wd) : Ex := if exF (backX c) 1 ≠ 0 then exZ else backX c
theorem encXs_drop (l : List Ex) (a : Nat) : (encXs l).drop a = encXs (l.drop a) := by rw [encXs_eq, encXs_eq, List.map_drop]
theorem encXs_take (l : List Ex) (a : Nat) : (encXs l).take a = encXs (l.take a) := by rw [encXs_eq, encXs_eq, List.map_take]
theorem encXs_all (l : List Ex) : (encXs l).take l.length = encXs l := by rw [encXs_take, List.take_length]
theorem encXs_snoc (l : List Ex) (x : Ex) : encXs l ++ [.agg [.int .i64 x.op, .int .i64 x.n, .str x.name, .lst (encXs x.args)]] = encXs (l ++ [x]) := by rw [encXs_app, ← encX_eq]; rfl
def BackL (len id v : Nat) (c : List Wd) (r : Option (AExit × St)) : Prop := ∃ tm' n' hp' x, r = some (.exit id, ⟨tm', n', hp'⟩) ∧ tm'.length = len ∧ getC tm' 2 = (.ptr 0 0, false) ∧ getC tm' v = (.lst (encXs [x]), true) ∧ backX c = x ∧ 1 ≤ n' ∧ hget hp' 0 = some (.cells [(.int .i64 0, false), (.int .i64 0, false), (.str ByteArray.empty, false), (.lst [], true)])
theorem backOf_loop (c : List Wd) (hc : codeF c = 0) (tm : List Cell) (nx : Nat) (hp : Heap) (ht : tm.length = 55) (h2 : getC tm 2 = (.ptr 0 0, false)) (h10 : getC tm 10 = (.lst (encWs c), false)) (h11 : getC tm 11 = (.int .i64 c.length, false)) (h12 : getC tm 12 = (.int .i64 0, false)) (h4 : getC tm 4 = (.lst [], true)) (hn : 1 ≤ nx)
    (hb : hget hp 0 = some (.cells [(.int .i64 0, false), (.int .i64 0, false), (.str ByteArray.empty, false), (.lst [], true)])) :
    BackL 55 0 4 c (X K ⟨0, []⟩ (.loop (LB Tryz.prog 18 [] 0)) ⟨tm, nx, hp⟩) := by
  have e := LB_open (P := Tryz.prog) [] 0 Tryz.func18 rfl rfl (by kernel_rfl)
  simp only [slim, slimO, annO, List.map, List.zip, List.zipWith, List.lookup, holed, loopsOf, List.nil_append, List.cons_append, List.getD_cons_zero, List.getD_cons_succ, Nat.reduceBEq] at e
  obtain ⟨hl, hok, hone⟩ := codeF_zero hc
  refine rounds e c.length (fun k tm n hp => tm.length = 55 ∧ getC tm 2 = (.ptr 0 0, false) ∧ getC tm 10 = (.lst (encWs c), false) ∧ getC tm 11 = (.int .i64 c.length, false) ∧ getC tm 12 = (.int .i64 k, false) ∧ (∃ s m, getC tm 4 = (.lst (encXs s), true) ∧ Runs fB c k s m) ∧ 1 ≤ n ∧ hget hp 0 = some (.cells [(.int .i64 0, false), (.int .i64 0, false), (.str ByteArray.empty, false), (.lst [], true)])) _ ?_ ?_ 0 tm nx hp (by omega) ⟨ht, h2, h10, h11, h12, ⟨[], 0, h4, Runs.start fB c⟩, hn, hb⟩
  · rintro tm n hp r ⟨ht, h2, h10, h11, h12, ⟨s, m, h4, hr⟩, hn, hb⟩ hX
    simp [ht, h11, h12] at hX
    subst hX
    obtain ⟨x, rfl, hx⟩ := stk_one fB hc hr
    exact ⟨_, _, rfl, by simp, _, _, _, x, rfl, by simp [ht], by simp [h2], by simp [h4], by rw [backX, hx]; rfl, hn, hb⟩
  · rintro k tm n hp r hk ⟨ht, h2, h10, h11, h12, ⟨s, m, h4, hr⟩, hn, hb⟩ hX
    left
    have hx := List.getElem?_eq_getElem (l := c) (i := k) hk
    generalize c[k] = x at hx
    obtain ⟨c1, har, hle, hr'⟩ := hr.step hok hk hx
    have hkl : (k : Int) < c.length := by omega
    have hxe := encWs_at hx
    have hw2 : IntKind.i64.wrap ((k : Int) + 1) = (k : Int) + 1 := wrap_small (by omega) (by omega)
    have ha := wordF_arity c1
    have hop := operands_eq ha
    have hsk := hr.le
    have hw3 : IntKind.i64.wrap ((s.length : Int) - arityF x.op) = ((s.length - arN x : Nat) : Int) := by rw [wrap_small (by omega) (by omega)]; omega
    have hsa : s.length - arN x ≤ s.length := by omega
    have hst : stk1 fB x s = s.take (s.length - arN x) ++ [fB x (s.drop (s.length - arN x))] := rfl
    rw [hst] at hr'
    generalize s.length - arN x = a at hw3 hsa hr'
    have hn0 : ¬ n = 0 := by omega
    have hn1 : ¬ n + 1 = 0 := by omega
    have hn0' : ¬ 0 = n := by omega
    have hn1' : ¬ 0 = n + 1 := by omega
    have hl1 : (s.length - a) * 56 ≤ 140737488355328 := by omega
    have hl2 : (a + 1) * 56 ≤ 140737488355328 := by omega
    have hsn := encXs_snoc (s.take a) (fB x (s.drop a))
    simp only [fB, Ex.op, Ex.n, Ex.name, Ex.args] at hsn hr'
    simp [ht, h2, h4, h10, h11, h12, hkl, hxe, hw2, hop, hw3, hsa, encXs_drop, encXs_take, encXs_all, hl1, hl2, hn0, hn1, hn0', hn1', hsn] at hX
    subst hX
    refine ⟨_, _, _, rfl, by simp [ht], by simp [h2], by simp [h10], by simp [h11], by simp [ht], ⟨_, _, by simp [ht], hr'⟩, by omega, by simp [hn0, hn1, hn0', hn1', hb]⟩
theorem backOf_R {c : List Wd} (hc : codeF c = 0) (ro nx : Nat) (hp : Heap) : R K 18 [.lst (encWs c)] ro nx hp = some ⟨.tup [.agg [.int .i64 (backE c).op, .int .i64 (backE c).n, .str (backE c).name, .lst (encXs (backE c).args)], .int .i64 (exF (backX c) 1)], false, nx, hp⟩ := by
  rw [R_val' K ro 18 _ nx hp [] Tryz.func18 rfl Tryz.ntmps18 Tryz.results18 (mu := []) rfl (by kernel_rfl) rfl rfl rfl]; simp only [slim, slimO, annO, List.map, List.zip, List.zipWith, List.lookup, holed, Nat.reduceBEq]
  simp [List.replicate]
  generalize hb : X K _ (.loop _) _ = r
  obtain ⟨tm', n', hp', x, rfl, t1, t2, t3, hx, hn, hg⟩ : BackL 55 0 4 c r := by
    rw [← hb]
    exact backOf_loop c hc _ _ _ (by simp) (by simp) (by simp) (by simp) (by simp) (by simp) (by omega) (by simp)
  clear hb
  have hef := exprFaultQ_R x
  rw [encX_eq] at hef
  unfold backE
  rw [hx]
  have hn0 : ¬ n' = 0 := by omega
  by_cases c1 : exF x 1 = 0
  · simp [c1, t1, t2, t3, hg, hef, encXs, encX_eq, hn0]
  · have c2 : exF x 1 ≠ 0 := c1
    simp [c1, t1, t2, t3, hg, hef, encXs, encX_eq, hn0]
end Go.Proofs.YtkpfkadjmijmlaaGreatDoor.M
/- ExecOf. -/
namespace Go.Proofs.YtkpfkadjmijmlaaGreatDoor.M
open Go.Proofs Go.Proofs.YtkpfkadjmijmlaaGreatDoor.X
set_option linter.unusedSimpArgs false
set_option linter.unusedVariables false
set_option maxRecDepth 100000
set_option pp.deepTerms false
set_option pp.deepTerms.threshold 6
set_option maxHeartbeats 4000000
def fE (t : ByteArray → Int) (w : Wd) (l : List Int) : Int := if w.op = 1 then w.n else if w.op = 2 then t w.name else appV w.op l
def execX (t : ByteArray → Int) (c : List Wd) : Int := (stk (fE t) c []).headD 0
def mostX (c : List Wd) : Int := (codeGo c 0 0).2.2
theorem ints'_drop (l : List Int) (a : Nat) : (ints' l).drop a = ints' (l.drop a) := by simp [ints']
theorem ints'_take (l : List Int) (a : Nat) : (ints' l).take a = ints' (l.take a) := by simp [ints']
theorem ints'_all (l : List Int) : (ints' l).take l.length = ints' l := by rw [ints'_take, List.take_length]
theorem word_op {w : Wd} (h : wordF w = 0) : 1 ≤ w.op ∧ w.op ≤ 9 := by
  have h1 := wordF_arity h
  have h2 := arity_neg w.op
  rw [decide_eq_false h1] at h2
  have : within w.op 1 9 = true := by cases hq : within w.op 1 9 <;> simp_all
  simpa [within] using this
def ExecL (len id v mo : Nat) (f : Bool) (t : ByteArray → Int) (c : List Wd) (r : Option (AExit × St)) : Prop := ∃ tm' n' hp' x, r = some (.exit id, ⟨tm', n', hp'⟩) ∧ tm'.length = len ∧ getC tm' v = (.lst [.int .i64 x], true) ∧ getC tm' mo = (.int .i64 (mostX c), false) ∧ execX t c = x
theorem execOf_loop (c : List Wd) (hc : codeF c = 0) (xs : List Sl) (mi : Nat) (tm : List Cell) (nx : Nat) (hp : Heap) (ht : tm.length = 61) (h6 : getC tm 6 = (.map mi, false)) (h15 : getC tm 15 = (.lst (encWs c), false)) (h16 : getC tm 16 = (.int .i64 c.length, false)) (h17 : getC tm 17 = (.int .i64 0, false)) (h7 : getC tm 7 = (.lst [], true)) (h8 : getC tm 8 = (.int .i64 0, false)) (hn : mi < nx)
    (hb : hget hp mi = some (.map (mapSl xs))) :
    ExecL 61 0 7 8 true (lookV xs) c (X K ⟨0, []⟩ (.loop (LB Tryz.prog 19 [] 0)) ⟨tm, nx, hp⟩) := by
  have e := LB_open (P := Tryz.prog) [] 0 Tryz.func19 rfl rfl (by kernel_rfl)
  simp only [slim, slimO, annO, List.map, List.zip, List.zipWith, List.lookup, holed, loopsOf, List.nil_append, List.cons_append, List.getD_cons_zero, List.getD_cons_succ, Nat.reduceBEq] at e
  obtain ⟨hl, hok, hone⟩ := codeF_zero hc
  refine rounds e c.length (fun k tm n hp => tm.length = 61 ∧ getC tm 6 = (.map mi, false) ∧ getC tm 15 = (.lst (encWs c), false) ∧ getC tm 16 = (.int .i64 c.length, false) ∧ getC tm 17 = (.int .i64 k, false) ∧ (∃ s m, getC tm 7 = (.lst (ints' s), true) ∧ getC tm 8 = (.int .i64 m, false) ∧ Runs (fE (lookV xs)) c k s m) ∧ mi < n ∧ hget hp mi = some (.map (mapSl xs))) _ ?_ ?_ 0 tm nx hp (by omega) ⟨ht, h6, h15, h16, h17, ⟨[], 0, h7, h8, Runs.start _ c⟩, hn, hb⟩
  · rintro tm n hp r ⟨ht, h6, h15, h16, h17, ⟨s, m, h7, h8, hr⟩, hn, hb⟩ hX
    simp [ht, h16, h17] at hX
    subst hX
    obtain ⟨x, rfl, hx⟩ := stk_one (fE (lookV xs)) hc hr
    have hm := hr.done.1
    exact ⟨_, _, rfl, by simp, _, _, _, x, rfl, by simp [ht], by simp [h7, ints'], by simp [h8, mostX, hm], by rw [execX, hx]; rfl⟩
  · rintro k tm n hp r hk ⟨ht, h6, h15, h16, h17, ⟨s, m, h7, h8, hr⟩, hn, hb⟩ hX
    left
    have hx := List.getElem?_eq_getElem (l := c) (i := k) hk
    generalize c[k] = x at hx
    obtain ⟨c1, har, hle, hr'⟩ := hr.step hok hk hx
    have hkl : (k : Int) < c.length := by omega
    have hxe := encWs_at hx
    have hw2 : IntKind.i64.wrap ((k : Int) + 1) = (k : Int) + 1 := wrap_small (by omega) (by omega)
    have ha := wordF_arity c1
    have hwo := word_op c1
    have hop := operands_eq ha
    have hsk := hr.le
    have hw3 : IntKind.i64.wrap ((s.length : Int) - arityF x.op) = ((s.length - arN x : Nat) : Int) := by rw [wrap_small (by omega) (by omega)]; omega
    have hsa : s.length - arN x ≤ s.length := by omega
    have hdl : ((s.drop (s.length - arN x)).length : Int) = arityF x.op := by rw [List.length_drop]; omega
    have hst : stk1 (fE (lookV xs)) x s = s.take (s.length - arN x) ++ [fE (lookV xs) x (s.drop (s.length - arN x))] := rfl
    rw [hst] at hr'
    generalize s.length - arN x = a at hw3 hsa hr' hdl
    have hn0 : ¬ n = mi := by omega
    have hn0' : ¬ mi = n := by omega
    have hl2 : (a + 1) * 8 ≤ 140737488355328 := by omega
    have hlen : (((s.take a ++ [fE (lookV xs) x (s.drop a)]).length : Nat) : Int) = (a : Int) + 1 := by simp; omega
    have hmx : amax (.int .i64 m) (.int .i64 ((a : Int) + 1)) = some (.int .i64 (max m ((a : Int) + 1))) := by
      simp only [amax]; split <;> (congr 2; omega)
    rw [hlen] at hr'
    have hla := fun h => alook_V (hp := h) (l := xs) (m := mi) (s := x.name)
    by_cases d1 : x.op = 1
    · have hf : fE (lookV xs) x (s.drop a) = x.n := by unfold fE; rw [if_pos d1]
      rw [hf] at hr'
      rw [d1] at hxe hop hw3
      rw [show arityF 1 = 0 from rfl, Int.sub_zero] at hw3
      simp [ht, h6, h7, h8, h15, h16, h17, hkl, hxe, hw2, hop, hw3, hsa, ints'_drop, ints'_take, ints'_all, hl2, hn0, hn0', hmx] at hX
      subst hX
      exact ⟨_, _, _, rfl, by simp [ht], by simp [h6], by simp [h15], by simp [h16], by simp [ht], ⟨_, _, by simp [ht], by simp [ht], hr'⟩, by omega, by simp [hn0, hn0', hb]⟩
    · by_cases d2 : x.op = 2
      · have hf : fE (lookV xs) x (s.drop a) = lookV xs x.name := by unfold fE; rw [if_neg d1, if_pos d2]
        rw [hf] at hr'
        rw [d2] at hxe hop hw3
        rw [show arityF 2 = 0 from rfl, Int.sub_zero] at hw3
        have hla' := hla ((n, .cells [(.int .i64 2, false), (.int .i64 x.n, false), (.str x.name, false)]) :: hp) (by simp [hn0, hn0', hb])
        simp [ht, h6, h7, h8, h15, h16, h17, hkl, hxe, hw2, hop, hw3, hsa, ints'_drop, ints'_take, ints'_all, hl2, hn0, hn0', hmx, hla'] at hX
        subst hX
        exact ⟨_, _, _, rfl, by simp [ht], by simp [h6], by simp [h15], by simp [h16], by simp [ht], ⟨_, _, by simp [ht], by simp [ht], hr'⟩, by omega, by simp [hn0, hn0', hb]⟩
      · have hf : fE (lookV xs) x (s.drop a) = appV x.op (s.drop a) := by unfold fE; rw [if_neg d1, if_neg d2]
        rw [hf] at hr'
        simp only [d1, d2, or_self, if_false] at hop
        have hco := fun ro nx hp => computed_R x.op (by omega) (s.drop a) hdl ro nx hp
        simp [ht, h6, h7, h8, h15, h16, h17, hkl, hxe, hw2, hop, hw3, hsa, ints'_drop, ints'_take, ints'_all, hl2, hn0, hn0', hmx, d1, d2, hco] at hX
        subst hX
        exact ⟨_, _, _, rfl, by simp [ht], by simp [h6], by simp [h15], by simp [h16], by simp [ht], ⟨_, _, by simp [ht], by simp [ht], hr'⟩, by omega, by simp [hn0, hn0', hb]⟩
theorem execOf_R {c : List Wd} (hc : codeF c = 0) {xs : List Sl} (hs : slF xs = 0) (ro nx : Nat) (hp : Heap) : R K 19 [.lst (encWs c), .lst (encSls xs)] ro nx hp = some ⟨.tup [.int .i64 (execX (lookV xs) c), .int .i64 (mostX c)], false, nx, hp⟩ := by
  obtain ⟨g1, g2⟩ := slF_zero hs
  obtain ⟨n', hp', hv, q1, q2, q3⟩ := table_R xs g1 g2 0 0 [] (by omega)
  rw [R_val' K ro 19 _ nx hp [] Tryz.func19 rfl Tryz.ntmps19 Tryz.results19 (mu := []) rfl (by kernel_rfl) rfl rfl rfl]; simp only [slim, slimO, annO, List.map, List.zip, List.zipWith, List.lookup, holed, Nat.reduceBEq]
  simp [List.replicate, hv]
  generalize hb : X K _ (.loop _) _ = r
  obtain ⟨tm', n', hp', x, rfl, t1, t2, t3, hx⟩ : ExecL 61 0 7 8 true (lookV xs) c r := by
    rw [← hb]
    exact execOf_loop c hc xs 0 _ _ _ (by simp) (by simp) (by simp) (by simp) (by simp) (by simp) (by simp) (by omega) q2
  clear hb
  simp [t1, t2, t3, hx]
/-- Apply, on the end of an array. -/
theorem applySl_R (op : Int) (h : 3 ≤ op ∧ op ≤ 9) (l : List Int) (hl : (l.length : Int) = arityF op) (id off : Nat) (cs : List Cell) (ro nx : Nat) (hp : Heap) (hg : hget hp id = some (.cells cs)) (hc : ∀ (i : Nat) x, l[i]? = some x → cs[off + i]? = some (.int .i64 x, false)) : R K 51 [.int .i64 op, .sl id off l.length 1 false] ro nx hp = some ⟨.int .i64 (appV op l), false, nx, hp⟩ := by
  rcases arity_list h l hl with ⟨c, a, b, rfl⟩ | ⟨rfl, a, rfl⟩ | ⟨rfl, a, b, c, rfl⟩
  · have c0 := hc 0 a rfl
    have c1 := hc 1 b rfl
    simp only [Nat.add_zero] at c0
    rcases c with rfl | rfl | rfl | rfl | rfl
    all_goals
      rw [R_pure' K ro 51 _ nx hp [] Tryz.func51 rfl Tryz.ntmps51 Tryz.results51 (mu := []) rfl (by kernel_rfl) rfl rfl rfl rfl]; simp only [slim, slimO, annO, List.map, List.zip, List.zipWith, List.lookup, holed, Nat.reduceBEq]
      simp [List.replicate, hg, c0, c1, appV, opV]
  · have c0 := hc 0 a rfl
    simp only [Nat.add_zero] at c0
    rw [R_pure' K ro 51 _ nx hp [] Tryz.func51 rfl Tryz.ntmps51 Tryz.results51 (mu := []) rfl (by kernel_rfl) rfl rfl rfl rfl]; simp only [slim, slimO, annO, List.map, List.zip, List.zipWith, List.lookup, holed, Nat.reduceBEq]
    simp [List.replicate, hg, c0, appV, opV]
  · have c0 := hc 0 a rfl
    have c1 := hc 1 b rfl
    have c2 := hc 2 c rfl
    simp only [Nat.add_zero] at c0
    rw [R_pure' K ro 51 _ nx hp [] Tryz.func51 rfl Tryz.ntmps51 Tryz.results51 (mu := []) rfl (by kernel_rfl) rfl rfl rfl rfl]; simp only [slim, slimO, annO, List.map, List.zip, List.zipWith, List.lookup, holed, Nat.reduceBEq]
    by_cases ha : a = 0 <;> simp [List.replicate, hg, c0, c1, c2, appV, opV, ha]
end Go.Proofs.YtkpfkadjmijmlaaGreatDoor.M
/- What a stack needs: value.stack, StackOf, in plain words. -/
namespace Go.Proofs.YtkpfkadjmijmlaaGreatDoor.M
open Go.Proofs Go.Proofs.YtkpfkadjmijmlaaGreatDoor.X
set_option linter.unusedSimpArgs false
set_option linter.unusedVariables false
set_option maxRecDepth 100000
abbrev leI (a b : Int) : Bool := decide (a ≤ b)
theorem sortI_eq {l s : List Int} (hp : s.Perm l) (hs : s.Pairwise (fun a b => a ≤ b)) : l.mergeSort leI = s := by
  have h1 : (l.mergeSort leI).Pairwise (fun a b => a ≤ b) := by
    have := List.pairwise_mergeSort (le := leI) (fun a b c h1 h2 => by simp only [leI, decide_eq_true_eq] at *; omega) (fun a b => by simp only [leI, Bool.or_eq_true, decide_eq_true_eq]; omega) l
    exact this.imp fun h => by simpa [leI] using h
  exact List.Perm.eq_of_pairwise (fun a b _ _ h1 h2 => Int.le_antisymm h1 h2) h1 hs ((List.mergeSort_perm l leI).trans hp.symm)
/-- At most so many places, from a row of needs. -/
def mostGo : List Int → Int → Int → Int
  | [], _, m => m
  | x :: r, i, m => mostGo r (i + 1) (max m (x + i))
def stackL (l : List Int) : Int := mostGo (l.mergeSort leI).reverse 0 1
mutual
def stackX : Ex → Int
  | .mk _ _ _ a => stackL (stackXs a)
def stackXs : List Ex → List Int
  | [] => []
  | x :: r => stackX x :: stackXs r
end
theorem stackX_eq (x : Ex) : stackX x = stackL (stackXs x.args) := by cases x; rw [stackX]; rfl
theorem stackXs_eq (l : List Ex) : stackXs l = l.map stackX := by induction l with | nil => rfl | cons x r ih => simp [stackXs, ih]
theorem mostGo_le {B : Int} : ∀ (l : List Int) (i m : Int), (∀ x ∈ l, x ≤ B) → 1 ≤ m → m ≤ mostGo l i m ∧ (m ≤ B + 3 → i + l.length ≤ 3 → mostGo l i m ≤ B + 3) := by
  intro l
  induction l with
  | nil => intro i m _ _; exact ⟨Int.le_refl _, fun h _ => h⟩
  | cons x r ih =>
    intro i m h hm
    have hx := h x (.head _)
    obtain ⟨q1, q2⟩ := ih (i + 1) (max m (x + i)) (fun y hy => h y (.tail _ hy)) (by omega)
    rw [mostGo]
    refine ⟨by omega, fun h1 h2 => ?_⟩
    simp only [List.length_cons] at h2
    exact q2 (by omega) (by omega)
theorem stack_bound : ∀ (k : Nat) (x : Ex) (d : Int), exF x d = 0 → (k : Int) = 21 - d → 1 ≤ stackX x ∧ stackX x ≤ 3 * k + 1 := by
  intro k
  induction k with
  | zero =>
    intro x d h hk
    obtain ⟨h1, _⟩ := exF_zero h
    have := (own_zero h1).1
    omega
  | succ k ih =>
    intro x d h hk
    obtain ⟨h1, h2⟩ := exF_zero h
    have q4 := (own_zero h1).2.2.2.1
    have ha := arity_le x.op
    rw [stackX_eq, stackXs_eq]
    have hm : ∀ y ∈ (((x.args.map stackX).mergeSort leI).reverse), y ≤ 3 * (k : Int) + 1 := by
      intro y hy
      rw [List.mem_reverse, (List.mergeSort_perm _ _).mem_iff] at hy
      obtain ⟨z, hz, rfl⟩ := List.mem_map.1 hy
      exact (ih z (d + 1) (exsF_mem h2 z hz) (by omega)).2
    obtain ⟨q1, q2⟩ := mostGo_le _ 0 1 hm (by omega)
    refine ⟨q1, ?_⟩
    have := q2 (by omega) (by rw [List.length_reverse, (List.mergeSort_perm _ _).length_eq, List.length_map]; omega)
    unfold stackL
    omega
/-- The best of some orders. -/
def upd (best m : Int) : Int := if best = 0 ∨ m < best then m else best
theorem upd_least {x : Int} : ∀ (l : List Int) (b : Int), (∀ m ∈ l, 1 ≤ m ∧ x ≤ m) → (x ∈ l ∧ (b = 0 ∨ x ≤ b) ∨ b = x) → 1 ≤ x → l.foldl upd b = x := by
  intro l
  induction l with
  | nil =>
    intro b _ h _
    rcases h with ⟨h, _⟩ | h
    · cases h
    · exact h
  | cons m r ih =>
    intro b h hb hx
    obtain ⟨h1, h2⟩ := h m (.head _)
    rw [List.foldl_cons]
    refine ih _ (fun y hy => h y (.tail _ hy)) ?_ hx
    unfold upd
    rcases hb with ⟨hm, hb⟩ | hb
    · by_cases hxm : m = x
      · right; split <;> omega
      · have hr : x ∈ r := by cases hm with | head => exact absurd rfl hxm | tail _ q => exact q
        left; refine ⟨hr, ?_⟩; split <;> omega
    · subst hb
      right; split <;> omega
/-- All orders of some needs. -/
def tryN : Nat → List Int → Int → Int → Int → Int
  | 0, _, _, m, b => upd b m
  | n + 1, l, w, m, b => (List.range l.length).foldl (fun b i => tryN n (l.take i ++ l.drop (i + 1)) (w + 1) (max m (w + l.getD i 0)) b) b
theorem try_one (a : Int) (ha : 1 ≤ a) : tryN 1 [a] 0 0 0 = stackL [a] := by
  have h1 : stackL [a] = max 1 (a + 0) := by unfold stackL; rw [sortI_eq (List.Perm.refl [a]) (by simp)]; rfl
  have h2 : tryN 1 [a] 0 0 0 = [max 0 (0 + a)].foldl upd 0 := rfl
  rw [h1, h2]
  exact upd_least _ _ (by simp; omega) (.inl ⟨by simp; omega, .inl rfl⟩) (by omega)
theorem try_two (a b : Int) (ha : 1 ≤ a) (hb : 1 ≤ b) : tryN 2 [a, b] 0 0 0 = stackL [a, b] := by
  have h2 : tryN 2 [a, b] 0 0 0 = [max (max 0 (0 + a)) (0 + 1 + b), max (max 0 (0 + b)) (0 + 1 + a)].foldl upd 0 := rfl
  rw [h2]
  by_cases h : a ≤ b
  · have h1 : stackL [a, b] = max (max 1 (b + 0)) (a + (0 + 1)) := by unfold stackL; rw [sortI_eq (List.Perm.refl [a, b]) (by simp [h])]; rfl
    rw [h1]
    exact upd_least _ _ (by simp; omega) (.inl ⟨by simp; omega, .inl rfl⟩) (by omega)
  · have h1 : stackL [a, b] = max (max 1 (a + 0)) (b + (0 + 1)) := by unfold stackL; rw [sortI_eq (s := [b, a]) (List.Perm.swap a b []) (by simp; omega)]; rfl
    rw [h1]
    exact upd_least _ _ (by simp; omega) (.inl ⟨by simp; omega, .inl rfl⟩) (by omega)
def m3 (a b c : Int) : Int := max (max (max 0 (0 + a)) (0 + 1 + b)) (0 + 1 + 1 + c)
def isum : List Int → Int
  | [] => 0
  | x :: r => x + isum r
theorem perm_sum {l l' : List Int} (h : l.Perm l') : isum l = isum l' := by
  induction h with
  | nil => rfl
  | cons x _ ih => simp only [isum, ih]
  | swap x y l => simp only [isum]; omega
  | trans _ _ h1 h2 => exact h1.trans h2
theorem perm2 {y z u v : Int} (h : [y, z].Perm [u, v]) : (y = u ∧ z = v) ∨ (y = v ∧ z = u) := by
  have h1 := h.mem_iff.1 (List.mem_cons_self (a := y))
  have h2 := perm_sum h
  simp only [isum] at h2
  simp at h1
  omega
theorem m3_least {a b c x y z : Int} (h1 : a ≥ b) (h2 : b ≥ c) (hc : 1 ≤ c) (hp : [x, y, z].Perm [a, b, c]) : m3 a b c ≤ m3 x y z := by
  have hx := hp.mem_iff.1 (List.mem_cons_self (a := x))
  simp at hx
  unfold m3
  rcases hx with rfl | rfl | rfl
  · rcases perm2 hp.cons_inv with ⟨rfl, rfl⟩ | ⟨rfl, rfl⟩ <;> omega
  · rcases perm2 (hp.trans (List.Perm.swap x a [c])).cons_inv with ⟨rfl, rfl⟩ | ⟨rfl, rfl⟩ <;> omega
  · rcases perm2 (hp.trans (((List.Perm.swap x b []).cons a).trans (List.Perm.swap x a [b]))).cons_inv with ⟨rfl, rfl⟩ | ⟨rfl, rfl⟩ <;> omega
theorem stackL_three {a b c : Int} {l : List Int} (h1 : a ≥ b) (h2 : b ≥ c) (hc : 1 ≤ c) (hp : [c, b, a].Perm l) : stackL l = m3 a b c := by
  unfold stackL
  rw [sortI_eq hp (by simp; omega)]
  show max (max (max 1 (a + 0)) (b + (0 + 1))) (c + (0 + 1 + 1)) = m3 a b c
  unfold m3
  omega
theorem try_three (a b c : Int) (ha : 1 ≤ a) (hb : 1 ≤ b) (hc : 1 ≤ c) : tryN 3 [a, b, c] 0 0 0 = stackL [a, b, c] := by
  have two : ∀ u v w m q : Int, tryN 2 [u, v] w m q = upd (upd q (max (max m (w + u)) (w + 1 + v))) (max (max m (w + v)) (w + 1 + u)) := fun _ _ _ _ _ => rfl
  have e3 : tryN 3 [a, b, c] 0 0 0 = tryN 2 [a, b] (0 + 1) (max 0 (0 + c)) (tryN 2 [a, c] (0 + 1) (max 0 (0 + b)) (tryN 2 [b, c] (0 + 1) (max 0 (0 + a)) 0)) := by rw [tryN]; rfl
  have h2 : tryN 3 [a, b, c] 0 0 0 = [m3 a b c, m3 a c b, m3 b a c, m3 b c a, m3 c a b, m3 c b a].foldl upd 0 := by
    rw [e3, two, two, two]; rfl
  rw [h2]
  have pos : ∀ x y z : Int, 1 ≤ x → 1 ≤ m3 x y z := fun x y z h => by unfold m3; omega
  have key : ∀ x y z : Int, x ≥ y → y ≥ z → 1 ≤ z → [x, y, z].Perm [a, b, c] → m3 x y z ∈ [m3 a b c, m3 a c b, m3 b a c, m3 b c a, m3 c a b, m3 c b a] → [m3 a b c, m3 a c b, m3 b a c, m3 b c a, m3 c a b, m3 c b a].foldl upd 0 = stackL [a, b, c] := by
    intro x y z q1 q2 q3 hp hm
    rw [stackL_three q1 q2 q3 (((List.reverse_perm [x, y, z]).trans hp))]
    have hl : ∀ p q r : Int, [p, q, r].Perm [a, b, c] → m3 x y z ≤ m3 p q r := fun p q r h => m3_least q1 q2 q3 (h.trans hp.symm)
    refine upd_least _ _ (fun m hm => ?_) (.inl ⟨hm, .inl rfl⟩) (pos _ _ _ (by omega))
    simp only [List.mem_cons, List.not_mem_nil, or_false] at hm
    rcases hm with rfl | rfl | rfl | rfl | rfl | rfl
    · exact ⟨pos _ _ _ ha, hl _ _ _ (List.Perm.refl _)⟩
    · exact ⟨pos _ _ _ ha, hl _ _ _ ((List.Perm.swap b c []).cons a)⟩
    · exact ⟨pos _ _ _ hb, hl _ _ _ (List.Perm.swap a b [c])⟩
    · exact ⟨pos _ _ _ hb, hl _ _ _ (((List.Perm.swap a c []).cons b).trans (List.Perm.swap a b [c]))⟩
    · exact ⟨pos _ _ _ hc, hl _ _ _ ((List.Perm.swap a c [b]).trans ((List.Perm.swap b c []).cons a))⟩
    · exact ⟨pos _ _ _ hc, hl _ _ _ (List.reverse_perm [a, b, c])⟩
  by_cases h1 : a ≤ b <;> by_cases h2 : b ≤ c <;> by_cases h3 : a ≤ c
  · exact key c b a h2 h1 ha (List.reverse_perm [a, b, c]) (by simp)
  · omega
  · exact key b c a (by omega) h3 ha (((List.Perm.swap a c []).cons b).trans (List.Perm.swap a b [c])) (by simp)
  · exact key b a c h1 (by omega) hc (List.Perm.swap a b [c]) (by simp)
  · exact key c a b h3 (by omega) hb ((List.Perm.swap a c [b]).trans ((List.Perm.swap b c []).cons a)) (by simp)
  · exact key a c b (by omega) h2 hb ((List.Perm.swap b c []).cons a) (by simp)
  · omega
  · exact key a b c (by omega) (by omega) hc (List.Perm.refl _) (by simp)
theorem try_stack {l : List Int} (h : ∀ x ∈ l, 1 ≤ x) (h1 : 1 ≤ l.length) (h3 : l.length ≤ 3) : tryN l.length l 0 0 0 = stackL l := by
  match l, h1, h3 with
  | [a], _, _ => exact try_one a (h a (by simp))
  | [a, b], _, _ => exact try_two a b (h a (by simp)) (h b (by simp))
  | [a, b, c], _, _ => exact try_three a b c (h a (by simp)) (h b (by simp)) (h c (by simp))
  | [], h1, _ => simp at h1
  | _ :: _ :: _ :: _ :: _, _, h3 => simp at h3
end Go.Proofs.YtkpfkadjmijmlaaGreatDoor.M
/- value.Exec. -/
namespace Go.Proofs.YtkpfkadjmijmlaaGreatDoor.M
open Go.Proofs Go.Proofs.YtkpfkadjmijmlaaGreatDoor.X
set_option linter.unusedSimpArgs false
set_option linter.unusedVariables false
set_option maxRecDepth 100000
set_option pp.deepTerms false
set_option pp.deepTerms.threshold 6
set_option maxHeartbeats 4000000
theorem flats_take {sz : Nat} : ∀ {xs : List AVal} (a : Nat), (∀ x ∈ xs, x.flat.length = sz) → (flats xs).take (a * sz) = flats (xs.take a) := by
  intro xs
  induction xs with
  | nil => intro a _; simp [flats]
  | cons x r ih =>
    intro a h
    cases a with
    | zero => simp [flats]
    | succ a =>
      have hx := h x (.head _)
      have e : flats (x :: r) = x.flat ++ flats r := rfl
      have e2 : flats ((x :: r).take (a + 1)) = x.flat ++ flats (r.take a) := rfl
      rw [e, e2, List.take_append, List.take_of_length_le (by rw [hx, Nat.succ_mul]; omega), show (a + 1) * sz - x.flat.length = a * sz by rw [hx, Nat.succ_mul]; omega, ih a fun y hy => h y (.tail _ hy)]
theorem apM_take {hp : Heap} {id sz a : Nat} {xs : List AVal} (hg : hget hp id = some (.cells (unown (flats xs)))) (hs : ∀ x ∈ xs, x.flat.length = sz) (ha : a ≤ xs.length) {lo b k : Nat} (hlo : lo ≤ id) (hb : (a + k) * b ≤ 140737488355328) (ag ag' f : Bool) (x : Operand) (nx : Nat) (ys : List AVal) :
    apM lo b sz ag x nx hp (.sl id 0 a sz ag', f) (some (k, ys)) = some ⟨.sl nx 0 (a + k) sz ag, false, none, nx + 1, (nx, .cells (unown (flats (xs.take a) ++ ys))) :: hdel hp id⟩ := by
  rw [apM_sl hg, if_pos ⟨hlo, rfl, by rw [unown_len, flats_len hs]; exact Nat.mul_le_mul_right _ ha, hb⟩, ← flats_take a hs]
  have e : ((unown (flats xs)).take (a * sz)).map (·.1) = (flats xs).take (a * sz) := by
    rw [List.map_take, unown_fst]
  rw [e]
theorem flats_ints' (l : List Int) : flats (ints' l) = ints' l := by
  induction l with
  | nil => rfl
  | cons x r ih => show [_] ++ flats (ints' r) = _; rw [ih]; rfl
theorem ints'_flat {l : List Int} : ∀ x ∈ ints' l, x.flat.length = 1 := by
  intro x hx
  obtain ⟨y, _, rfl⟩ := List.mem_map.1 hx
  rfl
/-- What the loop leaves. -/
def ExecV (t : ByteArray → Int) (c : List Wd) (r : Option (AExit × St)) : Prop := ∃ tm' n' hp' x id, r = some (.exit 0, ⟨tm', n', hp'⟩) ∧ tm'.length = 72 ∧ getC tm' 11 = (.sl id 0 1 1 false, false) ∧ hget hp' id = some (.cells [(.int .i64 x, false)]) ∧ execX t c = x
def ExecW (t : ByteArray → Int) (c : List Wd) (mo : Cell) (r : Option (AExit × St)) : Prop := ExecV t c r ∧ ∀ x s, r = some (x, s) → getC s.tm 7 = mo
theorem exec_loop (c : List Wd) (hc : codeF c = 0) (g : FuncId) (cs : List AVal) (t : ByteArray → Int) (b : Nat) (hp0 : Heap) (hcl : CloOk g cs t b hp0) (mo : Cell) (tm : List Cell) (nx : Nat) (hp : Heap) (ht : tm.length = 72) (h7 : getC tm 7 = mo) (h10 : getC tm 10 = (.clo g [] cs, false)) (h31 : getC tm 31 = (.lst (encWs c), false)) (h32 : getC tm 32 = (.int .i64 c.length, false)) (h33 : getC tm 33 = (.int .i64 0, false)) (h11 : getC tm 11 = (.lst [], true)) (hn : b ≤ nx) (hfr : ∀ j, j < b → hget hp j = hget hp0 j) :
    ExecW t c mo (X K ⟨0, [22]⟩ (.loop (LB Tryz.prog 13 [] 0)) ⟨tm, nx, hp⟩) := by
  have e := LB_open (P := Tryz.prog) [] 0 Tryz.func13 rfl rfl (by kernel_rfl)
  simp only [slim, slimO, annO, List.map, List.zip, List.zipWith, List.lookup, holed, loopsOf, List.nil_append, List.cons_append, List.getD_cons_zero, List.getD_cons_succ, Nat.reduceBEq] at e
  obtain ⟨hl, hok, hone⟩ := codeF_zero hc
  refine rounds e c.length (fun k tm n hp => tm.length = 72 ∧ getC tm 7 = mo ∧ getC tm 10 = (.clo g [] cs, false) ∧ getC tm 31 = (.lst (encWs c), false) ∧ getC tm 32 = (.int .i64 c.length, false) ∧ getC tm 33 = (.int .i64 k, false) ∧ b ≤ n ∧ (∀ j, j < b → hget hp j = hget hp0 j) ∧ ∃ s m, Runs (fE t) c k s m ∧ ((s = [] ∧ getC tm 11 = (.lst [], true)) ∨ ∃ id, getC tm 11 = (.sl id 0 s.length 1 false, false) ∧ b ≤ id ∧ id < n ∧ 0 < s.length ∧ hget hp id = some (.cells (unown (flats (ints' s)))))) (ExecW t c mo) ?_ ?_ 0 tm nx hp (by omega) ⟨ht, h7, h10, h31, h32, h33, hn, hfr, [], 0, Runs.start _ c, .inl ⟨rfl, h11⟩⟩
  · rintro tm n hp r ⟨ht, h7, h10, h31, h32, h33, hn, hfr, s, m, hr, hrow⟩ hX
    simp [ht, h32, h33] at hX
    subst hX
    obtain ⟨x, rfl, hx⟩ := stk_one (fE t) hc hr
    refine ⟨_, _, rfl, by simp, ?_, ?_⟩
    · rcases hrow with ⟨q, _⟩ | ⟨id, h11, q1, q2, q3, q4⟩
      · cases q
      · exact ⟨_, _, _, x, id, rfl, by simp [ht], by simp [h11], by rw [q4]; rfl, by rw [execX, hx]; rfl⟩
    · intro x s q
      cases q
      simp [h7]
  · rintro k tm n hp r hk ⟨ht, h7, h10, h31, h32, h33, hn, hfr, s, m, hr, hrow⟩ hX
    left
    have hx := List.getElem?_eq_getElem (l := c) (i := k) hk
    generalize c[k] = x at hx
    obtain ⟨c1, har, hle, hr'⟩ := hr.step hok hk hx
    have hkl : (k : Int) < c.length := by omega
    have hxe := encWs_at hx
    have hw2 : IntKind.i64.wrap ((k : Int) + 1) = (k : Int) + 1 := wrap_small (by omega) (by omega)
    have ha := wordF_arity c1
    have hwo := word_op c1
    have hsk := hr.le
    have hw3 : IntKind.i64.wrap ((s.length : Int) - arityF x.op) = ((s.length - arN x : Nat) : Int) := by rw [wrap_small (by omega) (by omega)]; omega
    have hsa : s.length - arN x ≤ s.length := by omega
    have hdl : ((s.drop (s.length - arN x)).length : Int) = arityF x.op := by rw [List.length_drop]; omega
    have hst : stk1 (fE t) x s = s.take (s.length - arN x) ++ [fE t x (s.drop (s.length - arN x))] := rfl
    rw [hst] at hr'
    have hclo := fun ro => hcl x.name ro (n + 1) ((n, .cells [(.int .i64 x.op, false), (.int .i64 x.n, false), (.str x.name, false)]) :: hp) (by omega) (fun j hj => by rw [hget_old (by omega)]; exact hfr j hj)
    -- the row behind the append
    have key : ∀ (tm2 : List Cell) (h4 : Heap) (v : Int), tm2.length = 72 → getC tm2 7 = mo → getC tm2 10 = (.clo g [] cs, false) → getC tm2 31 = (.lst (encWs c), false) → getC tm2 32 = (.int .i64 c.length, false) → getC tm2 33 = (.int .i64 (k + 1 : Nat), false) → getC tm2 11 = (.sl (n + 1 + 1) 0 (s.length - arN x + 1) 1 false, false) → (∀ j, j < b → hget h4 j = hget hp0 j) → hget h4 (n + 1 + 1) = some (.cells (unown (ints' (s.take (s.length - arN x)) ++ [.int .i64 v]))) → fE t x (s.drop (s.length - arN x)) = v →
        tm2.length = 72 ∧ getC tm2 7 = mo ∧ getC tm2 10 = (.clo g [] cs, false) ∧ getC tm2 31 = (.lst (encWs c), false) ∧ getC tm2 32 = (.int .i64 c.length, false) ∧ getC tm2 33 = (.int .i64 (k + 1 : Nat), false) ∧ b ≤ n + 1 + 1 + 1 ∧ (∀ j, j < b → hget h4 j = hget hp0 j) ∧ ∃ s m, Runs (fE t) c (k + 1) s m ∧ ((s = [] ∧ getC tm2 11 = (.lst [], true)) ∨ ∃ id, getC tm2 11 = (.sl id 0 s.length 1 false, false) ∧ b ≤ id ∧ id < n + 1 + 1 + 1 ∧ 0 < s.length ∧ hget h4 id = some (.cells (unown (flats (ints' s))))) := by
      intro tm2 h4 v p1 p2 p3 p4 p5 p6 p7 p8 p9 p10
      refine ⟨p1, p2, p3, p4, p5, p6, by omega, p8, _, _, hr', .inr ⟨n + 1 + 1, ?_, by omega, by omega, by simp, ?_⟩⟩
      · rw [p7, List.length_append, List.length_take, Nat.min_eq_left hsa]; rfl
      · rw [p9, flats_ints', p10]; simp [ints']
    clear hr' hst
    have hb2 : (s.length - arN x + 1) * 8 ≤ 140737488355328 := by omega
    rcases hrow with ⟨rfl, h11⟩ | ⟨id, h11, q1, q2, q3, q4⟩
    · have har0 : arN x = 0 := by simpa using hle
      have hz : arityF x.op = 0 := by omega
      have hop : x.op = 1 ∨ x.op = 2 := by
        rcases nine hwo with q | q | q | q | q | q | q | q | q <;> first | (left; exact q) | (right; exact q) | (rw [q] at hz; exact absurd hz (by decide))
      rw [hz] at hw3
      have hw4 : IntKind.i64.wrap 0 = 0 := by decide
      rcases hop with d1 | d1
      · have hf : fE t x [] = x.n := by unfold fE; rw [if_pos d1]
        rw [d1] at hxe
        have hz1 : arityF 1 = 0 := rfl
        simp [ht, h7, h10, h11, h31, h32, h33, hkl, hxe, hw2, hw4, hz1] at hX
        subst hX
        refine ⟨_, _, _, rfl, ?_⟩
        refine key _ _ x.n ?_ ?_ ?_ ?_ ?_ ?_ ?_ ?_ ?_ ?_
        · simp [ht]
        · simp [h7]
        · simp [h10]
        · simp [h31]
        · simp [h32]
        · simp [ht]
        · simp [ht]
        · intro j hj
          rw [hget_old (by omega), hget_old (by omega), hget_old (by omega)]; exact hfr j hj
        · rw [hget_same]; simp [ints', unown]
        · simpa using hf
      · have hf : fE t x [] = t x.name := by unfold fE; rw [if_neg (by omega), if_pos d1]
        rw [d1] at hxe hclo
        have hz1 : arityF 2 = 0 := rfl
        simp [ht, h7, h10, h11, h31, h32, h33, hkl, hxe, hw2, hw4, hz1, hclo] at hX
        subst hX
        refine ⟨_, _, _, rfl, ?_⟩
        refine key _ _ (t x.name) ?_ ?_ ?_ ?_ ?_ ?_ ?_ ?_ ?_ ?_
        · simp [ht]
        · simp [h7]
        · simp [h10]
        · simp [h31]
        · simp [h32]
        · simp [ht]
        · simp [ht]
        · intro j hj
          rw [hget_old (by omega), hget_old (by omega), hget_old (by omega)]; exact hfr j hj
        · rw [hget_same]; simp [ints', unown]
        · simpa using hf
    · have hap := fun (bl bl2 : ABlk) (ys : List AVal) x' => apM_take (hp := (n + 1, bl2) :: (n, bl) :: hp) (id := id) (sz := 1) (a := s.length - arN x) (xs := ints' s) (by rw [hget_old (by omega), hget_old (by omega)]; exact q4) ints'_flat (by rw [ints'_len]; exact hsa) (lo := 0) (Nat.zero_le _) hb2 false false false x' (n + 1 + 1) ys
      rw [ints'_take, flats_ints'] at hap
      have hdj : ∀ (bl bl2 bl3 : ABlk) j, j < b → hget ((n + 1 + 1, bl3) :: hdel ((n + 1, bl2) :: (n, bl) :: hp) id) j = hget hp0 j := by
        intro bl bl2 bl3 j hj
        rw [hget_old (by omega), hget_hdel, if_neg (by omega), hget_old (by omega), hget_old (by omega)]; exact hfr j hj
      have hq : hget ((n, .cells [(.int .i64 x.op, false), (.int .i64 x.n, false), (.str x.name, false)]) :: hp) id = some (.cells (unown (ints' s))) := by rw [hget_old (by omega), q4, flats_ints']
      by_cases d1 : x.op = 1
      · have hf : fE t x (s.drop (s.length - arN x)) = x.n := by unfold fE; rw [if_pos d1]
        rw [d1] at hxe hw3
        generalize s.length - arN x = a at *
        rw [show arityF 1 = 0 from rfl, Int.sub_zero] at hw3
        have hz1 : arityF 1 = 0 := rfl
        simp [ht, h7, h10, h11, h31, h32, h33, hkl, hxe, hw2, hw3, hz1, hsa, hap] at hX
        subst hX
        refine ⟨_, _, _, rfl, ?_⟩
        refine key _ _ x.n ?_ ?_ ?_ ?_ ?_ ?_ ?_ ?_ ?_ hf
        · simp [ht]
        · simp [h7]
        · simp [h10]
        · simp [h31]
        · simp [h32]
        · simp [ht]
        · simp [ht]
        · exact hdj _ _ _
        · rw [hget_same]; simp [unown]
      · by_cases d2 : x.op = 2
        · have hf : fE t x (s.drop (s.length - arN x)) = t x.name := by unfold fE; rw [if_neg d1, if_pos d2]
          rw [d2] at hxe hw3 hclo
          generalize s.length - arN x = a at *
          rw [show arityF 2 = 0 from rfl, Int.sub_zero] at hw3
          have hz1 : arityF 2 = 0 := rfl
          simp [ht, h7, h10, h11, h31, h32, h33, hkl, hxe, hw2, hw3, hz1, hsa, hap, hclo] at hX
          subst hX
          refine ⟨_, _, _, rfl, ?_⟩
          refine key _ _ (t x.name) ?_ ?_ ?_ ?_ ?_ ?_ ?_ ?_ ?_ hf
          · simp [ht]
          · simp [h7]
          · simp [h10]
          · simp [h31]
          · simp [h32]
          · simp [ht]
          · simp [ht]
          · exact hdj _ _ _
          · rw [hget_same]; simp [unown]
        · have hf : fE t x (s.drop (s.length - arN x)) = appV x.op (s.drop (s.length - arN x)) := by unfold fE; rw [if_neg d1, if_neg d2]
          have hpos : 0 < arN x := by
            have h0 : 0 < arityF x.op := by
              rcases nine hwo with q | q | q | q | q | q | q | q | q <;> first | exact absurd q d1 | exact absurd q d2 | (rw [q]; decide)
            omega
          have hlt : s.length - arN x < s.length := by omega
          have hco := fun ro nx => applySl_R x.op (by omega) (s.drop (s.length - arN x)) hdl id (s.length - arN x) (unown (ints' s)) ro nx _ hq (fun i y hy => by
            rw [List.getElem?_drop] at hy
            simp [unown, ints', hy])
          rw [List.length_drop] at hco
          generalize s.length - arN x = a at *
          simp [ht, h7, h10, h11, h31, h32, h33, hkl, hxe, hw2, hw3, hsa, hlt, d1, d2, hap, hco] at hX
          subst hX
          refine ⟨_, _, _, rfl, ?_⟩
          refine key _ _ (appV x.op (s.drop a)) ?_ ?_ ?_ ?_ ?_ ?_ ?_ ?_ ?_ hf
          · simp [ht]
          · simp [h7]
          · simp [h10]
          · simp [h31]
          · simp [h32]
          · simp [ht]
          · simp [ht]
          · exact hdj _ _ _
          · rw [hget_same]; simp [unown]
def execF (c : List Wd) (xs : List Sl) : Int := if codeF c ≠ 0 then codeF c else slF xs
theorem exec_R (c : List Wd) (xs : List Sl) (ro nx : Nat) (hp : Heap) : R K 13 [.lst (encWs c), .lst (encSls xs)] ro nx hp = some ⟨.tup [.int .i64 (if execF c xs = 0 then execX (lookV xs) c else 0), .int .i64 (if execF c xs = 0 then mostX c else 0), .int .i64 (execF c xs)], false, nx, hp⟩ := by
  have hcv := codeFaultV_R c
  unfold execF
  by_cases c1 : codeF c = 0
  · by_cases c2 : slF xs = 0
    · obtain ⟨g1, g2⟩ := slF_zero c2
      obtain ⟨n', hp', hv, ⟨f1, f2, f3⟩, f4⟩ := values_R xs g1 g2 0 0 [] (by omega)
      rw [R_val' K ro 13 _ nx hp [] Tryz.func13 rfl Tryz.ntmps13 Tryz.results13 (mu := [22]) rfl (by kernel_rfl) rfl rfl rfl]; simp only [slim, slimO, annO, List.map, List.zip, List.zipWith, List.lookup, holed, Nat.reduceBEq]
      simp [List.replicate, c1, c2, hcv, hv]
      generalize hb : X K _ (.loop _) _ = r
      obtain ⟨⟨tm', n2, hp2, x, id, rfl, t1, t2, t3, hx⟩, hmo⟩ : ExecW (lookV xs) c (.int .i64 (mostX c), false) r := by
        rw [← hb]
        refine exec_loop c c1 _ _ (lookV xs) n' hp' (cloV xs 0 1 n' hp' (by omega) (by omega) f2 f4) _ _ _ _ ?_ ?_ ?_ ?_ ?_ ?_ ?_ (Nat.le_refl _) (fun _ _ => rfl)
        all_goals simp [mostX]
      have hm := hmo _ _ rfl
      simp only at hm
      clear hb
      simp [t1, t2, t3, hm, hx]
    · rw [R_val' K ro 13 _ nx hp [] Tryz.func13 rfl Tryz.ntmps13 Tryz.results13 (mu := [22]) rfl (by kernel_rfl) rfl rfl rfl]; simp only [slim, slimO, annO, List.map, List.zip, List.zipWith, List.lookup, holed, Nat.reduceBEq]
      simp [List.replicate, c1, c2, hcv]
  · rw [R_val' K ro 13 _ nx hp [] Tryz.func13 rfl Tryz.ntmps13 Tryz.results13 (mu := [22]) rfl (by kernel_rfl) rfl rfl rfl]; simp only [slim, slimO, annO, List.map, List.zip, List.zipWith, List.lookup, holed, Nat.reduceBEq]
    simp [List.replicate, c1, hcv]
end Go.Proofs.YtkpfkadjmijmlaaGreatDoor.M
/- slices.Clone of expressions; value.Back. -/
namespace Go.Proofs.YtkpfkadjmijmlaaGreatDoor.M
open Go.Proofs Go.Proofs.YtkpfkadjmijmlaaGreatDoor.X
set_option linter.unusedSimpArgs false
set_option linter.unusedVariables false
set_option maxRecDepth 100000
set_option pp.deepTerms false
set_option pp.deepTerms.threshold 6
set_option maxHeartbeats 4000000
theorem encXs_flat {l : List Ex} : ∀ x ∈ encXs l, x.flat.length = 4 := by
  intro x hx
  rw [encXs_eq] at hx
  obtain ⟨y, _, rfl⟩ := List.mem_map.1 hx
  rw [encX_flat]; rfl
theorem encXs_agg {l : List Ex} : ∀ x ∈ encXs l, ∃ cs, x = .agg cs ∧ cs.length = 4 := by
  intro x hx
  rw [encXs_eq] at hx
  obtain ⟨y, _, rfl⟩ := List.mem_map.1 hx
  exact ⟨_, encX_eq y, rfl⟩
theorem encXs_low {l : List Ex} {lo : Nat} : ∀ u ∈ flats (encXs l), u.idsLt lo = true := by
  intro u hu
  unfold flats at hu
  obtain ⟨x, hx, hu⟩ := List.mem_flatMap.1 hu
  rw [encXs_eq] at hx
  obtain ⟨w, _, rfl⟩ := List.mem_map.1 hx
  rw [encX_flat] at hu
  simp at hu
  rcases hu with rfl | rfl | rfl | rfl <;> simp [encXs_ids]
theorem flats_drop {sz : Nat} : ∀ {xs : List AVal} (a : Nat), (∀ x ∈ xs, x.flat.length = sz) → (flats xs).drop (a * sz) = flats (xs.drop a) := by
  intro xs
  induction xs with
  | nil => intro a _; simp [flats]
  | cons x r ih =>
    intro a h
    cases a with
    | zero => simp [flats]
    | succ a =>
      have hx := h x (.head _)
      have e : flats (x :: r) = x.flat ++ flats r := rfl
      rw [e, List.drop_append, List.drop_of_length_le (by rw [hx, Nat.succ_mul]; omega), show (a + 1) * sz - x.flat.length = a * sz by rw [hx, Nat.succ_mul]; omega, ih a fun y hy => h y (.tail _ hy)]
      rfl
theorem K_ext2 {f : FuncId} {args : List AVal} {ro nx : Nat} {hp : Heap} {r : Res} (h1 : pureExt 87 nameExt f args ro nx hp = none) (h2 : pureExt 52 nameExt f args ro nx hp = none) (h3 : pureExt 37 repeatExt f args ro nx hp = none) (h0 : moreExt1 f args ro nx hp = none) (h4 : moreExt2 f args ro nx hp = some r) : K.ext f args ro nx hp = some r :=
  K_ext h1 h2 h3 (by simp only [moreExt, orExt, h0, h4])
theorem cloneX_nil (ro nx : Nat) (hp : Heap) : R K 48 [.lst []] ro nx hp = some ⟨.lst [], true, nx, hp⟩ := by
  have h : K.ext 48 [.lst []] nx nx hp = some ⟨.lst [], true, nx, hp⟩ := K_ext2 rfl rfl rfl rfl rfl
  have hp0 : K.pure 48 = true := rfl
  have hl : low K 48 ro nx = nx := by unfold low; rw [if_pos hp0]
  rw [R_eq]
  unfold vlc Fin core
  rw [if_neg (by decide)]
  dsimp only
  rw [if_pos hp0, hl, h]
  simp
theorem cloneX_R {s : List Ex} {id a : Nat} {hp : Heap} (hg : hget hp id = some (.cells (unown (flats (encXs s))))) (ha : a < s.length) (hs : s.length ≤ 20000) (ro nx : Nat) : R K 48 [.sl id (a * 4) (s.length - a) 4 true] ro nx hp = some ⟨.lst (encXs (s.drop a)), false, nx, hp⟩ := by
  have hlen := flats_len (encXs_flat (l := s))
  rw [encXs_len] at hlen
  have hcut : copyCells (a * 4) (s.length - a) 4 (unown (flats (encXs s))) = flats (encXs (s.drop a)) := by
    unfold copyCells
    rw [List.map_take, List.map_drop, unown_fst, flats_drop a encXs_flat, encXs_drop, List.take_of_length_le]
    rw [flats_len encXs_flat, encXs_len, List.length_drop]; exact Nat.le_refl _
  have hch : chunks 4 (s.length - a) (flats (encXs (s.drop a))) = encXs (s.drop a) := by
    have := chunks_flats (sz := 4) (xs := encXs (s.drop a)) encXs_agg
    rwa [encXs_len, List.length_drop] at this
  have hi : idsLts 0 (flats (encXs (s.drop a))) = true := (idsLts_iff 0 _).2 encXs_low
  have h0 : copyExt 48 4 48 [.sl id (a * 4) (s.length - a) 4 true] nx nx hp = some ⟨.lst (encXs (s.drop a)), false, nx, hp⟩ := by
    simp only [copyExt, if_true, hg, hcut, hch]
    rw [if_pos ⟨trivial, by omega, by omega, by rw [unown_len, hlen]; omega, hi⟩]
  refine ext_still rfl rfl (K_ext2 rfl rfl rfl rfl ?_) (by simp [encXs_ids])
  have e4 : emptyExt 48 48 [.sl id (a * 4) (s.length - a) 4 true] nx nx hp = none := rfl
  show orExt _ (orExt _ (orExt _ (orExt (orExt _ _) _))) _ _ _ _ _ = _
  simp only [orExt, e4, h0]
  rfl
def BackV (c : List Wd) (r : Option (AExit × St)) : Prop := ∃ tm' n' hp' x id, r = some (.exit 0, ⟨tm', n', hp'⟩) ∧ tm'.length = 62 ∧ getC tm' 2 = (.ptr 0 0, false) ∧ getC tm' 6 = (.sl id 0 1 4 true, false) ∧ 0 < id ∧ hget hp' id = some (.cells [(.int .i64 x.op, false), (.int .i64 x.n, false), (.str x.name, false), (.lst (encXs x.args), false)]) ∧ hget hp' 0 = some (.cells [(.int .i64 0, false), (.int .i64 0, false), (.str ByteArray.empty, false), (.lst [], true)]) ∧ backX c = x
theorem back_loop (c : List Wd) (hc : codeF c = 0) (tm : List Cell) (nx : Nat) (hp : Heap) (ht : tm.length = 62) (h2 : getC tm 2 = (.ptr 0 0, false)) (h21 : getC tm 21 = (.lst (encWs c), false)) (h22 : getC tm 22 = (.int .i64 c.length, false)) (h23 : getC tm 23 = (.int .i64 0, false)) (h6 : getC tm 6 = (.lst [], true)) (hn : 1 ≤ nx) (hfr : hget hp 0 = some (.cells [(.int .i64 0, false), (.int .i64 0, false), (.str ByteArray.empty, false), (.lst [], true)])) :
    BackV c (X K ⟨0, [26]⟩ (.loop (LB Tryz.prog 12 [(9, [[], [1], [], [3], [], [5], [], [], [], [9], [], [1, 3, 5, 9], []])] 0)) ⟨tm, nx, hp⟩) := by
  have e := LB_open (P := Tryz.prog) [(9, [[], [1], [], [3], [], [5], [], [], [], [9], [], [1, 3, 5, 9], []])] 0 Tryz.func12 rfl rfl (by kernel_rfl)
  simp only [slim, slimO, annO, List.map, List.zip, List.zipWith, List.lookup, holed, loopsOf, List.nil_append, List.cons_append, List.getD_cons_zero, List.getD_cons_succ, Nat.reduceBEq] at e
  obtain ⟨hl, hok, hone⟩ := codeF_zero hc
  refine rounds e c.length (fun k tm n hp => tm.length = 62 ∧ getC tm 2 = (.ptr 0 0, false) ∧ getC tm 21 = (.lst (encWs c), false) ∧ getC tm 22 = (.int .i64 c.length, false) ∧ getC tm 23 = (.int .i64 k, false) ∧ 1 ≤ n ∧ hget hp 0 = some (.cells [(.int .i64 0, false), (.int .i64 0, false), (.str ByteArray.empty, false), (.lst [], true)]) ∧ ∃ s m, Runs fB c k s m ∧ ((s = [] ∧ getC tm 6 = (.lst [], true)) ∨ ∃ id, getC tm 6 = (.sl id 0 s.length 4 true, false) ∧ 1 ≤ id ∧ id < n ∧ 0 < s.length ∧ hget hp id = some (.cells (unown (flats (encXs s)))))) (BackV c) ?_ ?_ 0 tm nx hp (by omega) ⟨ht, h2, h21, h22, h23, hn, hfr, [], 0, Runs.start _ c, .inl ⟨rfl, h6⟩⟩
  · rintro tm n hp r ⟨ht, h2, h21, h22, h23, hn, hfr, s, m, hr, hrow⟩ hX
    simp [ht, h22, h23] at hX
    subst hX
    obtain ⟨x, rfl, hx⟩ := stk_one fB hc hr
    refine ⟨_, _, rfl, by simp, ?_⟩
    rcases hrow with ⟨q, _⟩ | ⟨id, h6, q1, q2, q3, q4⟩
    · cases q
    · exact ⟨_, _, _, x, id, rfl, by simp [ht], by simp [h2], by simp [h6], q1, by rw [q4]; simp [encXs, encX_eq, flats, unown, AVal.flat], hfr, by rw [backX, hx]; rfl⟩
  · rintro k tm n hp r hk ⟨ht, h2, h21, h22, h23, hn, hfr, s, m, hr, hrow⟩ hX
    left
    have hx := List.getElem?_eq_getElem (l := c) (i := k) hk
    generalize c[k] = x at hx
    obtain ⟨c1, har, hle, hr'⟩ := hr.step hok hk hx
    have hkl : (k : Int) < c.length := by omega
    have hxe := encWs_at hx
    have hw2 : IntKind.i64.wrap ((k : Int) + 1) = (k : Int) + 1 := wrap_small (by omega) (by omega)
    have ha := wordF_arity c1
    have hwo := word_op c1
    have hsk := hr.le
    have hw3 : IntKind.i64.wrap ((s.length : Int) - arityF x.op) = ((s.length - arN x : Nat) : Int) := by rw [wrap_small (by omega) (by omega)]; omega
    have hsa : s.length - arN x ≤ s.length := by omega
    have hst : stk1 fB x s = s.take (s.length - arN x) ++ [fB x (s.drop (s.length - arN x))] := rfl
    rw [hst] at hr'
    have key : ∀ (tm2 : List Cell) (n2 i2 : Nat) (h4 : Heap), tm2.length = 62 → getC tm2 2 = (.ptr 0 0, false) → getC tm2 21 = (.lst (encWs c), false) → getC tm2 22 = (.int .i64 c.length, false) → getC tm2 23 = (.int .i64 (k + 1 : Nat), false) → getC tm2 6 = (.sl i2 0 (s.length - arN x + 1) 4 true, false) → 1 ≤ i2 → i2 < n2 → hget h4 0 = some (.cells [(.int .i64 0, false), (.int .i64 0, false), (.str ByteArray.empty, false), (.lst [], true)]) → hget h4 i2 = some (.cells (unown (flats (encXs (s.take (s.length - arN x))) ++ [.int .i64 x.op, .int .i64 x.n, .str x.name, .lst (encXs (s.drop (s.length - arN x)))]))) →
        tm2.length = 62 ∧ getC tm2 2 = (.ptr 0 0, false) ∧ getC tm2 21 = (.lst (encWs c), false) ∧ getC tm2 22 = (.int .i64 c.length, false) ∧ getC tm2 23 = (.int .i64 (k + 1 : Nat), false) ∧ 1 ≤ n2 ∧ hget h4 0 = some (.cells [(.int .i64 0, false), (.int .i64 0, false), (.str ByteArray.empty, false), (.lst [], true)]) ∧ ∃ s m, Runs fB c (k + 1) s m ∧ ((s = [] ∧ getC tm2 6 = (.lst [], true)) ∨ ∃ id, getC tm2 6 = (.sl id 0 s.length 4 true, false) ∧ 1 ≤ id ∧ id < n2 ∧ 0 < s.length ∧ hget h4 id = some (.cells (unown (flats (encXs s))))) := by
      intro tm2 n2 i2 h4 p1 p2 p3 p4 p5 p6 p7 p8 p9 p10
      refine ⟨p1, p2, p3, p4, p5, by omega, p9, _, _, hr', .inr ⟨i2, ?_, p7, p8, by simp, ?_⟩⟩
      · rw [p6, List.length_append, List.length_take, Nat.min_eq_left hsa]; rfl
      · rw [p10, encXs_app, flats_app]
        simp [encXs, encX_eq, flats, AVal.flat, fB, Ex.op, Ex.n, Ex.name, Ex.args]
    clear hr' hst
    have hb2 : (s.length - arN x + 1) * 56 ≤ 140737488355328 := by omega
    rcases hrow with ⟨rfl, h6⟩ | ⟨id, h6, q1, q2, q3, q4⟩
    · have har0 : arN x = 0 := by simpa using hle
      have hz : arityF x.op = 0 := by omega
      have hw4 : IntKind.i64.wrap 0 = 0 := by decide
      have hcn := fun ro nx hp => cloneX_nil ro nx hp
      have hn0 : ¬ n = 0 := by omega
      have hn1 : ¬ n + 1 = 0 := by omega
      have hn0' : ¬ 0 = n := by omega
      simp [ht, h2, h6, h21, h22, h23, hkl, hxe, hw2, hw4, hz, hcn, List.lookup] at hX
      subst hX
      refine ⟨_, _, _, rfl, ?_⟩
      refine key _ _ (n + 1 + 1 + 1) _ ?_ ?_ ?_ ?_ ?_ ?_ ?_ ?_ ?_ ?_
      · simp [ht]
      · simp [h2]
      · simp [h21]
      · simp [h22]
      · simp [ht]
      · simp [ht]
      · omega
      · omega
      · rw [hget_old (by omega), hget_old (by omega), hget_old (by omega), hget_old (by omega)]; exact hfr
      · rw [hget_same]; simp [encXs, flats, unown]
    · have hq : ∀ bl : ABlk, hget ((n, bl) :: hp) id = some (.cells (unown (flats (encXs s)))) := fun bl => by rw [hget_old (by omega), q4]
      have hap := fun (bl bl2 bl3 : ABlk) (ys : List AVal) x' => apM_take (hp := (n + 1 + 1, bl3) :: (n + 1, bl2) :: (n, bl) :: hp) (id := id) (sz := 4) (a := s.length - arN x) (xs := encXs s) (by rw [hget_old (by omega), hget_old (by omega), hget_old (by omega)]; exact q4) encXs_flat (by rw [encXs_len]; exact hsa) (lo := 0) (Nat.zero_le _) hb2 true true false x' (n + 1 + 1 + 1) ys
      simp only [encXs_take] at hap
      have hz0 : ∀ (bl bl2 bl3 bl4 : ABlk), hget ((n + 1 + 1 + 1, bl4) :: hdel ((n + 1 + 1, bl3) :: (n + 1, bl2) :: (n, bl) :: hp) id) 0 = some (.cells [(.int .i64 0, false), (.int .i64 0, false), (.str ByteArray.empty, false), (.lst [], true)]) := by
        intro bl bl2 bl3 bl4
        rw [hget_old (by omega), hget_hdel, if_neg (by omega), hget_old (by omega), hget_old (by omega), hget_old (by omega)]; exact hfr
      have hdr : s.length - arN x < s.length ∨ (¬ s.length - arN x < s.length ∧ s.drop (s.length - arN x) = [] ∧ ¬ s.length - arN x = 0) := by
        by_cases hz : s.length - arN x < s.length
        · exact .inl hz
        · exact .inr ⟨hz, List.drop_eq_nil_of_le (by omega), by omega⟩
      have w1 : ¬ id = n := by omega
      have w2 : ¬ id = n + 1 := by omega
      rcases hdr with hlt | ⟨hlt, hnil, hne⟩
      · have hcl := fun bl ro nx' => cloneX_R (hq bl) hlt (by omega) ro nx'
        generalize s.length - arN x = a at *
        simp [ht, h2, h6, h21, h22, h23, hkl, hxe, hw2, hw3, hsa, hlt, hap, hcl, w1, w2, List.lookup] at hX
        subst hX
        refine ⟨_, _, _, rfl, ?_⟩
        refine key _ (n + 1 + 1 + 1 + 1) (n + 1 + 1 + 1) _ ?_ ?_ ?_ ?_ ?_ ?_ ?_ ?_ ?_ ?_
        · simp [ht]
        · simp [h2]
        · simp [h21]
        · simp [h22]
        · simp [ht]
        · simp [ht]
        · omega
        · omega
        · exact hz0 _ _ _ _
        · rw [hget_same]; simp [unown]
      · rw [hnil] at key
        have hcl := fun ro nx hp => cloneX_nil ro nx hp
        generalize s.length - arN x = a at *
        simp [ht, h2, h6, h21, h22, h23, hkl, hxe, hw2, hw3, hsa, hlt, hne, hap, hcl, w1, w2, List.lookup] at hX
        subst hX
        refine ⟨_, _, _, rfl, ?_⟩
        refine key _ (n + 1 + 1 + 1 + 1) (n + 1 + 1 + 1) _ ?_ ?_ ?_ ?_ ?_ ?_ ?_ ?_ ?_ ?_
        · simp [ht]
        · simp [h2]
        · simp [h21]
        · simp [h22]
        · simp [ht]
        · simp [ht]
        · omega
        · omega
        · exact hz0 _ _ _ _
        · rw [hget_same]; simp [unown, encXs]
theorem back_R (c : List Wd) (ro nx : Nat) (hp : Heap) : R K 12 [.lst (encWs c)] ro nx hp = some ⟨.tup [.agg [.int .i64 (if codeF c = 0 then backE c else exZ).op, .int .i64 (if codeF c = 0 then backE c else exZ).n, .str (if codeF c = 0 then backE c else exZ).name, .lst (encXs (if codeF c = 0 then backE c else exZ).args)], .int .i64 (if codeF c = 0 then exF (backX c) 1 else codeF c)], false, nx, hp⟩ := by
  have hcv := codeFaultV_R c
  by_cases c1 : codeF c = 0
  · rw [R_val' K ro 12 _ nx hp [(9, [[], [1], [], [3], [], [5], [], [], [], [9], [], [1, 3, 5, 9], []])] Tryz.func12 rfl Tryz.ntmps12 Tryz.results12 (mu := [26]) rfl (by kernel_rfl) rfl rfl rfl]; simp only [slim, slimO, annO, List.map, List.zip, List.zipWith, List.lookup, holed, Nat.reduceBEq]
    simp [List.replicate, c1, hcv]
    generalize hb : X K _ (.loop _) _ = r
    obtain ⟨tm', n', hp', x, id, rfl, t1, t2, t3, hid, hg, hg0, hx⟩ : BackV c r := by
      rw [← hb]
      refine back_loop c c1 _ _ _ ?_ ?_ ?_ ?_ ?_ ?_ (by omega) ?_
      all_goals simp
    clear hb
    have hef := checkExpr_R x
    rw [encX_eq] at hef
    unfold backE
    rw [hx]
    have hn0 : ¬ id = 0 := by omega
    have hn1 : ¬ 0 = id := by omega
    by_cases c2 : exF x 1 = 0
    · simp [c2, t1, t2, t3, hg, hg0, hef, encXs, encX_eq, hn0, hn1]
    · simp [c2, t1, t2, t3, hg, hg0, hef, encXs, encX_eq, hn0, hn1]
  · rw [R_val' K ro 12 _ nx hp [(9, [[], [1], [], [3], [], [5], [], [], [], [9], [], [1, 3, 5, 9], []])] Tryz.func12 rfl Tryz.ntmps12 Tryz.results12 (mu := [26]) rfl (by kernel_rfl) rfl rfl rfl]; simp only [slim, slimO, annO, List.map, List.zip, List.zipWith, List.lookup, holed, Nat.reduceBEq]
    simp [List.replicate, c1, hcv, encXs]
end Go.Proofs.YtkpfkadjmijmlaaGreatDoor.M
/- value.stack, StackOf, by the machine. -/
namespace Go.Proofs.YtkpfkadjmijmlaaGreatDoor.M
open Go.Proofs Go.Proofs.YtkpfkadjmijmlaaGreatDoor.X
set_option linter.unusedSimpArgs false
set_option linter.unusedVariables false
set_option maxRecDepth 100000
set_option pp.deepTerms false
set_option pp.deepTerms.threshold 6
set_option maxHeartbeats 4000000
def cellsI (l : List Int) : List Cell := l.map fun n => (encIA n, false)
theorem cellsI_eq (l : List Int) : cellsI l = unown (ints' l) := by simp [cellsI, ints', unown, encIA]
theorem decs_I (l : List Int) : decs decI ((cellsI l).map (·.1)) = some l := by
  induction l with
  | nil => rfl
  | cons k r ih =>
    rw [show (cellsI (k :: r)).map (·.1) = .int .i64 k :: (cellsI r).map (·.1) from rfl, decs, ih]
    simp [decI]
theorem cellsI_len (l : List Int) : (cellsI l).length = l.length := by simp [cellsI]
theorem sortI_R {l : List Int} {id ro nx : Nat} {hp : Heap} (h : hget hp id = some (.cells (cellsI l))) (h0 : 0 < l.length) (h1 : l.length < 1099511627776) (hro : ro ≤ id) :
    R K 83 [.sl id 0 l.length 1 false] ro nx hp = some ⟨.tup [], false, nx, hset hp id (.cells (cellsI (l.mergeSort leI)))⟩ := by
  refine ext_open rfl rfl (K_ext2 rfl rfl rfl rfl ?_)
  have h6 : rowExt 83 decI encIA (fun xs => xs.mergeSort (fun a b => decide (a ≤ b))) (.tup []) (fun _ _ => .tup []) 83 [.sl id 0 l.length 1 false] ro nx hp = some ⟨.tup [], false, nx, hset hp id (.cells (cellsI (l.mergeSort leI)))⟩ := by
    simp only [rowExt, if_true, h, decs_I]
    rw [if_pos ⟨hro, h0, (cellsI_len l).symm, h1, by rw [List.length_mergeSort, cellsI_len]⟩]
    rfl
  simp only [orExt, moreExt2, h6]
theorem sortI_nil (ro nx : Nat) (hp : Heap) : R K 83 [.lst []] ro nx hp = some ⟨.tup [], false, nx, hp⟩ := ext_open rfl rfl (K_ext2 rfl rfl rfl rfl rfl)
theorem revI_R {l : List Int} {id ro nx : Nat} {hp : Heap} (h : hget hp id = some (.cells (cellsI l))) (h0 : 0 < l.length) (h1 : l.length < 1099511627776) (hro : ro ≤ id) :
    R K 84 [.sl id 0 l.length 1 false] ro nx hp = some ⟨.tup [], false, nx, hset hp id (.cells (cellsI l.reverse))⟩ := by
  refine ext_open rfl rfl (K_ext2 rfl rfl rfl rfl ?_)
  have h6 : rowExt 84 decI encIA List.reverse (.tup []) (fun _ _ => .tup []) 84 [.sl id 0 l.length 1 false] ro nx hp = some ⟨.tup [], false, nx, hset hp id (.cells (cellsI l.reverse))⟩ := by
    simp only [rowExt, if_true, h, decs_I]
    rw [if_pos ⟨hro, h0, (cellsI_len l).symm, h1, by rw [List.length_reverse, cellsI_len]⟩]
    rfl
  have h7 : rowExt 83 decI encIA (fun xs => xs.mergeSort (fun a b => decide (a ≤ b))) (.tup []) (fun _ _ => .tup []) 84 [.sl id 0 l.length 1 false] ro nx hp = none := rfl
  simp only [orExt, moreExt2, h6, h7]
theorem revI_nil (ro nx : Nat) (hp : Heap) : R K 84 [.lst []] ro nx hp = some ⟨.tup [], false, nx, hp⟩ := ext_open rfl rfl (K_ext2 rfl rfl rfl rfl rfl)
theorem cloneI_nil (ro nx : Nat) (hp : Heap) : R K 56 [.lst []] ro nx hp = some ⟨.lst [], true, nx, hp⟩ := by
  have h : K.ext 56 [.lst []] 0 0 [] = some ⟨.lst [], true, 0, []⟩ := K_ext2 rfl rfl rfl rfl rfl
  have hv : K.vl 56 = true := rfl
  have hp0 : K.pure 56 = true := rfl
  have hl : low K 56 0 0 = 0 := rfl
  rw [R_eq]
  unfold vlc Fin core
  rw [if_pos hv, if_pos (by simp)]
  dsimp only
  rw [if_pos hp0, hl, h]
  simp
theorem cloneI_R (l : List Int) (hl : l.length ≤ 1000) (ro nx : Nat) (hp : Heap) : R K 56 [.lst (ints' l)] ro nx hp = some ⟨.lst (ints' l), true, nx, hp⟩ := by
  cases l with
  | nil => exact cloneI_nil ro nx hp
  | cons x r =>
    have e1 : ints' (x :: r) = .int .i64 x :: ints' r := rfl
    have hb : (r.length + 1) * 8 ≤ 140737488355328 := by simp only [List.length_cons] at hl; omega
    have hi := ints'_ids 0 r
    rw [e1]
    rw [R_val' K ro 56 _ nx hp [] Tryz.func56 rfl Tryz.ntmps56 Tryz.results56 (mu := []) rfl (by kernel_rfl) rfl rfl rfl]; simp only [slim, slimO, annO, List.map, List.zip, List.zipWith, List.lookup, holed, Nat.reduceBEq]
    simp [List.replicate, hb, hi]
def tryG (n : Nat) (l : List Int) (w m b : Int) (k : Nat) : Int := (List.range k).foldl (fun b i => tryN n (l.take i ++ l.drop (i + 1)) (w + 1) (max m (w + l.getD i 0)) b) b
theorem tryG_succ (n : Nat) (l : List Int) (w m b : Int) (k : Nat) : tryG n l w m b (k + 1) = tryN n (l.take k ++ l.drop (k + 1)) (w + 1) (max m (w + l.getD k 0)) (tryG n l w m b k) := by
  unfold tryG
  rw [List.range_succ, List.foldl_append]; rfl
theorem tryN_succ (n : Nat) (l : List Int) (w m b : Int) : tryN (n + 1) l w m b = tryG n l w m b l.length := rfl
/-- The closure tries all orders. -/
theorem try_R (bi ci : Nat) (hne : bi ≠ ci) : ∀ (n : Nat) (l : List Int), l.length = n → n ≤ 3 → (∀ x ∈ l, 1 ≤ x ∧ x ≤ 100) → ∀ (w m b : Int) (ro nx : Nat) (hp : Heap), 0 ≤ w → w + n ≤ 3 → 0 ≤ m → m ≤ 200 → ro ≤ bi → hget hp bi = some (.cells [(.int .i64 b, false)]) → hget hp ci = some (.cells [(.clo 55 [] [.ptr bi 0, .ptr ci 0], false)]) →
    R K 55 [.lst (ints' l), .int .i64 w, .int .i64 m, .ptr bi 0, .ptr ci 0] ro nx hp = some ⟨.tup [], false, nx, hset hp bi (.cells [(.int .i64 (tryN n l w m b), false)])⟩ := by
  have e := LB_open (P := Tryz.prog) [] 0 Tryz.func55 rfl rfl (by kernel_rfl)
  simp only [slim, slimO, annO, List.map, List.zip, List.zipWith, List.lookup, holed, loopsOf, List.nil_append, List.cons_append, List.getD_cons_zero, List.getD_cons_succ, Nat.reduceBEq] at e
  intro n
  induction n with
  | zero =>
    intro l hl _ _ w m b ro nx hp hw hwn hm hm2 hro hb hc
    obtain rfl : l = [] := List.eq_nil_of_length_eq_zero hl
    have hs : hset hp bi (.cells [(.int .i64 b, false)]) = hp := hset_self hb
    unfold tryN upd
    rw [R_body' K ro 55 _ nx hp [] Tryz.func55 rfl Tryz.ntmps55 Tryz.results55 (mu := []) rfl (by kernel_rfl) rfl rfl rfl rfl]; simp only [slim, slimO, annO, List.map, List.zip, List.zipWith, List.lookup, holed, Nat.reduceBEq]
    by_cases h1 : b = 0
    · simp [List.replicate, ints', hb, h1, hro]
    · by_cases h2 : m < b
      · simp [List.replicate, ints', hb, h1, h2, hro]
      · simp [List.replicate, ints', hb, h1, h2, hro, hs]
  | succ n ih =>
    intro l hl h3 hx w m b ro nx hp hw hwn hm hm2 hro hb hc
    have hne' : ¬ ci = bi := fun q => hne q.symm
    have hloop := rounds (K := K) (ro := ⟨ro, []⟩) e l.length (fun k tm1 n1 h => tm1.length = 49 ∧ getC tm1 0 = (.lst (ints' l), false) ∧ getC tm1 1 = (.int .i64 w, false) ∧ getC tm1 2 = (.int .i64 m, false) ∧ getC tm1 4 = (.ptr ci 0, false) ∧ getC tm1 22 = (.lst (ints' l), false) ∧ getC tm1 23 = (.int .i64 l.length, false) ∧ getC tm1 24 = (.int .i64 k, false) ∧ n1 = nx ∧ h = hset hp bi (.cells [(.int .i64 (tryG n l w m b k), false)]))
      (fun r => ∃ tm', r = some (.exit 0, ⟨tm', nx, hset hp bi (.cells [(.int .i64 (tryN (n + 1) l w m b), false)])⟩) ∧ tm'.length = 49) (fun tm1 n1 h r => by
        rintro ⟨ht, t0, t1, t2, t4, t22, t23, t24, rfl, rfl⟩ hX
        simp [ht, t23, t24] at hX
        subst hX
        exact ⟨_, _, rfl, by simp, _, by rw [tryN_succ], by simp [ht]⟩) (fun k tm1 n1 h r hk => by
        rintro ⟨ht, t0, t1, t2, t4, t22, t23, t24, rfl, rfl⟩ hX
        left
        have hgx := List.getElem?_eq_getElem (l := l) (i := k) hk
        have hgd : l.getD k 0 = l[k] := by rw [List.getD_eq_getElem?_getD, hgx]; rfl
        have hxk := hx l[k] (List.getElem_mem hk)
        rw [tryG_succ n l w m b k, hgd]
        generalize hy : l[k] = y at hgx hxk
        generalize tryG n l w m b k = b1 at hX ⊢
        have hkl : (k : Int) < l.length := by omega
        have hxe : (ints' l)[k]? = some (.int .i64 y) := by simp [ints', hgx]
        have hw2 : IntKind.i64.wrap ((k : Int) + 1) = ((k + 1 : Nat) : Int) := wrap_small (by omega) (by omega)
        have hw3 : IntKind.i64.wrap (w + 1) = w + 1 := wrap_small (by omega) (by omega)
        have hw4 : IntKind.i64.wrap (w + y) = w + y := wrap_small (by omega) (by omega)
        have hmx : amax (.int .i64 m) (.int .i64 (w + y)) = some (.int .i64 (max m (w + y))) := by
          simp only [amax]; split <;> (congr 2; omega)
        have hcl := fun ro nx hp => cloneI_R (l.take k) (by rw [List.length_take]; omega) ro nx hp
        have hk1 : (k : Int) + 1 ≤ l.length := by omega
        have hk0 : (0 : Int) ≤ (k : Int) + 1 := by omega
        have hkk : k ≤ l.length := by omega
        have hlen : (k + (l.length - (k + 1))) * 8 ≤ 140737488355328 := by omega
        have happ : ints' (l.take k) ++ ints' (l.drop (k + 1)) = ints' (l.take k ++ l.drop (k + 1)) := by simp [ints']
        have hb1 : hget (hset hp bi (.cells [(.int .i64 b1, false)])) bi = some (.cells [(.int .i64 b1, false)]) := by simp [hb]
        have hc1 : hget (hset hp bi (.cells [(.int .i64 b1, false)])) ci = some (.cells [(.clo 55 [] [.ptr bi 0, .ptr ci 0], false)]) := by rw [hget_hset, if_neg hne']; exact hc
        have hih := ih (l.take k ++ l.drop (k + 1)) (by simp; omega) (by omega) (fun z hz => hx z (by
          rcases List.mem_append.1 hz with q | q
          · exact List.mem_of_mem_take q
          · exact List.mem_of_mem_drop q)) (w + 1) (max m (w + y)) b1 ro n1 _ (by omega) (by omega) (by omega) (by omega) hro hb1 hc1
        rw [hset_hset] at hih
        simp [ht, t0, t1, t2, t4, t22, t23, t24, hkl, hxe, hw2, hw3, hw4, hmx, hk1, hk0, hkk, ints'_take, ints'_drop, ints'_all, hcl, hlen, happ, hc1, hc, hne', hih, List.lookup] at hX
        subst hX
        refine ⟨_, _, _, rfl, by simp [ht], by simp [t0], by simp [t1], by simp [t2], by simp [t4], by simp [t22], by simp [t23], by simp [ht], rfl, rfl⟩) 0
    have hl0 : ¬ l = [] := by intro q; rw [q] at hl; simp at hl
    generalize hX : R K _ _ _ _ _ = z
    rw [R_body' K ro 55 _ nx hp [] Tryz.func55 rfl Tryz.ntmps55 Tryz.results55 (mu := []) rfl (by kernel_rfl) rfl rfl rfl rfl] at hX; simp only [slim, slimO, annO, List.map, List.zip, List.zipWith, List.lookup, holed, Nat.reduceBEq] at hX
    simp [List.replicate, hl0] at hX
    generalize hg : X K _ (.loop _) _ = r at hX
    obtain ⟨tm', rfl, g1⟩ : ∃ tm', r = some (.exit 0, ⟨tm', nx, hset hp bi (.cells [(.int .i64 (tryN (n + 1) l w m b), false)])⟩) ∧ tm'.length = 49 := by
      rw [← hg]
      refine hloop _ _ _ (by omega) ?_
      refine ⟨?_, ?_, ?_, ?_, ?_, ?_, ?_, ?_, rfl, (hset_self hb).symm⟩
      all_goals simp
    rw [← hX]
    simp
theorem leaf_args {x : Ex} {d : Int} (h : exF x d = 0) : x.args.length ≤ 3 := by
  have q4 := (own_zero (exF_zero h).1).2.2.2.1
  have := arity_le x.op
  omega
theorem stack_small {x : Ex} {d : Int} (h : exF x d = 0) (hd : 1 ≤ d) : 1 ≤ stackX x ∧ stackX x ≤ 100 := by
  have h0 := (own_zero (exF_zero h).1).1
  have := stack_bound (21 - d).toNat x d h (by omega)
  omega
theorem stackXs_len (l : List Ex) : (stackXs l).length = l.length := by rw [stackXs_eq, List.length_map]
theorem stackOf_R : ∀ (N : Nat) (x : Ex) (d : Int), SizeOf.sizeOf x < N → 1 ≤ d → exF x d = 0 → ∀ (ro nx : Nat) (hp : Heap), R K 17 [encX x] ro nx hp = some ⟨.int .i64 (stackX x), false, nx, hp⟩ := by
  have e := LB_open (P := Tryz.prog) [] 0 Tryz.func17 rfl rfl (by kernel_rfl)
  simp only [slim, slimO, annO, List.map, List.zip, List.zipWith, List.lookup, holed, loopsOf, List.nil_append, List.cons_append, List.getD_cons_zero, List.getD_cons_succ, Nat.reduceBEq] at e
  intro N
  induction N with
  | zero => intro x d hx; omega
  | succ N ih =>
    intro x d hx hd hf ro nx hp
    obtain ⟨h1, h2⟩ := exF_zero hf
    have hla := leaf_args hf
    have hsx : ∀ y ∈ stackXs x.args, 1 ≤ y ∧ y ≤ 100 := by
      intro y hy
      rw [stackXs_eq] at hy
      obtain ⟨z, hz, rfl⟩ := List.mem_map.1 hy
      exact stack_small (exsF_mem h2 z hz) (by omega)
    by_cases hl0 : x.args.length = 0
    · have ha : x.args = [] := List.eq_nil_of_length_eq_zero hl0
      rw [stackX_eq, ha]
      have h1 : stackL (stackXs []) = 1 := by rw [stackXs]; unfold stackL; rw [sortI_eq (List.Perm.refl []) (by simp)]; rfl
      rw [h1]
      rw [R_val' K ro 17 _ nx hp [] Tryz.func17 rfl Tryz.ntmps17 Tryz.results17 (mu := []) rfl (by kernel_rfl) rfl rfl rfl]; simp only [slim, slimO, annO, List.map, List.zip, List.zipWith, List.lookup, holed, Nat.reduceBEq]
      simp [List.replicate, encX_eq, encXs_len, ha, encXs]
    · have hloop := rounds (K := K) (ro := ⟨0, []⟩) e x.args.length (fun k tm1 n h => tm1.length = 30 ∧ getC tm1 13 = (.lst (encXs x.args), false) ∧ getC tm1 14 = (.int .i64 x.args.length, false) ∧ getC tm1 15 = (.int .i64 k, false) ∧ getC tm1 3 = (.lst (ints' (stackXs (x.args.take k))), true))
        (fun r => ∃ tm' n' hp', r = some (.exit 0, ⟨tm', n', hp'⟩) ∧ tm'.length = 30 ∧ getC tm' 3 = (.lst (ints' (stackXs x.args)), true)) (fun tm1 n h r => by
          rintro ⟨ht, t13, t14, t15, t3⟩ hX
          rw [List.take_length] at t3
          simp [ht, t14, t15] at hX
          subst hX
          exact ⟨_, _, rfl, by simp, _, _, _, rfl, by simp [ht], by simp [t3]⟩) (fun k tm1 n h r hk => by
          rintro ⟨ht, t13, t14, t15, t3⟩ hX
          left
          have hx := List.getElem?_eq_getElem (l := x.args) (i := k) hk
          have htk : ints' (stackXs (x.args.take (k + 1))) = ints' (stackXs (x.args.take k)) ++ [.int .i64 (stackX x.args[k])] := by
            have q : x.args.take (k + 1) = x.args.take k ++ [x.args[k]] := by rw [List.take_add_one, hx]; rfl
            rw [q, stackXs_eq, stackXs_eq, List.map_append, ints'_app]; rfl
          have hlk : (stackXs (x.args.take k)).length = k := by rw [stackXs_len, List.length_take]; omega
          generalize x.args[k] = y at hx htk
          have hym := List.mem_of_getElem? hx
          have hkl : (k : Int) < x.args.length := by omega
          have hxe := encXs_at hx
          have hw2 : IntKind.i64.wrap ((k : Int) + 1) = (k : Int) + 1 := wrap_small (by omega) (by omega)
          have hxm := fun ro nx hp => ih y (d + 1) (by have := args_lt hym; omega) (by omega) (exsF_mem h2 y hym) ro nx hp
          rw [encX_eq] at hxm hxe
          have hlen : (k + 1) * 8 ≤ 140737488355328 := by omega
          rw [htk]
          generalize stackXs (x.args.take k) = zs at t3 hlk ⊢
          simp [ht, t3, t13, t14, t15, hkl, hxe, hw2, hxm, hlk, hlen] at hX
          subst hX
          exact ⟨_, _, _, rfl, by simp [ht], by simp [t13], by simp [t14], by simp [ht], by simp [ht, ints']⟩) 0
      have hl1 : ¬ x.args = [] := by intro q; rw [q] at hl0; simp at hl0
      rw [R_val' K ro 17 _ nx hp [] Tryz.func17 rfl Tryz.ntmps17 Tryz.results17 (mu := []) rfl (by kernel_rfl) rfl rfl rfl]; simp only [slim, slimO, annO, List.map, List.zip, List.zipWith, List.lookup, holed, Nat.reduceBEq]
      simp [List.replicate, encX_eq, encXs_len, hl0, hl1]
      generalize hg : X K _ (.loop _) _ = r
      obtain ⟨tm', n', hp', rfl, g1, g2⟩ : ∃ tm' n' hp', r = some (.exit 0, ⟨tm', n', hp'⟩) ∧ tm'.length = 30 ∧ getC tm' 3 = (.lst (ints' (stackXs x.args)), true) := by
        rw [← hg]
        refine hloop _ _ _ (by omega) ⟨?_, ?_, ?_, ?_, ?_⟩
        all_goals simp [stackXs, ints']
      clear hg hloop
      have htry := try_R n' (n' + 1) (by omega) x.args.length (stackXs x.args) (stackXs_len _) hla hsx 0 0 0 0 (n' + 1 + 1) ((n' + 1, .cells [(.clo 55 [] [.ptr n' 0, .ptr (n' + 1) 0], false)]) :: (n', .cells [(.int .i64 0, false)]) :: hp') (by omega) (by omega) (by omega) (by omega) (by omega) (by simp) (by simp)
      have hts := try_stack (l := stackXs x.args) (fun y hy => (hsx y hy).1) (by rw [stackXs_len]; omega) (by rw [stackXs_len]; exact hla)
      rw [stackXs_len] at hts
      rw [hts] at htry
      rw [stackX_eq]
      simp at htry
      simp [g1, g2, htry]
end Go.Proofs.YtkpfkadjmijmlaaGreatDoor.M
/- value.stack; slices.Equal of words. -/
namespace Go.Proofs.YtkpfkadjmijmlaaGreatDoor.M
open Go.Proofs Go.Proofs.YtkpfkadjmijmlaaGreatDoor.X
set_option linter.unusedSimpArgs false
set_option linter.unusedVariables false
set_option maxRecDepth 100000
set_option pp.deepTerms false
set_option pp.deepTerms.threshold 6
set_option maxHeartbeats 4000000
theorem vstack_loop1 (x : Ex) (hla : x.args.length ≤ 3) (hst : ∀ y ∈ x.args, (1 ≤ stackX y ∧ stackX y ≤ 100) ∧ ∀ (ro nx : Nat) (hp : Heap), R K 45 [encX y] ro nx hp = some ⟨.int .i64 (stackX y), false, nx, hp⟩) (tm : List Cell) (nx : Nat) (hp : Heap) (ht : tm.length = 40) (h10 : getC tm 10 = (.lst (encXs x.args), false)) (h11 : getC tm 11 = (.int .i64 x.args.length, false)) (h12 : getC tm 12 = (.int .i64 0, false)) (h3 : getC tm 3 = (.lst [], true)) :
    ∃ tm' n' hp' v f, X K ⟨0, [22]⟩ (.loop (LB Tryz.prog 45 [] 0)) ⟨tm, nx, hp⟩ = some (.exit 0, ⟨tm', n', hp'⟩) ∧ tm'.length = 40 ∧ getC tm' 3 = (v, f) ∧ v ≠ .nils ∧ RowV hp' 0 n' 1 false (ints' (stackXs x.args)) v f := by
  have e := LB_open (P := Tryz.prog) [] 0 Tryz.func45 rfl rfl (by kernel_rfl)
  simp only [slim, slimO, annO, List.map, List.zip, List.zipWith, List.lookup, holed, loopsOf, List.nil_append, List.cons_append, List.getD_cons_zero, List.getD_cons_succ, Nat.reduceBEq] at e
  refine rounds e x.args.length (fun k tm1 n h => tm1.length = 40 ∧ getC tm1 10 = (.lst (encXs x.args), false) ∧ getC tm1 11 = (.int .i64 x.args.length, false) ∧ getC tm1 12 = (.int .i64 k, false) ∧ ∃ v f, getC tm1 3 = (v, f) ∧ v ≠ .nils ∧ RowV h 0 n 1 false (ints' (stackXs (x.args.take k))) v f)
    (fun r => ∃ tm' n' hp' v f, r = some (.exit 0, ⟨tm', n', hp'⟩) ∧ tm'.length = 40 ∧ getC tm' 3 = (v, f) ∧ v ≠ .nils ∧ RowV hp' 0 n' 1 false (ints' (stackXs x.args)) v f) ?_ ?_ 0 tm nx hp (by omega) ⟨ht, h10, h11, h12, .lst [], true, h3, by simp, .inl ⟨rfl, .inl ⟨rfl, rfl⟩⟩⟩
  · rintro tm1 n h r ⟨ht, t10, t11, t12, v, f, t3, hv, hr⟩ hX
    rw [List.take_length] at hr
    simp [ht, t11, t12] at hX
    subst hX
    exact ⟨_, _, rfl, by simp, _, _, _, v, f, rfl, by simp [ht], by simp [t3], hv, hr⟩
  · rintro k tm1 n h r hk ⟨ht, t10, t11, t12, v, f, t3, hv, hr⟩ hX
    left
    have hx := List.getElem?_eq_getElem (l := x.args) (i := k) hk
    have htk : ints' (stackXs (x.args.take (k + 1))) = ints' (stackXs (x.args.take k)) ++ [.int .i64 (stackX x.args[k])] := by
      have q : x.args.take (k + 1) = x.args.take k ++ [x.args[k]] := by rw [List.take_add_one, hx]; rfl
      rw [q, stackXs_eq, stackXs_eq, List.map_append, ints'_app]; rfl
    have hlk : (stackXs (x.args.take k)).length = k := by rw [stackXs_len, List.length_take]; omega
    obtain ⟨_, hxm⟩ := hst x.args[k] (List.getElem_mem hk)
    rw [htk]
    generalize x.args[k] = y at hx hxm
    have hkl : (k : Int) < x.args.length := by omega
    have hxe := encXs_at hx
    have hw2 : IntKind.i64.wrap ((k : Int) + 1) = (k : Int) + 1 := wrap_small (by omega) (by omega)
    rw [encX_eq] at hxm hxe
    generalize stackXs (x.args.take k) = zs at hr hlk
    obtain ⟨h3', hap, _, _⟩ := hr.app (hp' := (n + 1, .cells [(.int .i64 (stackX y), false)]) :: (n, .cells [(.int .i64 y.op, false), (.int .i64 y.n, false), (.str y.name, false), (.lst (encXs y.args), false)]) :: h) (n' := n + 1 + 1) (b := 8) (k := 1) (ys := [.int .i64 (stackX y)]) ints'_flat (fun id hid => by rw [hget_old (by omega), hget_old (by omega)]) (by decide) (by rw [ints'_len, hlk]; omega)
    rw [ints'_len, hlk] at hap
    have hfl : flats (ints' zs ++ [.int .i64 (stackX y)]) = flats (ints' zs) ++ [.int .i64 (stackX y)] := by rw [flats_app]; rfl
    have key : ∀ (tm2 : List Cell) (h4 : Heap), h4 = (n + 1 + 1, ABlk.cells (unown (flats (ints' zs) ++ [.int .i64 (stackX y)]))) :: h3' → tm2.length = 40 → getC tm2 10 = (.lst (encXs x.args), false) → getC tm2 11 = (.int .i64 x.args.length, false) → getC tm2 12 = (.int .i64 (k + 1 : Nat), false) → getC tm2 3 = (.sl (n + 1 + 1) 0 (k + 1) 1 false, false) →
        tm2.length = 40 ∧ getC tm2 10 = (.lst (encXs x.args), false) ∧ getC tm2 11 = (.int .i64 x.args.length, false) ∧ getC tm2 12 = (.int .i64 (k + 1 : Nat), false) ∧ ∃ v f, getC tm2 3 = (v, f) ∧ v ≠ .nils ∧ RowV h4 0 (n + 1 + 1 + 1) 1 false (ints' zs ++ [.int .i64 (stackX y)]) v f := by
      intro tm2 h4 e4 p1 p2 p3 p4 p5
      subst e4
      refine ⟨p1, p2, p3, p4, _, _, p5, by simp, ?_⟩
      have := RowV.sl (hp := (n + 1 + 1, ABlk.cells (unown (flats (ints' zs) ++ [.int .i64 (stackX y)]))) :: h3') (ro := 0) (sz := 1) (m := n + 1 + 1 + 1) (ag := false) (n := n + 1 + 1) (xs := ints' zs ++ [.int .i64 (stackX y)]) (by rw [hfl]; exact hget_same _ _ _) (by omega) (by omega) (by simp)
      rwa [List.length_append, ints'_len, hlk] at this
    rcases hr with ⟨_, ⟨rfl, rfl⟩ | ⟨rfl, rfl⟩⟩ | ⟨id, rfl, rfl, _⟩
    · simp [ht, t3, t10, t11, t12, hkl, hxe, hw2, hxm, hap, -apM_nil] at hX
      subst hX
      refine ⟨_, _, _, rfl, ?_⟩
      refine key _ _ (by simp [unown]) ?_ ?_ ?_ ?_ ?_
      all_goals simp [ht, t10, t11]
    · exact absurd rfl hv
    · rw [ints'_len, hlk] at t3 hap
      simp [ht, t3, t10, t11, t12, hkl, hxe, hw2, hxm, hap] at hX
      subst hX
      refine ⟨_, _, _, rfl, ?_⟩
      refine key _ _ (by simp [unown]) ?_ ?_ ?_ ?_ ?_
      all_goals simp [ht, t10, t11]
theorem vstack_loop2 (l : List Int) (hl : l.length ≤ 3) (hb : ∀ y ∈ l, 1 ≤ y ∧ y ≤ 100) (v : AVal) (hp0 : Heap) (hv : (l = [] ∧ v = .lst []) ∨ ∃ id, v = .sl id 0 l.length 1 false ∧ hget hp0 id = some (.cells (cellsI l))) (tm : List Cell) (nx : Nat) (ht : tm.length = 40) (h26 : getC tm 26 = (v, false)) (h27 : getC tm 27 = (.int .i64 l.length, false)) (h28 : getC tm 28 = (.int .i64 0, false)) (h6 : getC tm 6 = (.int .i64 1, false)) :
    ∃ tm', X K ⟨0, [22]⟩ (.loop (LB Tryz.prog 45 [] 1)) ⟨tm, nx, hp0⟩ = some (.exit 2, ⟨tm', nx, hp0⟩) ∧ tm'.length = 40 ∧ getC tm' 6 = (.int .i64 (mostGo l 0 1), false) := by
  have e := LB_open (P := Tryz.prog) [] 1 Tryz.func45 rfl rfl (by kernel_rfl)
  simp only [slim, slimO, annO, List.map, List.zip, List.zipWith, List.lookup, holed, loopsOf, List.nil_append, List.cons_append, List.getD_cons_zero, List.getD_cons_succ, Nat.reduceBEq] at e
  refine rounds e l.length (fun k tm1 n h => tm1.length = 40 ∧ getC tm1 26 = (v, false) ∧ getC tm1 27 = (.int .i64 l.length, false) ∧ getC tm1 28 = (.int .i64 k, false) ∧ n = nx ∧ h = hp0 ∧ ∃ m, getC tm1 6 = (.int .i64 m, false) ∧ mostGo (l.drop k) k m = mostGo l 0 1)
    (fun r => ∃ tm', r = some (.exit 2, ⟨tm', nx, hp0⟩) ∧ tm'.length = 40 ∧ getC tm' 6 = (.int .i64 (mostGo l 0 1), false)) ?_ ?_ 0 tm nx hp0 (by omega) ⟨ht, h26, h27, h28, rfl, rfl, 1, h6, rfl⟩
  · rintro tm1 n h r ⟨ht, t26, t27, t28, rfl, rfl, m, t6, hm⟩ hX
    rw [List.drop_length, mostGo] at hm
    simp [ht, t27, t28] at hX
    subst hX
    exact ⟨_, _, rfl, by simp, _, rfl, by simp [ht], by simp [t6, hm]⟩
  · rintro k tm1 n h r hk ⟨ht, t26, t27, t28, rfl, rfl, m, t6, hm⟩ hX
    left
    have hx := List.getElem?_eq_getElem (l := l) (i := k) hk
    rw [List.drop_eq_getElem_cons hk, mostGo] at hm
    have hby := hb l[k] (List.getElem_mem hk)
    generalize l[k] = y at hx hm hby
    have hkl : (k : Int) < l.length := by omega
    have hw2 : IntKind.i64.wrap ((k : Int) + 1) = (k : Int) + 1 := wrap_small (by omega) (by omega)
    have hw3 : IntKind.i64.wrap (y + k) = y + k := wrap_small (by omega) (by omega)
    have hmx : amax (.int .i64 m) (.int .i64 (y + k)) = some (.int .i64 (max m (y + k))) := by
      simp only [amax]; split <;> (congr 2; omega)
    rcases hv with ⟨rfl, rfl⟩ | ⟨id, rfl, hg⟩
    · simp at hk
    · have hc : (cellsI l)[k]? = some (.int .i64 y, false) := by simp [cellsI, hx, encIA]
      simp [ht, t6, t26, t27, t28, hkl, hw2, hw3, hmx, hg, hc] at hX
      subst hX
      exact ⟨_, _, _, rfl, by simp [ht], by simp [t26], by simp [t27], by simp [ht], rfl, rfl, max m (y + k), by simp [ht], by rw [← hm]; rfl⟩
theorem vstack_R : ∀ (N : Nat) (x : Ex) (d : Int), SizeOf.sizeOf x < N → 1 ≤ d → exF x d = 0 → ∀ (ro nx : Nat) (hp : Heap), R K 45 [encX x] ro nx hp = some ⟨.int .i64 (stackX x), false, nx, hp⟩ := by
  intro N
  induction N with
  | zero => intro x d hx; omega
  | succ N ih =>
    intro x d hx hd hf ro nx hp
    obtain ⟨h1, h2⟩ := exF_zero hf
    have hla := leaf_args hf
    have hst : ∀ y ∈ x.args, (1 ≤ stackX y ∧ stackX y ≤ 100) ∧ ∀ (ro nx : Nat) (hp : Heap), R K 45 [encX y] ro nx hp = some ⟨.int .i64 (stackX y), false, nx, hp⟩ := fun y hy => ⟨stack_small (exsF_mem h2 y hy) (by omega), ih y (d + 1) (by have := args_lt hy; omega) (by omega) (exsF_mem h2 y hy)⟩
    rw [stackX_eq]
    rw [R_val' K ro 45 _ nx hp [] Tryz.func45 rfl Tryz.ntmps45 Tryz.results45 (mu := [22]) rfl (by kernel_rfl) rfl rfl rfl]; simp only [slim, slimO, annO, List.map, List.zip, List.zipWith, List.lookup, holed, Nat.reduceBEq]
    simp [List.replicate, encX_eq, encXs_len]
    generalize hg : X K _ (.loop _) _ = r
    obtain ⟨tm', n', hp', v, f, rfl, g1, g2, g3, g4⟩ : ∃ tm' n' hp' v f, r = some (.exit 0, ⟨tm', n', hp'⟩) ∧ tm'.length = 40 ∧ getC tm' 3 = (v, f) ∧ v ≠ .nils ∧ RowV hp' 0 n' 1 false (ints' (stackXs x.args)) v f := by
      rw [← hg]
      refine vstack_loop1 x hla hst _ _ _ ?_ ?_ ?_ ?_ ?_
      all_goals simp
    clear hg
    have hsx : ∀ y ∈ stackXs x.args, 1 ≤ y ∧ y ≤ 100 := by
      intro y hy
      rw [stackXs_eq] at hy
      obtain ⟨z, hz, rfl⟩ := List.mem_map.1 hy
      exact (hst z hz).1
    have hsl := stackXs_len x.args
    unfold stackL
    generalize stackXs x.args = zs at g4 hsx hsl
    have hrl : ((zs.mergeSort leI).reverse).length = zs.length := by rw [List.length_reverse, List.length_mergeSort]
    have hrb : ∀ y ∈ (zs.mergeSort leI).reverse, 1 ≤ y ∧ y ≤ 100 := fun y hy => hsx y (by rwa [List.mem_reverse, (List.mergeSort_perm _ _).mem_iff] at hy)
    rcases g4 with ⟨hz, ⟨rfl, rfl⟩ | ⟨rfl, rfl⟩⟩ | ⟨id, rfl, rfl, k3, k4, k5, k6⟩
    · have hz' : zs = [] := by cases zs with | nil => rfl | cons a r => simp [ints'] at hz
      subst hz'
      have hso := sortI_nil
      have hre := revI_nil
      simp [g1, g2, hso, hre]
      generalize hg : X K _ (.loop _) _ = r
      obtain ⟨tm2, rfl, q1, q2⟩ : ∃ tm2, r = some (.exit 2, ⟨tm2, n', hp'⟩) ∧ tm2.length = 40 ∧ getC tm2 6 = (.int .i64 (mostGo ((([] : List Int).mergeSort leI).reverse) 0 1), false) := by
        rw [← hg]
        refine vstack_loop2 _ (by rw [hrl]; simp) hrb (.lst []) _ (.inl ⟨List.eq_nil_of_length_eq_zero (by rw [hrl]; rfl), rfl⟩) _ _ ?_ ?_ ?_ ?_ ?_
        all_goals simp [g1]
      clear hg
      simp at q2
      simp [q1, q2]
    · exact absurd rfl g3
    · rw [ints'_len] at k5 g2
      rw [flats_ints', ← cellsI_eq] at k6
      have hso := fun ro => sortI_R (ro := ro) (nx := n') k6 k5 (by omega)
      have k7 : hget (hset hp' id (.cells (cellsI (zs.mergeSort leI)))) id = some (.cells (cellsI (zs.mergeSort leI))) := by rw [hget_hset_same, k6]; rfl
      have hre := fun ro => revI_R (ro := ro) (nx := n') k7 (by rw [List.length_mergeSort]; exact k5) (by rw [List.length_mergeSort]; omega)
      rw [List.length_mergeSort] at hre
      have k8 : hget (hset hp' id (.cells (cellsI (zs.mergeSort leI).reverse))) id = some (.cells (cellsI (zs.mergeSort leI).reverse)) := by rw [hget_hset_same, k6]; rfl
      have hso0 := hso 0 (Nat.zero_le _)
      have hre0 := hre 0 (Nat.zero_le _)
      rw [hset_hset] at hre0
      simp [g1, g2, hso0, hre0]
      generalize hg : X K _ (.loop _) _ = r
      obtain ⟨tm2, rfl, q1, q2⟩ : ∃ tm2, r = some (.exit 2, ⟨tm2, n', hset hp' id (.cells (cellsI (zs.mergeSort leI).reverse))⟩) ∧ tm2.length = 40 ∧ getC tm2 6 = (.int .i64 (mostGo ((zs.mergeSort leI).reverse) 0 1), false) := by
        rw [← hg]
        refine vstack_loop2 _ (by rw [hrl]; omega) hrb (.sl id 0 zs.length 1 false) _ (.inr ⟨id, by rw [hrl], k8⟩) _ _ ?_ ?_ ?_ ?_ ?_
        all_goals simp [g1]
      clear hg
      simp [q1, q2]
theorem vStack_R (x : Ex) (ro nx : Nat) (hp : Heap) : R K 11 [encX x] ro nx hp = some ⟨.tup [.int .i64 (if exF x 1 = 0 then stackX x else 0), .int .i64 (exF x 1)], false, nx, hp⟩ := by
  have hce := checkExpr_R x
  rw [encX_eq] at hce
  by_cases c : exF x 1 = 0
  · have hs := fun ro nx hp => vstack_R _ x 1 (Nat.lt_succ_self _) (by decide) c ro nx hp
    rw [encX_eq] at hs
    rw [R_val' K ro 11 _ nx hp [] Tryz.func11 rfl Tryz.ntmps11 Tryz.results11 (mu := []) rfl (by kernel_rfl) rfl rfl rfl]; simp only [slim, slimO, annO, List.map, List.zip, List.zipWith, List.lookup, holed, Nat.reduceBEq]
    simp [List.replicate, encX_eq, hce, c, hs]
  · rw [R_val' K ro 11 _ nx hp [] Tryz.func11 rfl Tryz.ntmps11 Tryz.results11 (mu := []) rfl (by kernel_rfl) rfl rfl rfl]; simp only [slim, slimO, annO, List.map, List.zip, List.zipWith, List.lookup, holed, Nat.reduceBEq]
    simp [List.replicate, encX_eq, hce, c]
end Go.Proofs.YtkpfkadjmijmlaaGreatDoor.M
/- SameExpr of an expression with itself; slices.Equal of words. -/
namespace Go.Proofs.YtkpfkadjmijmlaaGreatDoor.M
open Go.Proofs Go.Proofs.YtkpfkadjmijmlaaGreatDoor.X
set_option linter.unusedSimpArgs false
set_option linter.unusedVariables false
set_option maxRecDepth 100000
set_option pp.deepTerms false
set_option pp.deepTerms.threshold 6
set_option maxHeartbeats 4000000
theorem selfQ_R : ∀ (N : Nat) (x : Ex) (d : Int), SizeOf.sizeOf x < N → exF x d = 0 → ∀ (ro nx : Nat) (hp : Heap), R K 21 [encX x, encX x] ro nx hp = some ⟨.bool true, false, nx, hp⟩ := by
  have e := LB_open (P := Tryz.prog) [] 0 Tryz.func59 rfl rfl (by kernel_rfl)
  simp only [slim, slimO, annO, List.map, List.zip, List.zipWith, List.lookup, holed, loopsOf, List.nil_append, List.cons_append, List.getD_cons_zero, List.getD_cons_succ, Nat.reduceBEq] at e
  intro N
  induction N with
  | zero => intro x d hx; omega
  | succ N ih =>
    intro x d hx hf ro nx hp
    obtain ⟨h1, h2⟩ := exF_zero hf
    have h3 := leaf_args hf
    have hloop := rounds (K := K) (ro := ⟨0, []⟩) e x.args.length (fun k tm1 n h => tm1.length = 32 ∧ getC tm1 1 = (.lst (encXs x.args), false) ∧ getC tm1 2 = (.clo 21 [] [], false) ∧ getC tm1 15 = (.lst (encXs x.args), false) ∧ getC tm1 16 = (.int .i64 x.args.length, false) ∧ getC tm1 17 = (.int .i64 k, false))
      (fun r => ∃ tm' n' hp', r = some (.exit 0, ⟨tm', n', hp'⟩) ∧ tm'.length = 32) (fun tm1 n h r => by
        rintro ⟨ht, h1, h2, h15, h16, h17⟩ hX
        simp [ht, h16, h17] at hX
        subst hX
        exact ⟨_, _, rfl, by simp, _, _, _, rfl, by simp [ht]⟩) (fun k tm1 n h r hk => by
        rintro ⟨ht, t1, t2, t15, t16, t17⟩ hX
        left
        have hxk := List.getElem?_eq_getElem (l := x.args) (i := k) hk
        generalize x.args[k] = u at hxk
        have hum := List.mem_of_getElem? hxk
        have hkl : (k : Int) < x.args.length := by omega
        have hue := encXs_at hxk
        have hw2 : IntKind.i64.wrap ((k : Int) + 1) = (k : Int) + 1 := wrap_small (by omega) (by omega)
        have hxm := fun ro nx hp => ih u (d + 1) (by have := args_lt hum; omega) (exsF_mem h2 u hum) ro nx hp
        rw [encX_eq u] at hxm hue
        simp [ht, t1, t2, t15, t16, t17, hkl, hue, hw2, hxm] at hX
        subst hX
        exact ⟨_, _, _, rfl, by simp [ht], by simp [t1], by simp [t2], by simp [t15], by simp [t16], by simp [ht]⟩) 0
    have heq : ∀ (ro nx : Nat) (hp : Heap), R K 59 [.lst (encXs x.args), .lst (encXs x.args), .clo 21 [] []] ro nx hp = some ⟨.bool true, false, nx, hp⟩ := by
      intro ro nx hp
      rw [R_val' K ro 59 _ nx hp [] Tryz.func59 rfl Tryz.ntmps59 Tryz.results59 (mu := []) rfl (by kernel_rfl) rfl rfl rfl]; simp only [slim, slimO, annO, List.map, List.zip, List.zipWith, List.lookup, holed, Nat.reduceBEq]
      simp [List.replicate, encXs_len]
      generalize hg : X K _ (.loop _) _ = r
      obtain ⟨tm', n', hp', rfl, g1⟩ : ∃ tm' n' hp', r = some (.exit 0, ⟨tm', n', hp'⟩) ∧ tm'.length = 32 := by
        rw [← hg]
        refine hloop _ _ _ (by omega) ?_
        refine ⟨?_, ?_, ?_, ?_, ?_, ?_⟩
        all_goals simp
      clear hg hloop
      simp [g1]
    rw [R_val' K ro 21 _ nx hp [] Tryz.func21 rfl Tryz.ntmps21 Tryz.results21 (mu := []) rfl (by kernel_rfl) rfl rfl rfl]; simp only [slim, slimO, annO, List.map, List.zip, List.zipWith, List.lookup, holed, Nat.reduceBEq]
    simp [List.replicate, encX_eq, encXs_len, heq]
theorem self_R {x : Ex} {d : Int} (h : exF x d = 0) (ro nx : Nat) (hp : Heap) : R K 21 [encX x, encX x] ro nx hp = some ⟨.bool true, false, nx, hp⟩ := selfQ_R _ x d (Nat.lt_succ_self _) h ro nx hp
theorem equalFN_R (ro nx : Nat) (hp : Heap) : R K 59 [.lst [], .lst [], .clo 21 [] []] ro nx hp = some ⟨.bool true, false, nx, hp⟩ := by
  have e := LB_open (P := Tryz.prog) [] 0 Tryz.func59 rfl rfl (by kernel_rfl)
  simp only [slim, slimO, annO, List.map, List.zip, List.zipWith, List.lookup, holed, loopsOf, List.nil_append, List.cons_append, List.getD_cons_zero, List.getD_cons_succ, Nat.reduceBEq] at e
  rw [R_val' K ro 59 _ nx hp [] Tryz.func59 rfl Tryz.ntmps59 Tryz.results59 (mu := []) rfl (by kernel_rfl) rfl rfl rfl]; simp only [slim, slimO, annO, List.map, List.zip, List.zipWith, List.lookup, holed, Nat.reduceBEq]
  simp [List.replicate]
  rw [Y_loop_eq _ _ e]
  simp
theorem selfZ_R (ro nx : Nat) (hp : Heap) : R K 21 [encX exZ, encX exZ] ro nx hp = some ⟨.bool true, false, nx, hp⟩ := by
  have heq := equalFN_R
  rw [R_val' K ro 21 _ nx hp [] Tryz.func21 rfl Tryz.ntmps21 Tryz.results21 (mu := []) rfl (by kernel_rfl) rfl rfl rfl]; simp only [slim, slimO, annO, List.map, List.zip, List.zipWith, List.lookup, holed, Nat.reduceBEq]
  simp [List.replicate, encX_eq, encXs, heq]
theorem flatW_at {ws : List Wd} {k : Nat} {w : Wd} (h : ws[k]? = some w) : ((flats (encWs ws)).drop (k * 3)).take 3 = [.int .i64 w.op, .int .i64 w.n, .str w.name] := by
  rw [flats_drop k encWs_flat, show 3 = 1 * 3 from rfl, flats_take 1 (fun x hx => encWs_flat x (List.mem_of_mem_drop hx))]
  have : ((encWs ws).drop k).take 1 = [encW w] := by
    have hlt := (List.getElem?_eq_some_iff.1 h).1
    have h2 : (encWs ws)[k]? = some (encW w) := by simp [encWs, h]
    rw [List.take_one, List.head?_drop, h2]; rfl
  rw [this]
  rfl
theorem aeqW (o n : Int) (s : ByteArray) : aeq Tryz.prog 53 (.agg [.int .i64 o, .int .i64 n, .str s]) (.agg [.int .i64 o, .int .i64 n, .str s]) = some true := by
  have : aeq Tryz.prog 53 (.agg [.int .i64 o, .int .i64 n, .str s]) (.agg [.int .i64 o, .int .i64 n, .str s]) = (match (some (o == o) : Option Bool) with
    | some true => (match (some (n == n) : Option Bool) with
      | some true => (match (some (s.toList == s.toList) : Option Bool) with
        | some true => some true
        | some false => some false
        | none => none)
      | some false => some false
      | none => none)
    | some false => some false
    | none => none) := by kernel_rfl
  rw [this]
  simp
theorem equalW_R {ws : List Wd} {id : Nat} {hp : Heap} (hg : hget hp id = some (.cells (unown (flats (encWs ws))))) (hl : ws.length ≤ 2000000000) (ro nx : Nat) (hid : id < nx) : R K 20 [.lst (encWs ws), .sl id 0 ws.length 3 true] ro nx hp = some ⟨.bool true, false, nx, hp⟩ := by
  have e := LB_open (P := Tryz.prog) [] 0 Tryz.func20 rfl rfl (by kernel_rfl)
  simp only [slim, slimO, annO, List.map, List.zip, List.zipWith, List.lookup, holed, loopsOf, List.nil_append, List.cons_append, List.getD_cons_zero, List.getD_cons_succ, Nat.reduceBEq] at e
  have hcl : (unown (flats (encWs ws))).length = ws.length * 3 := by rw [unown_len, flats_len encWs_flat, encWs_len]
  have hcc : ∀ (k : Nat) (w : Wd), ws[k]? = some w → ((unown (flats (encWs ws))).map (·.1)).drop (k * 3) = ((unown (flats (encWs ws))).map (·.1)).drop (k * 3) ∧ (((unown (flats (encWs ws))).map (·.1)).drop (k * 3)).take 3 = [.int .i64 w.op, .int .i64 w.n, .str w.name] := fun k w h => ⟨rfl, by rw [unown_fst]; exact flatW_at h⟩
  generalize unown (flats (encWs ws)) = cs at hg hcl hcc
  have hloop := rounds (K := K) (ro := ⟨nx, []⟩) e ws.length (fun k tm1 n h => tm1.length = 26 ∧ getC tm1 0 = (.lst (encWs ws), false) ∧ getC tm1 1 = (.sl id 0 ws.length 3 true, false) ∧ getC tm1 12 = (.int .i64 ws.length, false) ∧ getC tm1 13 = (.int .i64 k, false) ∧ h = hp)
    (fun r => ∃ tm' n' hp', r = some (.exit 0, ⟨tm', n', hp'⟩) ∧ tm'.length = 26) (fun tm1 n h r => by
      rintro ⟨ht, t0, t1, t12, t13, rfl⟩ hX
      simp [ht, t12, t13] at hX
      subst hX
      exact ⟨_, _, rfl, by simp, _, _, _, rfl, by simp [ht]⟩) (fun k tm1 n h r hk => by
      rintro ⟨ht, t0, t1, t12, t13, rfl⟩ hX
      left
      have hx := List.getElem?_eq_getElem (l := ws) (i := k) hk
      generalize ws[k] = w at hx
      have hkl : (k : Int) < ws.length := by omega
      have hxe := encWs_at hx
      have hc := (hcc k w hx).2
      have hkc : k * 3 + 3 ≤ cs.length := by omega
      have hw2 : IntKind.i64.wrap ((k : Int) + 1) = (k : Int) + 1 := wrap_small (by omega) (by omega)
      simp [ht, t0, t1, t12, t13, hkl, hxe, hw2, hg, hc, hkc, aeqW] at hX
      subst hX
      exact ⟨_, _, _, rfl, by simp [ht], by simp [t0], by simp [t1], by simp [t12], by simp [ht], rfl⟩) 0
  rw [R_pure' K ro 20 _ nx hp [] Tryz.func20 rfl Tryz.ntmps20 Tryz.results20 (mu := []) rfl (by kernel_rfl) rfl rfl rfl rfl]; simp only [slim, slimO, annO, List.map, List.zip, List.zipWith, List.lookup, holed, Nat.reduceBEq]
  simp [List.replicate]
  generalize hgg : X K _ (.loop _) _ = r
  obtain ⟨tm', n', hp', rfl, g1⟩ : ∃ tm' n' hp', r = some (.exit 0, ⟨tm', n', hp'⟩) ∧ tm'.length = 26 := by
    rw [← hgg]
    refine hloop _ _ _ (by omega) ?_
    refine ⟨?_, ?_, ?_, ?_, ?_, rfl⟩
    all_goals simp
  clear hgg hloop
  simp [g1]
theorem equalWN_R (ro nx : Nat) (hp : Heap) : R K 20 [.lst [], .lst []] ro nx hp = some ⟨.bool true, false, nx, hp⟩ := by
  have e := LB_open (P := Tryz.prog) [] 0 Tryz.func20 rfl rfl (by kernel_rfl)
  simp only [slim, slimO, annO, List.map, List.zip, List.zipWith, List.lookup, holed, loopsOf, List.nil_append, List.cons_append, List.getD_cons_zero, List.getD_cons_succ, Nat.reduceBEq] at e
  rw [R_pure' K ro 20 _ nx hp [] Tryz.func20 rfl Tryz.ntmps20 Tryz.results20 (mu := []) rfl (by kernel_rfl) rfl rfl rfl rfl]; simp only [slim, slimO, annO, List.map, List.zip, List.zipWith, List.lookup, holed, Nat.reduceBEq]
  simp [List.replicate]
  rw [Y_loop_eq _ _ e]
  simp
end Go.Proofs.YtkpfkadjmijmlaaGreatDoor.M
