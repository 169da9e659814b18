/- The reference's bounds: the search by a closure. -/
import Derived.Test.YtleimfinniclgaaDoorFE
namespace Go.Proofs.YtleimfinniclgaaDoor.M
open Go.Proofs Go.Proofs.YtleimfinniclgaaDoor.X
set_option linter.unusedSimpArgs false
set_option linter.unusedVariables false
set_option maxRecDepth 100000
set_option pp.deepTerms false
set_option pp.deepTerms.threshold 6
set_option maxHeartbeats 4000000
theorem bo1_R (y : Sp) (a : Ex) (p ro nx : Nat) (hp : Heap) (hlt : p < nx) (h : hget hp p = some (.cells [(.int .i64 a.op, false), (.int .i64 a.n, false), (.str a.name, false), (.lst (encXs a.args), false)])) :
    R K 47 [encS y, .ptr p 0] ro nx hp = some ⟨.bool (y.name.toList == a.name.toList), false, nx, hp⟩ := by
  have q1 : ¬ nx = p := by omega
  have q2 : ¬ p = nx := by omega
  rw [R_pure' K ro 47 _ nx hp [] Tryd.func47 rfl Tryd.ntmps47 Tryd.results47 (mu := []) rfl (by kernel_rfl) rfl rfl rfl]; simp only [slim, slimO, annO, List.map, List.zip, List.zipWith, List.lookup, holed, Nat.reduceBEq]
  simp [List.replicate, encS, h, q1, q2]
def ixGo (xs : List Sp) (s : ByteArray) : Nat → Nat → Int
  | 0, _ => -1
  | n + 1, k => match xs[k]? with
    | some x => if (x.name.toList == s.toList) = true then k else ixGo xs s n (k + 1)
    | none => -1
def LoopI (len t id : Nat) (f : Int) (nx : Nat) (hp : Heap) (r : Option (AExit × St)) : Prop := ∃ s, r = some (if f = -1 then .exit id else .ret, s) ∧ s.tm.length = len ∧ (f ≠ -1 → getC s.tm t = (.int .i64 f, false)) ∧ s.nx = nx ∧ s.hp = hp
theorem ix_loop (xs : List Sp) (hl : xs.length ≤ 2000) (a : Ex) (p lo nx : Nat) (hp : Heap) (hlt : p < nx) (h : hget hp p = some (.cells [(.int .i64 a.op, false), (.int .i64 a.n, false), (.str a.name, false), (.lst (encXs a.args), false)])) :
    ∀ (n k : Nat) (tm : List Cell), n + k = xs.length → tm.length = 19 → getC tm 0 = (.lst (encSs xs), false) → getC tm 1 = (.clo 47 [] [.ptr p 0], false) → getC tm 7 = (.int .i64 xs.length, false) → getC tm 8 = (.int .i64 k, false) →
    LoopI 19 4 0 (ixGo xs a.name n k) nx hp (X K ⟨lo, []⟩ (.loop (LB Tryd.prog 46 [] 0)) ⟨tm, nx, hp⟩) := by
  have e := LB_open (P := Tryd.prog) [] 0 Tryd.func46 rfl rfl (by kernel_rfl)
  simp only [slim, slimO, annO, List.map, List.zip, List.zipWith, List.lookup, holed, loopsOf, List.nil_append, List.cons_append, List.getD_cons_zero, List.getD_cons_succ, Nat.reduceBEq] at e
  intro n
  induction n with
  | zero =>
    intro k tm hk ht h0 h1 h7 h8
    rw [Y_loop_eq _ _ e]
    clear e
    have hkl : ¬ (k : Int) < xs.length := by omega
    generalize hb : X K _ _ _ = r
    simp [ht, h7, h8, hkl] at hb
    subst hb
    exact ⟨_, rfl, by simp [ht], fun h => absurd rfl h, rfl, rfl⟩
  | succ n ihn =>
    intro k tm hk ht h0 h1 h7 h8
    have hx := List.getElem?_eq_getElem (l := xs) (i := k) (by omega)
    rw [Y_loop_eq _ _ e]
    clear e
    generalize xs[k] = x at hx
    have hkl : (k : Int) < xs.length := by omega
    have hxe := encSs_at hx
    have hw2 : IntKind.i64.wrap ((k : Int) + 1) = (k : Int) + 1 := wrap_small (by omega) (by omega)
    have hbo := fun ro => bo1_R x a p ro nx hp hlt h
    have hne : ¬ (k : Int) = -1 := by omega
    simp only [encS] at hxe hbo
    rw [ixGo, hx]
    simp only
    generalize hb : X K _ _ _ = r
    cases c : (x.name.toList == a.name.toList)
    · rw [c] at hbo
      simp [ht, h0, h1, h7, h8, hkl, hxe, hw2, hbo] at hb
      subst hb
      rw [XK_normal, if_neg (by decide)]
      exact ihn (k + 1) _ (by omega) (by simp [ht]) (by simp [h0]) (by simp [h1]) (by simp [h7]) (by simp [ht])
    · rw [c] at hbo
      simp [ht, h0, h1, h7, h8, hkl, hxe, hw2, hbo] at hb
      subst hb
      rw [XK_ret, if_pos rfl]
      exact ⟨_, by rw [if_neg hne], by simp [ht], fun _ => by simp [ht], rfl, rfl⟩
theorem ix_R (xs : List Sp) (hl : xs.length ≤ 2000) (a : Ex) (p ro nx : Nat) (hp : Heap) (hlt : p < nx) (h : hget hp p = some (.cells [(.int .i64 a.op, false), (.int .i64 a.n, false), (.str a.name, false), (.lst (encXs a.args), false)])) :
    R K 46 [.lst (encSs xs), .clo 47 [] [.ptr p 0]] ro nx hp = some ⟨.int .i64 (ixGo xs a.name xs.length 0), false, nx, hp⟩ := by
  rw [R_pure' K ro 46 _ nx hp [] Tryd.func46 rfl Tryd.ntmps46 Tryd.results46 (mu := []) rfl (by kernel_rfl) rfl rfl rfl]; simp only [slim, slimO, annO, List.map, List.zip, List.zipWith, List.lookup, holed, Nat.reduceBEq]
  simp [List.replicate]
  generalize hb : X K _ (.loop _) _ = r
  have hk : LoopI 19 4 0 (ixGo xs a.name xs.length 0) nx hp r := by
    rw [← hb]
    exact ix_loop xs hl a p nx nx hp hlt h xs.length 0 _ (by omega) (by simp) (by simp) (by simp) (by simp) (by simp)
  obtain ⟨⟨tm', nx', hp'⟩, rfl, h1, h2, h3, h4⟩ := hk
  simp only at h1 h2 h3 h4
  subst h3 h4
  clear hb
  by_cases h0 : ixGo xs a.name xs.length 0 = -1
  · simp [h0, h1]
  · simp [h0, h1, h2 h0]
theorem ixGo_spec (xs : List Sp) (s : ByteArray) : ∀ (n k : Nat), n + k = xs.length → (ixGo xs s n k = -1 ∧ lookB (xs.drop k) s = (0, 999)) ∨ ∃ (j : Nat) (x : Sp), ixGo xs s n k = j ∧ xs[j]? = some x ∧ lookB (xs.drop k) s = (x.low, x.high) := by
  intro n
  induction n with
  | zero => intro k hk; left; rw [List.drop_eq_nil_of_le (by omega)]; exact ⟨rfl, rfl⟩
  | succ n ih =>
    intro k hk
    have hx := List.getElem?_eq_getElem (l := xs) (i := k) (by omega)
    rw [List.drop_eq_getElem_cons (by omega)]
    generalize xs[k] = x at hx
    rw [ixGo, hx, lookB]
    simp only
    cases c : (x.name.toList == s.toList)
    · have c' : (s.toList == x.name.toList) = false := by rw [beq_eq_false_iff_ne] at c ⊢; exact fun e => c e.symm
      rw [if_neg (by decide), c', if_neg (by decide)]
      exact ih (k + 1) (by omega)
    · have c' : (s.toList == x.name.toList) = true := by rw [beq_iff_eq] at c ⊢; exact c.symm
      rw [if_pos rfl, c', if_pos rfl]
      exact .inr ⟨k, x, rfl, hx, rfl⟩
end Go.Proofs.YtleimfinniclgaaDoor.M
