/- BoundsOf, cmp.Or, valued. -/
import Derived.Test.YtleimfinniclgaaDoorFH
namespace Go.Proofs.YtleimfinniclgaaDoor.M
open Go.Proofs Go.Proofs.YtleimfinniclgaaDoor.X
set_option linter.unusedSimpArgs false
set_option linter.unusedVariables false
set_option maxRecDepth 100000
set_option pp.deepTerms false
set_option pp.deepTerms.threshold 6
set_option maxHeartbeats 4000000
theorem bof1_R {xs : List Sp} {x : Ex} (hs : spsF xs = 0) (hx : exF x 1 = 0) (ro nx : Nat) (hp : Heap) : R K 10 [encX x, .lst (encSs xs)] ro nx hp = some ⟨.tup [.int .i64 (bX xs x).1, .int .i64 (bX xs x).2], false, nx, hp⟩ := by
  obtain ⟨g1, g2, g3⟩ := spsF_zero hs
  have hb := fun ro nx hp => bof_R g1 g2 (SizeOf.sizeOf x + 1) x 1 (Nat.lt_succ_self _) hx ro nx hp
  simp only [encX_eq, encB] at hb
  rw [R_val' K ro 10 _ nx hp [] Tryd.func10 rfl Tryd.ntmps10 Tryd.results10 (mu := []) rfl (by kernel_rfl) rfl rfl]; simp only [slim, slimO, annO, List.map, List.zip, List.zipWith, List.lookup, holed, Nat.reduceBEq]
  simp [List.replicate, encX_eq, encXs_len, hb]
def orF : List Int → Int
  | [] => 0
  | x :: r => if x ≠ 0 then x else orF r
def LoopO (f : Int) (r : Option (AExit × St)) : Prop := ∃ s, r = some (if f = 0 then .exit 0 else .ret, s) ∧ s.tm.length = 18 ∧ (f ≠ 0 → getC s.tm 2 = (.int .i64 f, false)) ∧ getC s.tm 3 = (.int .i64 0, false)
theorem or_loop (l : List Int) (hl : l.length < 1000) : ∀ (n k : Nat) (tm : List Cell) (nx : Nat) (hp : Heap), n + k = l.length → tm.length = 18 → getC tm 6 = (.lst (ints' l), false) → getC tm 7 = (.int .i64 l.length, false) → getC tm 8 = (.int .i64 k, false) → getC tm 3 = (.int .i64 0, false) →
    LoopO (orF (l.drop k)) (X K ⟨0, []⟩ (.loop (LB Tryd.prog 7 [] 0)) ⟨tm, nx, hp⟩) := by
  have e := LB_open (P := Tryd.prog) [] 0 Tryd.func7 rfl rfl (by kernel_rfl)
  simp only [slim, slimO, annO, List.map, List.zip, List.zipWith, List.lookup, holed, loopsOf, List.nil_append, List.cons_append, List.getD_cons_zero, List.getD_cons_succ, Nat.reduceBEq] at e
  intro n
  induction n with
  | zero =>
    intro k tm nx hp hk ht h6 h7 h8 h3
    rw [List.drop_eq_nil_of_le (by omega), Y_loop_eq _ _ e]
    clear e
    have hkl : ¬ (k : Int) < l.length := by omega
    generalize hb : X K _ _ _ = r
    simp [ht, h7, h8, hkl] at hb
    subst hb
    exact ⟨_, rfl, by simp [ht], fun h => absurd rfl h, by simp [h3]⟩
  | succ n ihn =>
    intro k tm nx hp hk ht h6 h7 h8 h3
    have hx := List.getElem?_eq_getElem (l := l) (i := k) (by omega)
    rw [List.drop_eq_getElem_cons (by omega), Y_loop_eq _ _ e]
    clear e
    have hxe : (ints' l)[k]? = some (.int .i64 l[k]) := by simp [ints', hx]
    generalize l[k] = x at hx hxe
    have hkl : (k : Int) < l.length := by omega
    have hw2 : IntKind.i64.wrap ((k : Int) + 1) = (k : Int) + 1 := wrap_small (by omega) (by omega)
    generalize hb : X K _ _ _ = r
    by_cases h0 : x = 0
    · simp [ht, h3, h6, h7, h8, hkl, hxe, hw2, h0] at hb
      subst hb
      rw [XK_normal, orF, if_neg (by simp [h0])]
      exact ihn (k + 1) _ _ _ (by omega) (by simp [ht]) (by simp [h6]) (by simp [h7]) (by simp [ht]) (by simp [h3])
    · simp [ht, h3, h6, h7, h8, hkl, hxe, hw2, h0] at hb
      subst hb
      rw [XK_ret, orF, if_pos h0]
      exact ⟨_, by rw [if_neg h0], by simp [ht], fun _ => by simp [ht], by simp [h3]⟩
@[simp] theorem or_R (l : List Int) (hl : l.length < 1000) (ro nx : Nat) (hp : Heap) : R K 7 [.lst (ints' l)] ro nx hp = some ⟨.int .i64 (orF l), false, nx, hp⟩ := by
  have hil : (ints' l).length = l.length := by simp [ints']
  have hid : idsLts 0 (ints' l) = true := by
    induction l with
    | nil => simp [ints']
    | cons x r ih => rw [show ints' (x :: r) = .int .i64 x :: ints' r from rfl, idsLts_cons, ih (by simp at hl; omega) (by simp [ints'])]; simp
  rw [R_val' K ro 7 _ nx hp [] Tryd.func7 rfl Tryd.ntmps7 Tryd.results7 (mu := []) rfl (by kernel_rfl) rfl rfl]; simp only [slim, slimO, annO, List.map, List.zip, List.zipWith, List.lookup, holed, Nat.reduceBEq]
  simp [List.replicate, hil, hid]
  generalize hb : X K _ (.loop _) _ = r
  have hk : LoopO (orF l) r := by
    rw [← hb]
    exact or_loop l hl l.length 0 _ _ _ (by omega) (by simp) (by simp) (by simp) (by simp) (by simp)
  obtain ⟨⟨tm', nx', hp'⟩, rfl, h1, h2, h3⟩ := hk
  simp only at h1 h2 h3
  clear hb
  by_cases h0 : orF l = 0
  · simp [h0, h1, h3]
  · simp [h0, h1, h2 h0]
end Go.Proofs.YtleimfinniclgaaDoor.M
