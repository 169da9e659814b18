/- exprFault, as the program has it and as the reference has it. -/
import Derived.Test.YtleimfinniclgaaDoorGA
import Derived.Test.YtleimfinniclgaaDoorEX
namespace Go.Proofs.YtleimfinniclgaaDoor.M
open Go.Proofs Go.Proofs.YtleimfinniclgaaDoor.X
set_option linter.unusedSimpArgs false
set_option linter.unusedVariables false
set_option maxRecDepth 100000
set_option pp.deepTerms false
set_option pp.deepTerms.threshold 6
set_option maxHeartbeats 4000000
def outside (x lo hi : Int) : Bool := decide (x < lo) || decide (x > hi)
@[simp] theorem outside_R (x lo hi : Int) (ro nx : Nat) (hp : Heap) : R K 39 [.int .i64 x, .int .i64 lo, .int .i64 hi] ro nx hp = some ⟨.bool (outside x lo hi), false, nx, hp⟩ := by
  rw [R_val' K ro 39 _ nx hp [] Tryd.func39 rfl Tryd.ntmps39 Tryd.results39 (mu := []) rfl (by kernel_rfl) rfl rfl]; simp only [slim, slimO, annO, List.map, List.zip, List.zipWith, List.lookup, holed, Nat.reduceBEq]
  by_cases h1 : x < lo
  all_goals
    simp [List.replicate, h1, outside]
def within (x lo hi : Int) : Bool := decide (lo ≤ x) && decide (x ≤ hi)
theorem within_not (x lo hi : Int) : within x lo hi = !outside x lo hi := by
  unfold within outside
  by_cases h1 : x < lo
  · have h2 : ¬ lo ≤ x := by omega
    simp [h1, h2]
  · by_cases h2 : x > hi
    · have h3 : ¬ x ≤ hi := by omega
      simp [h2, h3]
    · simp [h1, h2, show lo ≤ x by omega, show x ≤ hi by omega]
@[simp] theorem in2_R (x lo hi : Int) (ro nx : Nat) (hp : Heap) : R K 43 [.int .i64 x, .int .i64 lo, .int .i64 hi] ro nx hp = some ⟨.bool (within x lo hi), false, nx, hp⟩ := by
  rw [R_val' K ro 43 _ nx hp [] Tryd.func43 rfl Tryd.ntmps43 Tryd.results43 (mu := []) rfl (by kernel_rfl) rfl rfl]; simp only [slim, slimO, annO, List.map, List.zip, List.zipWith, List.lookup, holed, Nat.reduceBEq]
  by_cases h1 : lo ≤ x
  all_goals
    simp [List.replicate, h1, within]
@[simp] theorem in1_R (x lo hi : Int) (ro nx : Nat) (hp : Heap) : R K 25 [.int .i64 x, .int .i64 lo, .int .i64 hi] ro nx hp = some ⟨.bool (within x lo hi), false, nx, hp⟩ := by
  rw [R_val' K ro 25 _ nx hp [] Tryd.func25 rfl Tryd.ntmps25 Tryd.results25 (mu := []) rfl (by kernel_rfl) rfl rfl]; simp only [slim, slimO, annO, List.map, List.zip, List.zipWith, List.lookup, holed, Nat.reduceBEq]
  by_cases h1 : lo ≤ x
  all_goals
    simp [List.replicate, h1, within]
@[simp] theorem arity_R (op : Int) (ro nx : Nat) (hp : Heap) : R K 59 [.int .i64 op] ro nx hp = some ⟨.int .i64 (arityF op), false, nx, hp⟩ := by
  rw [R_val' K ro 59 _ nx hp [] Tryd.func59 rfl Tryd.ntmps59 Tryd.results59 (mu := []) rfl (by kernel_rfl) rfl rfl]; simp only [slim, slimO, annO, List.map, List.zip, List.zipWith, List.lookup, holed, Nat.reduceBEq]
  have e : arityF op = if outside op 1 9 then -1 else if op ≤ 2 then 0 else if op = 8 then 1 else if op = 9 then 3 else 2 := by
    unfold arityF outside
    by_cases h : 1 ≤ op ∧ op ≤ 9
    · have : ¬ op < 1 := by omega
      have : ¬ op > 9 := by omega
      simp [*]
    · rw [if_pos h, if_pos]
      simp
      omega
  cases h1 : outside op 1 9
  · by_cases h2 : op ≤ 2
    · simp [List.replicate, h1, h2, e]
    · by_cases h3 : op = 8
      · subst h3; simp [List.replicate, h1, e]
      · by_cases h4 : op = 9
        · subst h4; simp [List.replicate, h1, e]
        · simp [List.replicate, h1, h2, h3, h4, e]
  · simp [List.replicate, h1, e]
@[simp] theorem arity2_R (op : Int) (ro nx : Nat) (hp : Heap) : R K 42 [.int .i64 op] ro nx hp = some ⟨.int .i64 (arityF op), false, nx, hp⟩ := by
  rw [R_val' K ro 42 _ nx hp [] Tryd.func42 rfl Tryd.ntmps42 Tryd.results42 (mu := []) rfl (by kernel_rfl) rfl rfl]; simp only [slim, slimO, annO, List.map, List.zip, List.zipWith, List.lookup, holed, Nat.reduceBEq]
  by_cases h : 1 ≤ op ∧ op ≤ 9
  · have h1 : within op 1 9 = true := by simp [within, h]
    have hw : IntKind.i64.wrap (op - 1) = op - 1 := wrap_small (by omega) (by omega)
    have h0 : (1 : Int) ≤ op := h.1
    obtain ⟨k, hk⟩ : ∃ k : Nat, op - 1 = k := ⟨_, (Int.toNat_of_nonneg (by omega)).symm⟩
    have hk9 : k ≤ 8 := by omega
    have ho : op = k + 1 := by omega
    subst ho
    match k, hk9 with
    | 0, _ => simp [List.replicate, within, arityF, show IntKind.i64.wrap 0 = 0 by decide]
    | 1, _ => simp [List.replicate, within, arityF, show IntKind.i64.wrap 1 = 1 by decide]
    | 2, _ => simp [List.replicate, within, arityF, show IntKind.i64.wrap 2 = 2 by decide]
    | 3, _ => simp [List.replicate, within, arityF, show IntKind.i64.wrap 3 = 3 by decide]
    | 4, _ => simp [List.replicate, within, arityF, show IntKind.i64.wrap 4 = 4 by decide]
    | 5, _ => simp [List.replicate, within, arityF, show IntKind.i64.wrap 5 = 5 by decide]
    | 6, _ => simp [List.replicate, within, arityF, show IntKind.i64.wrap 6 = 6 by decide]
    | 7, _ => simp [List.replicate, within, arityF, show IntKind.i64.wrap 7 = 7 by decide]
    | 8, _ => simp [List.replicate, within, arityF, show IntKind.i64.wrap 8 = 8 by decide]
  · have h1 : within op 1 9 = false := by
      simp only [within, Bool.and_eq_false_iff, decide_eq_false_iff_not]; omega
    simp [List.replicate, h1, arityF, h]
theorem arity_le (o : Int) : arityF o ≤ 3 := by unfold arityF; repeat' split <;> omega
def LoopF (len t id : Nat) (f : Int) (r : Option (AExit × St)) : Prop := ∃ s, r = some (if f = 0 then .exit id else .ret, s) ∧ s.tm.length = len ∧ (f ≠ 0 → getC s.tm t = (.int .i64 f, false))
theorem exprFault_loop (d : Int) (hd : 0 ≤ d ∧ d ≤ 20) (l : List Ex) (hl : l.length < 100) (ih : ∀ x ∈ l, ∀ ro nx hp, R K 37 [encX x, .int .i64 (d + 1)] ro nx hp = some ⟨.int .i64 (exF x (d + 1)), false, nx, hp⟩) : ∀ (n k : Nat) (tm : List Cell) (nx : Nat) (hp : Heap), n + k = l.length → tm.length = 73 → getC tm 1 = (.int .i64 d, false) → getC tm 59 = (.lst (encXs l), false) → getC tm 60 = (.int .i64 l.length, false) → getC tm 61 = (.int .i64 k, false) →
    LoopF 73 4 1 (exsF (l.drop k) (d + 1)) (X K ⟨0, []⟩ (.loop (LB Tryd.prog 37 [] 0)) ⟨tm, nx, hp⟩) := by
  have e := LB_open (P := Tryd.prog) [] 0 Tryd.func37 rfl rfl (by kernel_rfl)
  simp only [slim, slimO, annO, List.map, List.zip, List.zipWith, List.lookup, holed, loopsOf, List.nil_append, List.cons_append, List.getD_cons_zero, List.getD_cons_succ, Nat.reduceBEq] at e
  intro n
  induction n with
  | zero =>
    intro k tm nx hp hk ht h1 h59 h60 h61
    rw [List.drop_eq_nil_of_le (by omega), Y_loop_eq _ _ e]
    clear e
    have hkl : ¬ (k : Int) < l.length := by omega
    generalize hb : X K _ _ _ = r
    simp [ht, h60, h61, hkl] at hb
    subst hb
    exact ⟨_, rfl, by simp [ht], fun h => absurd (by simp [exsF]) h⟩
  | succ n ihn =>
    intro k tm nx hp hk ht h1 h59 h60 h61
    have hx := List.getElem?_eq_getElem (l := l) (i := k) (by omega)
    rw [List.drop_eq_getElem_cons (by omega), Y_loop_eq _ _ e]
    clear e
    generalize l[k] = x at hx
    have hkl : (k : Int) < l.length := by omega
    have hxe := encXs_at hx
    have hw1 : IntKind.i64.wrap (d + 1) = d + 1 := wrap_small (by omega) (by omega)
    have hw2 : IntKind.i64.wrap ((k : Int) + 1) = (k : Int) + 1 := wrap_small (by omega) (by omega)
    have hxm := ih x (List.mem_of_getElem? hx)
    rw [encX_eq] at hxm hxe
    generalize hb : X K _ _ _ = r
    by_cases h0 : exF x (d + 1) = 0
    · simp [ht, h1, h59, h60, h61, hkl, hxe, hw1, hw2, hxm, h0] at hb
      subst hb
      rw [XK_normal, exsF, if_pos h0]
      exact ihn (k + 1) _ _ _ (by omega) (by simp [ht]) (by simp [h1]) (by simp [h59]) (by simp [h60]) (by simp [ht])
    · simp [ht, h1, h59, h60, h61, hkl, hxe, hw1, hw2, hxm, h0] at hb
      subst hb
      rw [XK_ret, exsF, if_neg h0]
      exact ⟨_, by rw [if_neg h0], by simp [ht], fun _ => by simp [ht]⟩
theorem exprFault_R : ∀ (m : Nat) (x : Ex), SizeOf.sizeOf x < m → ∀ (d : Int), 0 ≤ d ∧ d ≤ 21 → ∀ (ro nx : Nat) (hp : Heap), R K 37 [encX x, .int .i64 d] ro nx hp = some ⟨.int .i64 (exF x d), false, nx, hp⟩ := by
  intro m
  induction m with
  | zero => intro x hx; omega
  | succ m ihm =>
    intro x hx d hd ro nx hp
    have hloop : d ≤ 20 → (x.args.length : Int) = arityF x.op → ∀ (tm : List Cell) (nx' : Nat) (hp' : Heap), tm.length = 73 → getC tm 1 = (.int .i64 d, false) → getC tm 59 = (.lst (encXs x.args), false) → getC tm 60 = (.int .i64 x.args.length, false) → getC tm 61 = (.int .i64 0, false) →
        LoopF 73 4 1 (exsF x.args (d + 1)) (X K ⟨0, []⟩ (.loop (LB Tryd.prog 37 [] 0)) ⟨tm, nx', hp'⟩) := fun hd' hl tm nx' hp' a b c e f => by
      have h3 := arity_le x.op
      have := exprFault_loop d ⟨hd.1, hd'⟩ x.args (by omega) (fun y hy => ihm y (by have := args_lt hy; omega) (d + 1) (by omega)) x.args.length 0 tm nx' hp' rfl a b c e f
      simpa using this
    rw [R_val' K ro 37 _ nx hp [] Tryd.func37 rfl Tryd.ntmps37 Tryd.results37 (mu := []) rfl (by kernel_rfl) rfl rfl]; simp only [slim, slimO, annO, List.map, List.zip, List.zipWith, List.lookup, holed, Nat.reduceBEq]
    simp [List.replicate, encX_eq, encXs_len]
    iterate 8 all_goals (try (split <;> simp [*]))
    all_goals (try (rw [exF_eq]; unfold exOwn; (try simp only [within_not, outside] at *); grind))
    all_goals
      generalize hb : X K _ (.loop _) _ = r
      have hk : LoopF 73 4 1 (exsF x.args (d + 1)) r := by
        rw [← hb]
        exact hloop (by omega) (by assumption) _ _ _ (by simp) (by simp) (by simp) (by simp [*]) (by simp)
      obtain ⟨⟨tm', nx', hp'⟩, rfl, h1, h2⟩ := hk
      simp only at h1 h2
      clear hb
      by_cases h0 : exsF x.args (d + 1) = 0
      · have : exF x d = 0 := by rw [exF_eq]; unfold exOwn; (try simp only [within_not, outside] at *); grind
        simp [h0, h1, this]
      · have : exF x d = exsF x.args (d + 1) := by rw [exF_eq]; unfold exOwn; (try simp only [within_not, outside] at *); grind
        simp [h0, h1, h2 h0, this]
@[simp] theorem checkExpr_R (x : Ex) (ro nx : Nat) (hp : Heap) : R K 20 [encX x] ro nx hp = some ⟨.int .i64 (exF x 1), false, nx, hp⟩ := by
  have h := fun ro nx hp => exprFault_R (SizeOf.sizeOf x + 1) x (by omega) 1 (by omega) ro nx hp
  rw [R_val' K ro 20 _ nx hp [] Tryd.func20 rfl Tryd.ntmps20 Tryd.results20 (mu := []) rfl (by kernel_rfl) rfl rfl]; simp only [slim, slimO, annO, List.map, List.zip, List.zipWith, List.lookup, holed, Nat.reduceBEq]
  simp only [encX_eq] at h
  simp [List.replicate, encX_eq, h]
theorem exprFault2_loop (d : Int) (hd : 0 ≤ d ∧ d ≤ 20) (l : List Ex) (hl : l.length < 100) (ih : ∀ x ∈ l, ∀ ro nx hp, R K 23 [encX x, .int .i64 (d + 1)] ro nx hp = some ⟨.int .i64 (exF x (d + 1)), false, nx, hp⟩) : ∀ (n k : Nat) (tm : List Cell) (nx : Nat) (hp : Heap), n + k = l.length → tm.length = 74 → getC tm 1 = (.int .i64 d, false) → getC tm 60 = (.lst (encXs l), false) → getC tm 61 = (.int .i64 l.length, false) → getC tm 62 = (.int .i64 k, false) →
    LoopF 74 4 1 (exsF (l.drop k) (d + 1)) (X K ⟨0, []⟩ (.loop (LB Tryd.prog 23 [] 0)) ⟨tm, nx, hp⟩) := by
  have e := LB_open (P := Tryd.prog) [] 0 Tryd.func23 rfl rfl (by kernel_rfl)
  simp only [slim, slimO, annO, List.map, List.zip, List.zipWith, List.lookup, holed, loopsOf, List.nil_append, List.cons_append, List.getD_cons_zero, List.getD_cons_succ, Nat.reduceBEq] at e
  intro n
  induction n with
  | zero =>
    intro k tm nx hp hk ht h1 h59 h60 h61
    rw [List.drop_eq_nil_of_le (by omega), Y_loop_eq _ _ e]
    clear e
    have hkl : ¬ (k : Int) < l.length := by omega
    generalize hb : X K _ _ _ = r
    simp [ht, h60, h61, hkl] at hb
    subst hb
    exact ⟨_, rfl, by simp [ht], fun h => absurd (by simp [exsF]) h⟩
  | succ n ihn =>
    intro k tm nx hp hk ht h1 h59 h60 h61
    have hx := List.getElem?_eq_getElem (l := l) (i := k) (by omega)
    rw [List.drop_eq_getElem_cons (by omega), Y_loop_eq _ _ e]
    clear e
    generalize l[k] = x at hx
    have hkl : (k : Int) < l.length := by omega
    have hxe := encXs_at hx
    have hw1 : IntKind.i64.wrap (d + 1) = d + 1 := wrap_small (by omega) (by omega)
    have hw2 : IntKind.i64.wrap ((k : Int) + 1) = (k : Int) + 1 := wrap_small (by omega) (by omega)
    have hxm := ih x (List.mem_of_getElem? hx)
    rw [encX_eq] at hxm hxe
    generalize hb : X K _ _ _ = r
    by_cases h0 : exF x (d + 1) = 0
    · simp [ht, h1, h59, h60, h61, hkl, hxe, hw1, hw2, hxm, h0] at hb
      subst hb
      rw [XK_normal, exsF, if_pos h0]
      exact ihn (k + 1) _ _ _ (by omega) (by simp [ht]) (by simp [h1]) (by simp [h59]) (by simp [h60]) (by simp [ht])
    · simp [ht, h1, h59, h60, h61, hkl, hxe, hw1, hw2, hxm, h0] at hb
      subst hb
      rw [XK_ret, exsF, if_neg h0]
      exact ⟨_, by rw [if_neg h0], by simp [ht], fun _ => by simp [ht]⟩
theorem exprFault2_R : ∀ (m : Nat) (x : Ex), SizeOf.sizeOf x < m → ∀ (d : Int), 0 ≤ d ∧ d ≤ 21 → ∀ (ro nx : Nat) (hp : Heap), R K 23 [encX x, .int .i64 d] ro nx hp = some ⟨.int .i64 (exF x d), false, nx, hp⟩ := by
  intro m
  induction m with
  | zero => intro x hx; omega
  | succ m ihm =>
    intro x hx d hd ro nx hp
    have hloop : d ≤ 20 → (x.args.length : Int) = arityF x.op → ∀ (tm : List Cell) (nx' : Nat) (hp' : Heap), tm.length = 74 → getC tm 1 = (.int .i64 d, false) → getC tm 60 = (.lst (encXs x.args), false) → getC tm 61 = (.int .i64 x.args.length, false) → getC tm 62 = (.int .i64 0, false) →
        LoopF 74 4 1 (exsF x.args (d + 1)) (X K ⟨0, []⟩ (.loop (LB Tryd.prog 23 [] 0)) ⟨tm, nx', hp'⟩) := fun hd' hl tm nx' hp' a b c e f => by
      have h3 := arity_le x.op
      have := exprFault2_loop d ⟨hd.1, hd'⟩ x.args (by omega) (fun y hy => ihm y (by have := args_lt hy; omega) (d + 1) (by omega)) x.args.length 0 tm nx' hp' rfl a b c e f
      simpa using this
    rw [R_val' K ro 23 _ nx hp [] Tryd.func23 rfl Tryd.ntmps23 Tryd.results23 (mu := []) rfl (by kernel_rfl) rfl rfl]; simp only [slim, slimO, annO, List.map, List.zip, List.zipWith, List.lookup, holed, Nat.reduceBEq]
    simp [List.replicate, encX_eq, encXs_len]
    iterate 8 all_goals (try (split <;> simp [*]))
    all_goals (try (rw [exF_eq]; unfold exOwn; (try simp only [within_not, outside] at *); grind))
    all_goals
      generalize hb : X K _ (.loop _) _ = r
      have hk : LoopF 74 4 1 (exsF x.args (d + 1)) r := by
        rw [← hb]
        exact hloop (by omega) (by assumption) _ _ _ (by simp) (by simp) (by simp) (by simp [*]) (by simp)
      obtain ⟨⟨tm', nx', hp'⟩, rfl, h1, h2⟩ := hk
      simp only at h1 h2
      clear hb
      by_cases h0 : exsF x.args (d + 1) = 0
      · have : exF x d = 0 := by rw [exF_eq]; unfold exOwn; (try simp only [within_not, outside] at *); grind
        simp [h0, h1, this]
      · have : exF x d = exsF x.args (d + 1) := by rw [exF_eq]; unfold exOwn; (try simp only [within_not, outside] at *); grind
        simp [h0, h1, h2 h0, this]
@[simp] theorem exprFaultQ_R (x : Ex) (ro nx : Nat) (hp : Heap) : R K 8 [encX x] ro nx hp = some ⟨.int .i64 (exF x 1), false, nx, hp⟩ := by
  have h := fun ro nx hp => exprFault2_R (SizeOf.sizeOf x + 1) x (by omega) 1 (by omega) ro nx hp
  rw [R_val' K ro 8 _ nx hp [] Tryd.func8 rfl Tryd.ntmps8 Tryd.results8 (mu := []) rfl (by kernel_rfl) rfl rfl]; simp only [slim, slimO, annO, List.map, List.zip, List.zipWith, List.lookup, holed, Nat.reduceBEq]
  simp only [encX_eq] at h
  simp [List.replicate, encX_eq, h]
end Go.Proofs.YtleimfinniclgaaDoor.M
