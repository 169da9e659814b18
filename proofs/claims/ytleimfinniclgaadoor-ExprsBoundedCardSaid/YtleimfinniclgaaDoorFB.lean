/- What is wrong with spans. -/
import Derived.Test.YtleimfinniclgaaDoorFA
import Derived.Test.YtleimfinniclgaaDoorGS
namespace Go.Proofs.YtleimfinniclgaaDoor.M
open Go.Proofs Go.Proofs.YtleimfinniclgaaDoor.X
set_option linter.unusedSimpArgs false
set_option linter.unusedVariables false
set_option maxRecDepth 100000
set_option pp.deepTerms false
set_option pp.deepTerms.threshold 6
set_option maxHeartbeats 4000000
def leB (a b : ByteArray) : Bool := Op.bytesLess a.toList b.toList || a.toList == b.toList
def spAt (xs : List Sp) (j : Nat) : Int :=
  match xs[j]? with
  | none => 0
  | some x => if nameB x.name = false then 5 else if outside x.low 0 999 = true ∨ outside x.high x.low 999 = true then 1 else
    if 0 < j ∧ (match xs[j - 1]? with | some y => leB x.name y.name | none => false) = true then 7 else 0
def spGo (xs : List Sp) : Nat → Nat → Int
  | 0, _ => 0
  | n + 1, j => if spAt xs j = 0 then spGo xs n (j + 1) else spAt xs j
def spsF (xs : List Sp) : Int := if 2000 < xs.length then 2 else spGo xs xs.length 0
theorem spansFault_loop (xs : List Sp) (hl : xs.length ≤ 2000) : ∀ (n k : Nat) (tm : List Cell) (nx : Nat) (hp : Heap), n + k = xs.length → tm.length = 46 → getC tm 0 = (.lst (encSs xs), false) → getC tm 8 = (.lst (encSs xs), false) → getC tm 9 = (.int .i64 xs.length, false) → getC tm 10 = (.int .i64 k, false) →
    LoopF 46 2 0 (spGo xs n k) (X K ⟨0, []⟩ (.loop (LB Tryd.prog 21 [] 0)) ⟨tm, nx, hp⟩) := by
  have e := LB_open (P := Tryd.prog) [] 0 Tryd.func21 rfl rfl (by kernel_rfl)
  simp only [slim, slimO, annO, List.map, List.zip, List.zipWith, List.lookup, holed, loopsOf, List.nil_append, List.cons_append, List.getD_cons_zero, List.getD_cons_succ, Nat.reduceBEq] at e
  intro n
  induction n with
  | zero =>
    intro k tm nx hp hk ht h0 h8 h9 h10
    rw [Y_loop_eq _ _ e]
    clear e
    have hkl : ¬ (k : Int) < xs.length := by omega
    generalize hb : X K _ _ _ = r
    simp [ht, h9, h10, hkl] at hb
    subst hb
    exact ⟨_, rfl, by simp [ht], fun h => absurd rfl h⟩
  | succ n ihn =>
    intro k tm nx hp hk ht h0 h8 h9 h10
    have hx := List.getElem?_eq_getElem (l := xs) (i := k) (by omega)
    rw [Y_loop_eq _ _ e]
    clear e
    generalize xs[k] = x at hx
    have hkl : (k : Int) < xs.length := by omega
    have hxe := encSs_at hx
    have hw2 : IntKind.i64.wrap ((k : Int) + 1) = (k : Int) + 1 := wrap_small (by omega) (by omega)
    have hsp : spAt xs k = if nameB x.name = false then 5 else if outside x.low 0 999 = true ∨ outside x.high x.low 999 = true then 1 else if 0 < k ∧ (match xs[k - 1]? with | some y => leB x.name y.name | none => false) = true then 7 else 0 := by simp only [spAt, hx]
    simp only [encS] at hxe
    have fin : ∀ (r : Option (AExit × St)), (∀ (s : St), spAt xs k = 0 → r = some (.normal, s) → LoopF 46 2 0 (spGo xs n (k + 1)) (X K ⟨0, []⟩ (.loop (LB Tryd.prog 21 [] 0)) s)) → (spAt xs k = 0 → ∃ s, r = some (.normal, s)) → (spAt xs k ≠ 0 → ∃ s : St, r = some (.ret, s) ∧ s.tm.length = 46 ∧ getC s.tm 2 = (.int .i64 (spAt xs k), false)) →
        LoopF 46 2 0 (spGo xs (n + 1) k) (XK K ⟨0, []⟩ (.loop (LB Tryd.prog 21 [] 0)) r) := by
      intro r q1 q2 q3
      by_cases h : spAt xs k = 0
      · obtain ⟨s, rfl⟩ := q2 h
        rw [XK_normal, spGo, if_pos h]
        exact q1 s h rfl
      · obtain ⟨s, rfl, w1, w2⟩ := q3 h
        rw [XK_ret, spGo, if_neg h]
        exact ⟨s, by rw [if_neg h], w1, fun _ => w2⟩
    have next : ∀ (tm2 : List Cell) (nx2 : Nat) (hp2 : Heap), tm2.length = 46 → getC tm2 0 = (.lst (encSs xs), false) → getC tm2 8 = (.lst (encSs xs), false) → getC tm2 9 = (.int .i64 xs.length, false) → getC tm2 10 = (.int .i64 (k + 1), false) → LoopF 46 2 0 (spGo xs n (k + 1)) (X K ⟨0, []⟩ (.loop (LB Tryd.prog 21 [] 0)) ⟨tm2, nx2, hp2⟩) :=
      fun tm2 nx2 hp2 q1 q2 q3 q4 q5 => ihn (k + 1) tm2 nx2 hp2 (by omega) q1 q2 q3 q4 (by rw [q5]; rfl)
    generalize hb : X K _ _ _ = r
    apply fin
    all_goals clear fin
    all_goals
      cases c1 : nameB x.name
      · simp [ht, h0, h8, h9, h10, hkl, hxe, hw2, within_not, c1] at hb
        simp [hsp, c1]
        try (subst hb; simp [ht])
      · cases c2 : outside x.low 0 999
        · cases c3 : outside x.high x.low 999
          · by_cases c4 : 0 < k
            · have hy := List.getElem?_eq_getElem (l := xs) (i := k - 1) (by omega)
              generalize xs[k - 1] = y at hy
              have hye := encSs_at hy
              simp only [encS] at hye
              have hw3 : IntKind.i64.wrap ((k : Int) - 1) = ((k - 1 : Nat) : Int) := by rw [wrap_small (by omega) (by omega)]; omega
              have c4' : (0 : Int) < k := by omega
              have hk1 : ¬ (k - 1) = k := by omega
              have hleB : (Op.bytesLess x.name.toList y.name.toList || x.name.toList == y.name.toList) = leB x.name y.name := rfl
              cases c5 : leB x.name y.name
              all_goals
                simp [ht, h0, h8, h9, h10, hkl, hxe, hye, hw2, hw3, within_not, c1, c2, c3, c4, c4', hleB, c5] at hb
                simp [hsp, c1, c2, c3, c4, hy, c5]
                try (subst hb; simp [ht])
                try (refine next _ _ _ ?_ ?_ ?_ ?_ ?_ <;> simp [ht, h0, h8, h9])
            · have c4' : ¬ (0 : Int) < k := by omega
              simp [ht, h0, h8, h9, h10, hkl, hxe, hw2, within_not, c1, c2, c3, c4, c4'] at hb
              simp [hsp, c1, c2, c3, c4]
              try (subst hb; simp [ht])
              try (refine next _ _ _ ?_ ?_ ?_ ?_ ?_ <;> simp [ht, h0, h8, h9])
          · simp [ht, h0, h8, h9, h10, hkl, hxe, hw2, within_not, c1, c2, c3] at hb
            simp [hsp, c1, c2, c3]
            try (subst hb; simp [ht])
        · simp [ht, h0, h8, h9, h10, hkl, hxe, hw2, within_not, c1, c2] at hb
          simp [hsp, c1, c2]
          try (subst hb; simp [ht])
@[simp] theorem spansFault_R (xs : List Sp) (ro nx : Nat) (hp : Heap) : R K 21 [.lst (encSs xs)] ro nx hp = some ⟨.int .i64 (spsF xs), false, nx, hp⟩ := by
  unfold spsF
  rw [R_val' K ro 21 _ nx hp [] Tryd.func21 rfl Tryd.ntmps21 Tryd.results21 (mu := []) rfl (by kernel_rfl) rfl rfl]; simp only [slim, slimO, annO, List.map, List.zip, List.zipWith, List.lookup, holed, Nat.reduceBEq]
  by_cases h : 2000 < xs.length
  · have h' : (2000 : Int) < xs.length := by omega
    simp [List.replicate, h, h']
  · have h' : ¬ (2000 : Int) < xs.length := by omega
    simp [List.replicate, h, h']
    generalize hb : X K _ (.loop _) _ = r
    have hk : LoopF 46 2 0 (spGo xs xs.length 0) r := by
      rw [← hb]
      exact spansFault_loop xs (by omega) xs.length 0 _ _ _ (by omega) (by simp) (by simp) (by simp) (by simp) (by simp)
    obtain ⟨⟨tm', nx', hp'⟩, rfl, h1, h2⟩ := hk
    simp only at h1 h2
    clear hb
    by_cases h0 : spGo xs xs.length 0 = 0
    · simp [h0, h1]
    · simp [h0, h1, h2 h0]
theorem spansFault1_loop (xs : List Sp) (hl : xs.length ≤ 2000) : ∀ (n k : Nat) (tm : List Cell) (nx : Nat) (hp : Heap), n + k = xs.length → tm.length = 48 → getC tm 0 = (.lst (encSs xs), false) → getC tm 8 = (.lst (encSs xs), false) → getC tm 9 = (.int .i64 xs.length, false) → getC tm 10 = (.int .i64 k, false) →
    LoopF 48 2 0 (spGo xs n k) (X K ⟨0, []⟩ (.loop (LB Tryd.prog 9 [] 0)) ⟨tm, nx, hp⟩) := by
  have e := LB_open (P := Tryd.prog) [] 0 Tryd.func9 rfl rfl (by kernel_rfl)
  simp only [slim, slimO, annO, List.map, List.zip, List.zipWith, List.lookup, holed, loopsOf, List.nil_append, List.cons_append, List.getD_cons_zero, List.getD_cons_succ, Nat.reduceBEq] at e
  intro n
  induction n with
  | zero =>
    intro k tm nx hp hk ht h0 h8 h9 h10
    rw [Y_loop_eq _ _ e]
    clear e
    have hkl : ¬ (k : Int) < xs.length := by omega
    generalize hb : X K _ _ _ = r
    simp [ht, h9, h10, hkl] at hb
    subst hb
    exact ⟨_, rfl, by simp [ht], fun h => absurd rfl h⟩
  | succ n ihn =>
    intro k tm nx hp hk ht h0 h8 h9 h10
    have hx := List.getElem?_eq_getElem (l := xs) (i := k) (by omega)
    rw [Y_loop_eq _ _ e]
    clear e
    generalize xs[k] = x at hx
    have hkl : (k : Int) < xs.length := by omega
    have hxe := encSs_at hx
    have hw2 : IntKind.i64.wrap ((k : Int) + 1) = (k : Int) + 1 := wrap_small (by omega) (by omega)
    have hsp : spAt xs k = if nameB x.name = false then 5 else if outside x.low 0 999 = true ∨ outside x.high x.low 999 = true then 1 else if 0 < k ∧ (match xs[k - 1]? with | some y => leB x.name y.name | none => false) = true then 7 else 0 := by simp only [spAt, hx]
    simp only [encS] at hxe
    have fin : ∀ (r : Option (AExit × St)), (∀ (s : St), spAt xs k = 0 → r = some (.normal, s) → LoopF 48 2 0 (spGo xs n (k + 1)) (X K ⟨0, []⟩ (.loop (LB Tryd.prog 9 [] 0)) s)) → (spAt xs k = 0 → ∃ s, r = some (.normal, s)) → (spAt xs k ≠ 0 → ∃ s : St, r = some (.ret, s) ∧ s.tm.length = 48 ∧ getC s.tm 2 = (.int .i64 (spAt xs k), false)) →
        LoopF 48 2 0 (spGo xs (n + 1) k) (XK K ⟨0, []⟩ (.loop (LB Tryd.prog 9 [] 0)) r) := by
      intro r q1 q2 q3
      by_cases h : spAt xs k = 0
      · obtain ⟨s, rfl⟩ := q2 h
        rw [XK_normal, spGo, if_pos h]
        exact q1 s h rfl
      · obtain ⟨s, rfl, w1, w2⟩ := q3 h
        rw [XK_ret, spGo, if_neg h]
        exact ⟨s, by rw [if_neg h], w1, fun _ => w2⟩
    have next : ∀ (tm2 : List Cell) (nx2 : Nat) (hp2 : Heap), tm2.length = 48 → getC tm2 0 = (.lst (encSs xs), false) → getC tm2 8 = (.lst (encSs xs), false) → getC tm2 9 = (.int .i64 xs.length, false) → getC tm2 10 = (.int .i64 (k + 1), false) → LoopF 48 2 0 (spGo xs n (k + 1)) (X K ⟨0, []⟩ (.loop (LB Tryd.prog 9 [] 0)) ⟨tm2, nx2, hp2⟩) :=
      fun tm2 nx2 hp2 q1 q2 q3 q4 q5 => ihn (k + 1) tm2 nx2 hp2 (by omega) q1 q2 q3 q4 (by rw [q5]; rfl)
    generalize hb : X K _ _ _ = r
    apply fin
    all_goals clear fin
    all_goals
      cases c1 : nameB x.name
      · simp [ht, h0, h8, h9, h10, hkl, hxe, hw2, within_not, c1] at hb
        simp [hsp, c1]
        try (subst hb; simp [ht])
      · cases c2 : outside x.low 0 999
        · cases c3 : outside x.high x.low 999
          · by_cases c4 : 0 < k
            · have hy := List.getElem?_eq_getElem (l := xs) (i := k - 1) (by omega)
              generalize xs[k - 1] = y at hy
              have hye := encSs_at hy
              simp only [encS] at hye
              have hw3 : IntKind.i64.wrap ((k : Int) - 1) = ((k - 1 : Nat) : Int) := by rw [wrap_small (by omega) (by omega)]; omega
              have c4' : (0 : Int) < k := by omega
              have hk1 : ¬ (k - 1) = k := by omega
              have hleB : (Op.bytesLess x.name.toList y.name.toList || x.name.toList == y.name.toList) = leB x.name y.name := rfl
              cases c5 : leB x.name y.name
              all_goals
                simp [ht, h0, h8, h9, h10, hkl, hxe, hye, hw2, hw3, within_not, c1, c2, c3, c4, c4', hleB, c5] at hb
                simp [hsp, c1, c2, c3, c4, hy, c5]
                try (subst hb; simp [ht])
                try (refine next _ _ _ ?_ ?_ ?_ ?_ ?_ <;> simp [ht, h0, h8, h9])
            · have c4' : ¬ (0 : Int) < k := by omega
              simp [ht, h0, h8, h9, h10, hkl, hxe, hw2, within_not, c1, c2, c3, c4, c4'] at hb
              simp [hsp, c1, c2, c3, c4]
              try (subst hb; simp [ht])
              try (refine next _ _ _ ?_ ?_ ?_ ?_ ?_ <;> simp [ht, h0, h8, h9])
          · simp [ht, h0, h8, h9, h10, hkl, hxe, hw2, within_not, c1, c2, c3] at hb
            simp [hsp, c1, c2, c3]
            try (subst hb; simp [ht])
        · simp [ht, h0, h8, h9, h10, hkl, hxe, hw2, within_not, c1, c2] at hb
          simp [hsp, c1, c2]
          try (subst hb; simp [ht])
@[simp] theorem spansFault1_R (xs : List Sp) (ro nx : Nat) (hp : Heap) : R K 9 [.lst (encSs xs)] ro nx hp = some ⟨.int .i64 (spsF xs), false, nx, hp⟩ := by
  unfold spsF
  rw [R_val' K ro 9 _ nx hp [] Tryd.func9 rfl Tryd.ntmps9 Tryd.results9 (mu := []) rfl (by kernel_rfl) rfl rfl]; simp only [slim, slimO, annO, List.map, List.zip, List.zipWith, List.lookup, holed, Nat.reduceBEq]
  by_cases h : 2000 < xs.length
  · have h' : (2000 : Int) < xs.length := by omega
    simp [List.replicate, h, h']
  · have h' : ¬ (2000 : Int) < xs.length := by omega
    simp [List.replicate, h, h']
    generalize hb : X K _ (.loop _) _ = r
    have hk : LoopF 48 2 0 (spGo xs xs.length 0) r := by
      rw [← hb]
      exact spansFault1_loop xs (by omega) xs.length 0 _ _ _ (by omega) (by simp) (by simp) (by simp) (by simp) (by simp)
    obtain ⟨⟨tm', nx', hp'⟩, rfl, h1, h2⟩ := hk
    simp only at h1 h2
    clear hb
    by_cases h0 : spGo xs xs.length 0 = 0
    · simp [h0, h1]
    · simp [h0, h1, h2 h0]
end Go.Proofs.YtleimfinniclgaaDoor.M
