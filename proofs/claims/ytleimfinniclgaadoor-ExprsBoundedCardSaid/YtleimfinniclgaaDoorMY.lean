/- Any order that is drawn. -/
import Derived.Test.YtleimfinniclgaaDoorMX
import Derived.Orders
namespace Go.Proofs.YtleimfinniclgaaDoor.M
open Go
set_option linter.unusedVariables false
variable {P : Program} {kd : Knd} {call : CallF} {ops : Array Oper} {ro : Md}

def bOne (look : Nat → Nat) (o : Oper) : Nat := o.after.foldl (fun s e => if Region.binds .any e then s ||| 2 ^ e.on ||| look e.on else s) 0
def bPush (acc : Array Nat) (o : Oper) : Array Nat := acc.push (bOne (fun i => acc.getD i 0) o)
theorem bOne_bit {look : Nat → Nat} {i : Nat} : ∀ (l : List Edge) (s : Nat), (l.foldl (fun s e => if Region.binds .any e then s ||| 2 ^ e.on ||| look e.on else s) s).testBit i = true → s.testBit i = true ∨ ∃ e ∈ l, Region.binds .any e = true ∧ (e.on = i ∨ (look e.on).testBit i = true) := by
  intro l
  induction l with
  | nil => intro s h; exact .inl h
  | cons e l ih =>
    intro s h
    rw [List.foldl_cons] at h
    rcases ih _ h with h | ⟨e', he, h⟩
    · split at h
      · rename_i hbe
        rw [Nat.testBit_or, Nat.testBit_or, Bool.or_eq_true, Bool.or_eq_true, Nat.testBit_two_pow] at h
        rcases h with (h | h) | h
        · exact .inl h
        · exact .inr ⟨e, by simp, hbe, .inl (by simpa using h)⟩
        · exact .inr ⟨e, by simp, hbe, .inr h⟩
      · exact .inl h
    · exact .inr ⟨e', by simp [he], h⟩
theorem bPush_getD (A : Array Nat) (o : Oper) (j : Nat) (h : j < A.size) : (bPush A o).getD j 0 = A.getD j 0 := by
  simp [bPush, Array.getD_eq_getD_getElem?, Array.getElem?_push, Nat.ne_of_lt h]
theorem bFold_getD : ∀ (l : List Oper) (A : Array Nat) (j : Nat), j < A.size → (l.foldl bPush A).getD j 0 = A.getD j 0 := by
  intro l
  induction l with
  | nil => intro A j _; rfl
  | cons o l ih =>
    intro A j h
    rw [List.foldl_cons, ih _ _ (by simp [bPush]; omega), bPush_getD A o j h]
theorem bFold_bit : ∀ (l : List Oper) (A : Array Nat) (k : Nat) (o : Oper) (i : Nat), l[k]? = some o → ((l.foldl bPush A).getD (A.size + k) 0).testBit i = true →
    ∃ e ∈ o.after, Region.binds .any e = true ∧ (e.on = i ∨ ((l.foldl bPush A).getD e.on 0).testBit i = true) := by
  intro l
  induction l with
  | nil => intro A k o i h; simp at h
  | cons x l ih =>
    intro A k o i h hb
    rw [List.foldl_cons] at hb ⊢
    cases k with
    | zero =>
      simp at h; subst h
      have hs : A.size < (bPush A x).size := by simp [bPush]
      rw [Nat.add_zero, bFold_getD l _ _ hs] at hb
      have : (bPush A x).getD A.size 0 = bOne (fun i => A.getD i 0) x := by simp [bPush, Array.getD_eq_getD_getElem?]
      rw [this] at hb
      unfold bOne at hb
      rw [← Array.foldl_toList] at hb
      rcases bOne_bit (look := fun i => A.getD i 0) _ _ hb with h | ⟨e, he, hbe, h⟩
      · simp at h
      · refine ⟨e, by simpa using he, hbe, h.imp id fun h => ?_⟩
        by_cases hlt : e.on < A.size
        · rw [bFold_getD l _ _ (by omega), bPush_getD A x _ hlt]; exact h
        · simp only [Array.getD_eq_getD_getElem?] at h
          rw [Array.getElem?_eq_none (by omega)] at h
          simp at h
    | succ k =>
      have e1 : A.size + (k + 1) = (bPush A x).size + k := by simp [bPush]; omega
      rw [e1] at hb
      exact ih _ k o i (by simpa using h) hb
theorem before_bit {j i : Nat} {o : Oper} (hj : ops[j]? = some o) (h : ((Region.before ops).getD j 0).testBit i = true) : ∃ e ∈ o.after, Region.binds .any e = true ∧ (e.on = i ∨ ((Region.before ops).getD e.on 0).testBit i = true) := by
  have e : Region.before ops = ops.toList.foldl bPush #[] := by
    unfold Region.before
    rw [← Array.foldl_toList]
    rfl
  rw [e] at h ⊢
  exact bFold_bit _ #[] j o i (by simpa using hj) (by simpa using h)

def Closed (ops : Array Oper) (listed : Array Bool) : Prop := ∀ (j : Nat) (o : Oper), ops[j]? = some o → listed.getD j false = true → ∀ e ∈ o.after, Region.binds .any e = true → listed.getD e.on false = true
theorem before_listed {listed : Array Bool} (hc : Closed ops listed) (hlt : ∀ (j : Nat) (o : Oper), ops[j]? = some o → ∀ e ∈ o.after, Region.binds .any e = true → e.on < j) : ∀ (j : Nat) (o : Oper), ops[j]? = some o → (∀ e ∈ o.after, Region.binds .any e = true → listed.getD e.on false = true) → ∀ i, ((Region.before ops).getD j 0).testBit i = true → listed.getD i false = true := by
  intro j
  induction j using Nat.strongRecOn with
  | ind j ih =>
    intro o ho hd i hb
    obtain ⟨e, he, hbe, h⟩ := before_bit ho hb
    rcases h with rfl | h
    · exact hd e he hbe
    · have hl := hlt j o ho e he hbe
      have hsz : j < ops.size := (Array.getElem?_eq_some_iff.1 ho).1
      have ho' : ops[e.on]? = some ops[e.on] := Array.getElem?_eq_getElem (by omega)
      exact ih e.on hl _ ho' (hc _ _ ho' (hd e he hbe)) i h
def restOf (ops : Array Oper) (listed : Array Bool) : List Nat := (List.range ops.size).filter fun i => !listed.getD i true
def opsAt (ops : Array Oper) (l : List Nat) : List Oper := l.filterMap (ops[·]?)
theorem rest_set {listed : Array Bool} {i : Nat} {l1 l2 : List Nat} (h : restOf ops listed = l1 ++ i :: l2) : restOf ops (listed.setIfInBounds i true) = l1 ++ l2 ∧ ∀ k ∈ l1, k < i := by
  have hp : (restOf ops listed).Pairwise (· < ·) := List.Pairwise.filter _ List.pairwise_lt_range
  rw [h, List.pairwise_append] at hp
  obtain ⟨p1, p2, p3⟩ := hp
  rw [List.pairwise_cons] at p2
  refine ⟨?_, fun k hk => p3 k hk i (by simp)⟩
  have e : restOf ops (listed.setIfInBounds i true) = (restOf ops listed).filter (fun k => k != i) := by
    unfold restOf
    rw [List.filter_filter]
    refine List.filter_congr fun k hk => ?_
    by_cases hki : k = i
    · subst hki
      simp only [bne_self_eq_false, Bool.false_and, Bool.not_eq_false']
      by_cases hlt : k < listed.size
      · simp [Array.getD_eq_getD_getElem?, hlt]
      · rw [Array.getD_eq_getD_getElem?, Array.getElem?_eq_none (by simp; omega)]; rfl
    · rw [getD_set_ne true (fun e => hki e.symm)]
      simp [hki]
  rw [e, h, List.filter_append, List.filter_cons]
  have f1 : l1.filter (fun k => k != i) = l1 := List.filter_eq_self.2 fun k hk => by
    have := p3 k hk i (by simp)
    simp; omega
  have f2 : l2.filter (fun k => k != i) = l2 := List.filter_eq_self.2 fun k hk => by
    have := p2.1 k hk
    simp; omega
  simp [f1, f2]
/-! ### Equal values -/
mutual
theorem same_eq : ∀ v v' : AVal, v.same v' = true → v = v'
  | .int k n, v', h => by
    cases v' <;> simp [AVal.same] at h
    obtain ⟨rfl, rfl⟩ := h; rfl
  | .bool b, v', h => by
    cases v' <;> simp [AVal.same] at h
    subst h; rfl
  | .str s, v', h => by
    cases v' <;> simp [AVal.same] at h
    rename_i s'
    obtain ⟨⟨l⟩⟩ := s; obtain ⟨⟨l'⟩⟩ := s'
    have : l = l' := by simpa using h
    subst this; rfl
  | .agg l, v', h => by
    cases v' <;> simp [AVal.same] at h
    rw [sames_eq _ _ h]
  | .lst l, v', h => by
    cases v' <;> simp [AVal.same] at h
    rw [sames_eq _ _ h]
  | .tup l, v', h => by
    cases v' <;> simp [AVal.same] at h
    rw [sames_eq _ _ h]
  | .ptr i o, v', h => by
    cases v' <;> simp [AVal.same] at h
    obtain ⟨rfl, rfl⟩ := h; rfl
  | .pel e o, v', h => by
    cases v' <;> simp [AVal.same] at h
    rw [same_eq _ _ h.1, h.2]
  | .map i, v', h => by
    cases v' <;> simp [AVal.same] at h
    subst h; rfl
  | .sl a b c d e, v', h => by
    cases v' <;> simp [AVal.same] at h
    obtain ⟨⟨⟨⟨rfl, rfl⟩, rfl⟩, rfl⟩, rfl⟩ := h; rfl
  | .clo f l m, v', h => by
    cases v' <;> simp [AVal.same] at h
    rw [h.1.1, sames_eq _ _ h.1.2, sames_eq _ _ h.2]
  | .nilp, v', h => by cases v' <;> simp [AVal.same] at h ⊢
  | .nilf, v', h => by cases v' <;> simp [AVal.same] at h ⊢
  | .nilm, v', h => by cases v' <;> simp [AVal.same] at h ⊢
  | .nils, v', h => by cases v' <;> simp [AVal.same] at h ⊢
  | .bad, v', h => by cases v' <;> simp [AVal.same] at h ⊢
theorem sames_eq : ∀ l l' : List AVal, sames l l' = true → l = l'
  | [], l', h => by cases l' <;> simp [sames] at h ⊢
  | v :: r, l', h => by
    cases l' <;> simp [sames] at h
    rw [same_eq _ _ h.1, sames_eq _ _ h.2]
end
theorem cellsSame_eq : ∀ l l' : List Cell, cellsSame l l' = true → l = l'
  | [], l', h => by cases l' <;> simp [cellsSame] at h ⊢
  | (v, f) :: r, l', h => by
    cases l' with
    | nil => simp [cellsSame] at h
    | cons c r' =>
      obtain ⟨v', f'⟩ := c
      simp [cellsSame] at h
      rw [same_eq _ _ h.1.1, h.1.2, cellsSame_eq _ _ h.2]
theorem pairsSame_eq : ∀ l l' : List (AVal × AVal), pairsSame l l' = true → l = l'
  | [], l', h => by cases l' <;> simp [pairsSame] at h ⊢
  | (v, u) :: r, l', h => by
    cases l' with
    | nil => simp [pairsSame] at h
    | cons c r' =>
      obtain ⟨v', u'⟩ := c
      simp [pairsSame] at h
      rw [same_eq _ _ h.1.1, same_eq _ _ h.1.2, pairsSame_eq _ _ h.2]
theorem blkSame_eq {a b : Option ABlk} (h : blkSame a b = true) : a = b := by
  unfold blkSame at h
  split at h
  · rw [cellsSame_eq _ _ h]
  · rw [pairsSame_eq _ _ h]
  · rfl
  · cases h
theorem stayB_spec {h h' : Heap} {f : Option Nat} (hs : stayB h h' f = true) : Stay h h' f := by
  intro id e
  subst e
  exact blkSame_eq hs
/-! ### Orders -/
theorem eff_heapy (hk : Kds kd call) {o : Oper} (h : heapy kd.vl ro.mu o = false) : effectful ro.mu kd.pure ops o = false := by
  obtain ⟨dst, op, type, pos, after, guard⟩ := o
  cases op <;> first
    | rfl
    | (cases h; done)
    | exact h
    | skip
  rename_i c
  obtain ⟨callee, args, ts⟩ := c
  cases callee with
  | invoke a b => cases h
  | builtin b => exact h
  | value f =>
    cases f with
    | func g =>
      have h1 : (!kd.vl g) = false := h
      have h2 : kd.vl g = true := by simpa using h1
      show (!kd.pure g) = false
      rw [hk.sub g h2]; rfl
    | _ => cases h
/-- A run in which what the readers read stays where it must. -/
def Inv (P : Program) (call : CallF) (ops : Array Oper) (ro : Md) (φ : Nat → Option Nat) (Qp : Nat → Nat → Prop) : List Nat → St → St → Prop
  | [], s, s' => s = s'
  | j :: r, s, s' => ∃ o s1, ops[j]? = some o ∧ astep P call ops ro o s = some s1 ∧ (rdr ro.mu ops o = true → footAt o s = φ j) ∧
      (∀ k ok, ops[k]? = some ok → rdr ro.mu ops ok = true → (Qp k j ∨ Qp j k) → Stay s.hp s1.hp (φ k)) ∧ Inv P call ops ro φ Qp r s1 s'
variable {φ : Nat → Option Nat} {Qp : Nat → Nat → Prop}
theorem Inv.swap (hk : Kds kd call) {a b : Nat} {r : List Nat} {s s' : St} (hab : ∀ oa ob, ops[a]? = some oa → ops[b]? = some ob → indep kd ro.mu ops oa ob = true ∨ (Qp a b ∧ dynp kd ro.mu ops oa ob = true)) (h : Inv P call ops ro φ Qp (a :: b :: r) s s') : Inv P call ops ro φ Qp (b :: a :: r) s s' := by
  obtain ⟨oa, s1, ha, h1, fa, ca, ob, s2, hb, h2, fb, cb, hr⟩ := h
  have hsl : slotsOk ops oa ob = true := by
    rcases hab oa ob ha hb with h | ⟨_, h⟩
    · simp only [indep, Bool.and_eq_true] at h; exact h.1.1
    · simp only [dynp, Bool.and_eq_true] at h; exact h.1
  have hne : effectful ro.mu kd.pure ops oa = false ∨ effectful ro.mu kd.pure ops ob = false := by
    rcases hab oa ob ha hb with h | ⟨_, h⟩
    · simp only [indep, Bool.and_eq_true, Bool.not_eq_true'] at h
      cases hy : heapy kd.vl ro.mu ob with
      | false => exact .inr (eff_heapy hk hy)
      | true =>
        have := h.1.2
        rw [hy, Bool.and_true] at this
        exact .inl this
    · simp only [dynp, Bool.and_eq_true, Bool.or_eq_true] at h
      rcases h.2 with h | h
      · exact .inl (rdr_still h.1 _)
      · exact .inr (rdr_still h.2 _)
  have hm : May kd ro ops oa ob s s1 s2 := by
    rcases hab oa ob ha hb with h | ⟨hq, h⟩
    · left
      simp only [indep, Bool.and_eq_true] at h ⊢
      exact ⟨h.1.2, h.2⟩
    · simp only [dynp, Bool.and_eq_true, Bool.or_eq_true] at h
      rcases h.2 with h | h
      · exact .inr (.inl ⟨h.1, by rw [fa h.1]; exact cb a oa ha h.1 (.inl hq)⟩)
      · refine .inr (.inr ⟨h.2, ?_⟩)
        rw [fb h.2]
        intro id e
        exact (ca b ob hb h.2 (.inr hq) id e).symm
  obtain ⟨s1', g1, g2, e1, e2⟩ := M.swap hk hsl h1 h2 hm
  refine ⟨ob, s1', hb, g1, fun hr => by rw [← e1]; exact fb hr, fun k ok hok hrd hq => ?_, oa, s2, ha, g2, fun hr => by rw [e2]; exact fa hr, fun k ok hok hrd hq => ?_, hr⟩
  · rcases hne with hn | hn
    · have x1 := (astep_still hk hn h1).2
      have x2 := (astep_still hk hn g2).2
      have := cb k ok hok hrd hq
      rw [x1, x2] at this
      exact this
    · have x2 := (astep_still hk hn g1).2
      rw [x2]
      exact fun id e => rfl
  · rcases hne with hn | hn
    · have x2 := (astep_still hk hn g2).2
      rw [x2]
      exact fun id e => rfl
    · have x1 := (astep_still hk hn h2).2
      have x2 := (astep_still hk hn g1).2
      have := ca k ok hok hrd hq
      rw [x2, x1]
      exact this
theorem Inv.bubble (hk : Kds kd call) {i : Nat} : ∀ (l r : List Nat) {s s' : St}, (∀ a ∈ l, ∀ oa ob, ops[a]? = some oa → ops[i]? = some ob → indep kd ro.mu ops oa ob = true ∨ (Qp a i ∧ dynp kd ro.mu ops oa ob = true)) → Inv P call ops ro φ Qp (l ++ i :: r) s s' → Inv P call ops ro φ Qp (i :: (l ++ r)) s s' := by
  intro l
  induction l with
  | nil => intro r s s' _ h; exact h
  | cons a l ih =>
    intro r s s' hi h
    obtain ⟨oa, s1, ha, h1, fa, ca, hr⟩ := h
    have h2 := ih r (fun x hx => hi x (.tail _ hx)) hr
    exact Inv.swap hk (hi a (.head _)) ⟨oa, s1, ha, h1, fa, ca, h2⟩
theorem topo_ready {listed : Array Bool} (hsz : listed.size = ops.size) : ∀ (l seen : List Nat), topoGo ops seen l = true → (∀ i ∈ seen, listed.getD i false = true) → (∃ k ∈ l, listed.getD k true = false) → Region.ready .gc ops listed ≠ [] := by
  intro l
  induction l with
  | nil => rintro seen _ _ ⟨k, hk, _⟩; cases hk
  | cons i r ih =>
    rintro seen h hs ⟨k, hk, hu⟩
    rw [topoGo, Bool.and_eq_true] at h
    obtain ⟨h1, h2⟩ := h
    cases ho : ops[i]? with
    | none => rw [ho] at h1; cases h1
    | some o =>
      rw [ho] at h1
      have hi : i < listed.size := by rw [hsz]; exact (Array.getElem?_eq_some_iff.1 ho).1
      cases hl : listed.getD i true with
      | false =>
        have : i ∈ Region.ready .gc ops listed := by
          rw [mem_ready]
          refine ⟨hl, o, ho, fun e he hb => ?_⟩
          have := (Array.all_eq_true_iff_forall_mem.1 h1) e he
          rw [hb] at this
          exact hs _ (by simpa using this)
        intro h0
        rw [h0] at this
        cases this
      | true =>
        refine ih (i :: seen) h2 (fun x hx => ?_) ⟨k, ?_, hu⟩
        · rcases List.mem_cons.1 hx with rfl | hx
          · simp [Array.getD_eq_getD_getElem?, hi] at hl ⊢; exact hl
          · exact hs x hx
        · rcases List.mem_cons.1 hk with rfl | hk
          · rw [hl] at hu; cases hu
          · exact hk
/-- Where the edges that bind point back, something is ready. -/
theorem back_ready {m : Region.Mode} (hlt : ∀ (j : Nat) (o : Oper), ops[j]? = some o → ∀ e ∈ o.after, Region.binds m e = true → e.on < j) {listed : Array Bool} (hsz : listed.size = ops.size) (h : restOf ops listed ≠ []) : Region.ready m ops listed ≠ [] := by
  have mem_rest : ∀ k, k ∈ restOf ops listed ↔ k < ops.size ∧ listed.getD k true = false := by
    intro k
    unfold restOf
    rw [List.mem_filter, List.mem_range]
    simp
  cases hr : restOf ops listed with
  | nil => exact absurd hr h
  | cons x xs =>
    obtain ⟨hx1, hx2⟩ := (mem_rest x).1 (by rw [hr]; simp)
    have : x ∈ Region.ready m ops listed := by
      rw [mem_ready]
      refine ⟨hx2, ops[x], Array.getElem?_eq_getElem hx1, fun e he hb => ?_⟩
      have hl := hlt x _ (Array.getElem?_eq_getElem hx1) e he hb
      cases hh : listed.getD e.on false with
      | true => rfl
      | false =>
        exfalso
        have hsm : e.on < listed.size := by omega
        have hm : e.on ∈ restOf ops listed := (mem_rest _).2 ⟨by omega, by
          simp [Array.getD_eq_getD_getElem?, hsm] at hh ⊢; exact hh⟩
        have hp : (restOf ops listed).Pairwise (· < ·) := List.Pairwise.filter _ List.pairwise_lt_range
        rw [hr] at hm hp
        rw [List.pairwise_cons] at hp
        rcases List.mem_cons.1 hm with h1 | h1
        · omega
        · have := hp.1 _ h1; omega
    intro h0
    rw [h0] at this
    cases this
theorem go_any (hk : Kds kd call) {m : Region.Mode} {X : Nat → Nat → Prop} (kk : Nat) (hlt : ∀ (j : Nat) (o : Oper), ops[j]? = some o → ∀ e ∈ o.after, Region.binds .any e = true → e.on < j)
    (hin : ∀ (i j : Nat) (a b : Oper), i < j → ops[i]? = some a → ops[j]? = some b → ((Region.before ops).getD j 0).testBit i = true ∨ (indep kd ro.mu ops a b = true ∨ (Qp i j ∧ dynp kd ro.mu ops a b = true)) ∨ X i j)
    (hbind : ∀ e : Edge, Region.binds .any e = true → Region.binds m e = true)
    (hprog : ∀ listed : Array Bool, listed.size = ops.size → restOf ops listed ≠ [] → Region.ready m ops listed ≠ []) :
    ∀ (fuel t : Nat) (listed : Array Bool) (s s' : St), listed.size = ops.size → (restOf ops listed).length ≤ fuel → Closed ops listed → (∀ i j, X i j → listed.getD i false = true) → Inv P call ops ro φ Qp (restOf ops listed) s s' →
      ∃ os : List Oper, (Region.linearise.go m ops fuel t listed []).map (fun i => ops[i]?) = os.map some ∧ DRun P call ops ro kk os s s' := by
  intro fuel
  induction fuel with
  | zero =>
    intro t listed s s' hsz hf hc hX h
    have : restOf ops listed = [] := List.eq_nil_of_length_eq_zero (by omega)
    rw [this] at h
    cases (h : s = s')
    exact ⟨[], by simp [Region.linearise.go], .nil s⟩
  | succ fuel ih =>
    intro t listed s s' hsz hf hc hX h
    simp only [Region.linearise.go]
    change ∃ os : List Oper, (match (Region.ready m ops listed)[t % (Region.ready m ops listed).length]? with
      | some i => Region.linearise.go m ops fuel (t / (Region.ready m ops listed).length) (listed.setIfInBounds i true) [i]
      | none => [].reverse).map (fun i => ops[i]?) = os.map some ∧ DRun P call ops ro kk os s s'
    have mem_rest : ∀ k, k ∈ restOf ops listed ↔ k < ops.size ∧ listed.getD k true = false := by
      intro k
      unfold restOf
      rw [List.mem_filter, List.mem_range]
      simp
    cases hi : (Region.ready m ops listed)[t % (Region.ready m ops listed).length]? with
    | none =>
      have hnil : Region.ready m ops listed = [] := by
        cases hr : Region.ready m ops listed with
        | nil => rfl
        | cons x xs =>
          rw [hr] at hi
          have hlt : t % (x :: xs).length < (x :: xs).length := Nat.mod_lt _ (by simp)
          simp at hi
          simp at hlt
          omega
      have : restOf ops listed = [] := by
        by_cases hr : restOf ops listed = []
        · exact hr
        · exact absurd hnil (hprog listed hsz hr)
      rw [this] at h
      cases (h : s = s')
      exact ⟨[], by simp, .nil s⟩
    | some i =>
      simp only []
      have hri := List.mem_of_getElem? hi
      rw [mem_ready] at hri
      obtain ⟨hli, o, ho, haf⟩ := hri
      have hio : i < ops.size := (Array.getElem?_eq_some_iff.1 ho).1
      obtain ⟨l1, l2, hsp⟩ := List.append_of_mem ((mem_rest i).2 ⟨hio, hli⟩)
      obtain ⟨hset, hlt1⟩ := rest_set hsp
      have haf' : ∀ e ∈ o.after, Region.binds .any e = true → listed.getD e.on false = true := fun e he hb => haf e he (hbind e hb)
      have hb := before_listed hc hlt i o ho haf'
      rw [hsp] at h
      have h2 := Inv.bubble hk l1 l2 (fun k hk' oa ob hka hob => by
        rw [ho] at hob; cases hob
        have no : listed.getD k false = true → False := fun h1 => by
          have h2 := ((mem_rest k).1 (by rw [hsp]; simp [hk'])).2
          have hks : k < listed.size := by
            have := (Array.getElem?_eq_some_iff.1 hka).1
            omega
          simp [Array.getD_eq_getD_getElem?, hks] at h1 h2
          rw [h1] at h2; cases h2
        rcases hin k i oa o (hlt1 k hk') hka ho with hh | hh | hh
        · exact (no (hb k hh)).elim
        · exact hh
        · exact (no (hX k i hh)).elim) h
      obtain ⟨o', s1, ho', h3, _, _, h4⟩ := h2
      rw [ho] at ho'; cases ho'
      have hc' : Closed ops (listed.setIfInBounds i true) := by
        intro j o' hj hjl e he hb
        by_cases hij : i = j
        · subst hij
          rw [ho] at hj; cases hj
          exact getD_set_true (haf' e he hb)
        · rw [getD_set_ne false hij] at hjl
          exact getD_set_true (hc j o' hj hjl e he hb)
      have hlen : (restOf ops (listed.setIfInBounds i true)).length ≤ fuel := by
        rw [hset]
        rw [hsp] at hf
        simp at hf ⊢
        omega
      obtain ⟨os, ho1, ho2⟩ := ih (t / (Region.ready m ops listed).length) _ s1 s' (by simpa using hsz) hlen hc' (fun a b h => getD_set_true (hX a b h)) (by rw [hset]; exact h4)
      refine ⟨o :: os, ?_, ?_⟩
      · rw [linearise_go_acc, List.reverse_singleton, List.singleton_append, List.map_cons, ho1, ho]
        rfl
      · exact .op h3 ho2
/-! ### Two new variables side by side -/
theorem ofCell_ids (n : Nat) (c : Value) : (ofCell c).idsLt n = true := by
  unfold ofCell
  split <;> simp [AVal.idsLt, idsLts]
def zsT (P : Program) (t : TypeId) : Option (List Cell) := match (P.info? t).bind (·.zero) with
  | some z => if (z.cells.toList.map ofCell).all AVal.one then some (z.cells.toList.map fun c => (ofCell c, isNil c)) else none
  | none => none
theorem zsT_ids {t : TypeId} {zs : List Cell} (h : zsT P t = some zs) (n : Nat) : ∀ c ∈ zs, c.1.idsLt n = true := by
  unfold zsT at h
  split at h
  · split at h
    · cases h
      intro c hc
      obtain ⟨x, _, rfl⟩ := List.mem_map.1 hc
      exact ofCell_ids n x
    · cases h
  · cases h
theorem allocs_spec {o : Oper} {t : TypeId} {d : Tmp} (h : allocs o = some (t, d)) : o.guard = none ∧ o.op = .alloc t ∧ o.dst = some d := by
  unfold allocs at h
  split at h
  · cases h; rename_i a b c; exact ⟨a, b, c⟩
  · cases h
theorem astep_alloc {o : Oper} {t : TypeId} {d : Tmp} (h : allocs o = some (t, d)) (s : St) : astep P call ops ro o s = (zsT P t).map fun zs => ⟨s.tm.set d (.ptr s.nx 0, false), s.nx + 1, (s.nx, .cells zs) :: s.hp⟩ := by
  obtain ⟨h1, h2, h3⟩ := allocs_spec h
  unfold astep awanted
  rw [h1]
  simp only
  unfold aeff
  rw [h2]
  simp only
  unfold aeff0
  rw [h2]
  simp only
  unfold zsT
  cases (P.info? t).bind (·.zero) with
  | none => rfl
  | some z =>
    simp only
    split
    · rw [h3]; rfl
    · rfl
theorem tame_eff {mu : List TypeId} {o : Oper} (h : tame mu ops o = true) (pure : FuncId → Bool) : effectful mu pure ops o = false := by
  unfold tame at h
  rw [Bool.and_eq_true] at h
  have h2 := h.2
  unfold effectful
  split at h2
  · rename_i e; rw [e]
  · rename_i e; rw [e]
    simp only [Bool.not_eq_true'] at h2
    simp only [h2, Bool.false_and]
  · rename_i e; rw [e]
  · rename_i e; rw [e]
  · rename_i e; rw [e]
  · rename_i e; rw [e]
    split at h2
    · rename_i e2
      simp only [e2]
      simpa using h2
    · cases h2
  · cases h2
theorem ev_ids {n : Nat} {tm : List Cell} {hp : Heap} (h : WF n tm hp) (t : Tmp) : (ev tm (.tmp t)).1.idsLt n = true := by
  show ((tm[t]?).getD (.bad, false)).1.idsLt n = true
  cases ht : tm[t]? with
  | none => simp [AVal.idsLt]
  | some c => exact h.1 t c ht
theorem aload_ids {n : Nat} {tm : List Cell} {hp : Heap} (h : WF n tm hp) {d : Option Tmp} {t : TypeId} {a : AVal} (ha : a.idsLt n = true) {nx : Nat} {q : Out} (hq : aload P ops ro d t a nx hp = some q) : q.v.idsLt n = true := by
  unfold aload at hq
  split at hq
  · split at hq
    · rename_i cs hg
      have hc := (h.2 _ _ hg).2
      split at hq
      · split at hq
        · cases hq
          show AVal.idsLt n (.agg _) = true
          simp only [AVal.idsLt]
          refine idsLts_all.2 fun v hv => ?_
          obtain ⟨c, hc', rfl⟩ := List.mem_map.1 hv
          exact hc c (List.mem_of_mem_drop (List.mem_of_mem_take hc'))
        · cases hq
      · split at hq
        · rename_i v hv
          have hi : v.idsLt n = true := hc (v, true) (List.mem_of_getElem? hv)
          repeat' split at hq
          all_goals (cases hq; exact hi)
        · rename_i v hv
          cases hq
          exact hc (v, false) (List.mem_of_getElem? hv)
        · cases hq
      · cases hq
    · cases hq
  · rename_i e off
    obtain ⟨v, hv, rfl⟩ := Option.map_eq_some_iff.1 hq
    simp only [AVal.idsLt] at ha
    show v.idsLt n = true
    unfold pick at hv
    split at hv
    · split at hv
      · cases hv
        simp only [AVal.idsLt]
        exact idsLts_all.2 fun v hv => ids_flat ha v (List.mem_of_mem_drop (List.mem_of_mem_take hv))
      · cases hv
    · exact ids_flat ha v (List.mem_of_getElem? hv)
    · cases hv
  · cases hq
theorem aint_ids {op : BinOp} {k : IntKind} {x y : Int} {v : AVal} (h : aint op k x y = some v) (n : Nat) : v.idsLt n = true := by
  unfold aint at h
  split at h <;> (try split at h) <;> cases h <;> simp [AVal.idsLt]
theorem astr_ids {op : BinOp} {x y : ByteArray} {v : AVal} (h : astr op x y = some v) (n : Nat) : v.idsLt n = true := by
  unfold astr at h
  split at h <;> (try split at h) <;> cases h <;> simp [AVal.idsLt]
theorem abinT_ids {t : TypeId} {op : BinOp} {x y v : AVal} (h : abinT P t op x y = some v) (n : Nat) : v.idsLt n = true := by
  unfold abinT at h
  split at h
  · simp only [abin] at h
    split at h
    · exact aint_ids h n
    · cases h
  · exact astr_ids h n
  · split at h
    · obtain ⟨b, _, rfl⟩ := Option.map_eq_some_iff.1 h; simp [AVal.idsLt]
    · obtain ⟨b, _, rfl⟩ := Option.map_eq_some_iff.1 h; simp [AVal.idsLt]
    · cases h
theorem ashift_ids {n o : Nat} {a v : AVal} (ha : a.idsLt n = true) (h : ashift o a = some v) : v.idsLt n = true := by
  unfold ashift at h
  split at h
  · cases h; simpa [AVal.idsLt] using ha
  · cases h; simpa [AVal.idsLt] using ha
  · cases h
theorem amove_ids {take : Bool} {x : Operand} {c : Cell} {nx : Nat} {hp : Heap} {q : Out} {n : Nat} (hc : c.1.idsLt n = true) (h : amove take x c nx hp = some q) : q.v.idsLt n = true := by
  obtain ⟨v, b⟩ := c
  cases x <;> cases b <;> simp only [amove] at h <;> (try split at h) <;> cases h <;> exact hc
theorem tame_ids {mu : List TypeId} {o : Oper} (h : tame mu ops o = true) {tm : List Cell} {nx : Nat} {hp : Heap} {n : Nat} {q : Out} (hwf : WF n tm hp) (hq : aeff P call ops ro o (ev tm) nx hp = some q) : q.v.idsLt n = true := by
  unfold tame at h
  rw [Bool.and_eq_true] at h
  have h2 := h.2
  unfold aeff at hq
  split at h2
  · rename_i t e
    rw [e] at hq
    simp only at hq
    unfold aeff0 at hq
    rw [e] at hq
    simp only at hq
    exact amove_ids (ev_ids hwf t) hq
  · rename_i ty t e
    rw [e] at hq
    simp only at hq
    unfold aeff0 at hq
    rw [e] at hq
    exact aload_ids hwf (ev_ids hwf t) hq
  · rename_i ty t f e
    rw [e] at hq
    simp only at hq
    unfold aeff0 at hq
    rw [e] at hq
    obtain ⟨v, hv, rfl⟩ := Option.map_eq_some_iff.1 hq
    show v.idsLt n = true
    unfold afield at hv
    repeat' split at hv
    all_goals first | (cases hv; done) | exact ashift_ids (ev_ids hwf t) hv
  · rename_i ty t f e
    rw [e] at hq
    simp only at hq
    unfold aeff0 at hq
    rw [e] at hq
    obtain ⟨v, hv, rfl⟩ := Option.map_eq_some_iff.1 hq
    show v.idsLt n = true
    have ht := ev_ids hwf t
    unfold aindexa at hv
    split at hv
    · rename_i xs _ _ hx _
      rw [hx] at ht
      simp only [AVal.idsLt] at ht
      repeat' split at hv
      all_goals first | (cases hv; done) | skip
      rename_i el hel _
      cases hv
      simp only [AVal.idsLt]
      exact idsLts_all.1 ht _ (List.mem_of_getElem? (by assumption))
    · rename_i hx _
      rw [hx] at ht
      repeat' split at hv
      all_goals first | (cases hv; done) | skip
      cases hv
      simpa [AVal.idsLt] using ht
    · cases hv
  · rename_i e
    rw [e] at hq
    simp only at hq
    unfold aeff0 at hq
    rw [e] at hq
    obtain ⟨v, hv, rfl⟩ := Option.map_eq_some_iff.1 hq
    exact abinT_ids hv n
  · rename_i c e
    rw [e] at hq
    simp only at hq
    split at h2
    · rename_i e2
      unfold acall at hq
      rw [e2] at hq
      simp only at hq
      unfold abuiltin at hq
      split at hq
      · split at hq
        · obtain ⟨v, hv, rfl⟩ := Option.map_eq_some_iff.1 hq
          show v.idsLt n = true
          unfold alen at hv
          repeat' split at hv
          all_goals first | (cases hv; done) | (cases hv; simp [AVal.idsLt])
        · cases hq
      · rename_i hh _; cases hh
      · rename_i hh _; cases hh
      · rename_i hh _; cases hh
      · cases hq
    · cases h2
  · cases h2
theorem tame_wf (hk : Kds kd call) {mu : List TypeId} {o : Oper} (h : tame mu ops o = true) (he : ∀ pure, effectful ro.mu pure ops o = false) {s s1 : St} {n : Nat} (hwf : WF n s.tm s.hp) (h1 : astep P call ops ro o s = some s1) : s1.nx = s.nx ∧ s1.hp = s.hp ∧ WF n s1.tm s1.hp := by
  obtain ⟨e1, e2⟩ := astep_still hk (he _) h1
  refine ⟨e1, e2, fun t c hc => ?_, by rw [e2]; exact hwf.2⟩
  have hg : o.guard = none := by
    unfold tame at h
    rw [Bool.and_eq_true] at h
    simpa using h.1
  unfold astep awanted at h1
  rw [hg] at h1
  simp only at h1
  obtain ⟨q, hq, rfl⟩ := Option.map_eq_some_iff.1 h1
  have hv := tame_ids h hwf hq
  rw [put_get] at hc
  split at hc
  · obtain ⟨_, _, rfl⟩ := Option.map_eq_some_iff.1 hc
    exact hv
  · split at hc
    · obtain ⟨c', hc', rfl⟩ := Option.map_eq_some_iff.1 hc
      exact hwf.1 t c' hc'
    · exact hwf.1 t c hc
theorem foot_lt {mu : List TypeId} {o : Oper} (h : tame mu ops o = true) {n : Nat} {s : St} (hwf : WF n s.tm s.hp) {id : Nat} (hf : footAt o s = some id) : id < n := by
  unfold tame at h
  rw [Bool.and_eq_true] at h
  have h2 := h.2
  unfold footAt at hf
  split at h2
  all_goals (try (rename_i e; rw [e] at hf; cases hf; done))
  · rename_i ty t e
    rw [e] at hf
    simp only at hf
    have := ev_ids hwf t
    generalize (ev s.tm (.tmp t)).1 = v at hf this
    unfold footOf at hf
    split at hf
    · cases hf; simpa [AVal.idsLt] using this
    · cases hf; simpa [AVal.idsLt] using this
    · cases hf
  · cases h2
/-- A tame operation and a new variable. -/
theorem tame_alloc (hk : Kds kd call) {o b : Oper} {t : TypeId} {d : Tmp} (ho : tame ro.mu ops o = true) (hb : allocs b = some (t, d)) (ha : apartD (some d) (o.dst.toList ++ namesOf ops o) = true) {s s1 sB : St} (hwf : WF s.nx s.tm s.hp) (h1 : astep P call ops ro o s = some s1) (h2 : astep P call ops ro b s = some sB) :
    ∃ s1B, astep P call ops ro b s1 = some s1B ∧ astep P call ops ro o sB = some s1B := by
  obtain ⟨b1, b2, b3⟩ := allocs_spec hb
  rw [astep_alloc hb] at h2
  obtain ⟨zs, hz, rfl⟩ := Option.map_eq_some_iff.1 h2
  obtain ⟨e1, e2, _⟩ := tame_wf hk ho (tame_eff ho) hwf h1
  have h3 : astep P call ops ro b s1 = some ⟨s1.tm.set d (.ptr s1.nx 0, false), s1.nx + 1, (s1.nx, .cells zs) :: s1.hp⟩ := by rw [astep_alloc hb, hz]; rfl
  refine ⟨_, h3, ?_⟩
  have hnb : namesOf ops b = [] := by
    unfold namesOf
    rw [b1, b2]
    rfl
  have hsl : slotsOk ops o b = true := by
    unfold slotsOk
    rw [b3, hnb]
    have hsb : srcOf ops b = none := by unfold srcOf; rw [b2]
    rw [hsb]
    simp only [Bool.and_eq_true]
    refine ⟨⟨?_, ha⟩, ?_⟩
    · have := apartD_spec ha d rfl
      cases hd : o.dst with
      | none => rfl
      | some x =>
        rw [hd] at this
        have hne : x ≠ d := fun e => this (by simp [e])
        simp [apartD, hne]
    · cases srcOf ops o <;> rfl
  have hm : May kd ro ops o b s s1 ⟨s1.tm.set d (.ptr s1.nx 0, false), s1.nx + 1, (s1.nx, .cells zs) :: s1.hp⟩ := by
    have hef := tame_eff ho (ops := ops) kd.pure
    cases hr : rdr ro.mu ops o with
    | true =>
      refine .inr (.inl ⟨hr, fun id hid => ?_⟩)
      have := foot_lt ho hwf hid
      show hget s1.hp id = hget ((s1.nx, _) :: s1.hp) id
      simp only [hget]
      rw [if_neg (by omega)]
    | false =>
      left
      have hh : heapy kd.vl ro.mu o = false := by
        unfold tame at ho
        rw [Bool.and_eq_true] at ho
        have h2 := ho.2
        unfold rdr at hr
        unfold heapy
        split at h2
        · rename_i e; rw [e]
        · rename_i e
          rw [e] at hr
          simp only [Bool.not_eq_true'] at h2
          simp only [h2, Bool.false_and, Bool.not_false] at hr
          cases hr
        · rename_i e; rw [e]
        · rename_i e; rw [e]
        · rename_i e; rw [e]
        · rename_i e; rw [e]
          split at h2
          · rename_i e2
            simp only [e2]
            simpa using h2
          · cases h2
        · cases h2
      rw [hef, hh]; rfl
  obtain ⟨s1', g1, g2, _, _⟩ := M.swap hk hsl h1 h3 hm
  rw [astep_alloc hb, hz] at g1
  cases g1
  exact g2
section pair
variable {m : Region.Mode} {i0 : Nat} {oA oB : Oper} {t : TypeId} {a b : Tmp}
/-- What the region of two new variables side by side is like. -/
structure Pair (ops : Array Oper) (mu : List TypeId) (i0 : Nat) (oA oB : Oper) (t : TypeId) (a b : Tmp) : Prop where
  iA : ops[i0]? = some oA
  iB : ops[i0 + 1]? = some oB
  aA : allocs oA = some (t, a)
  aB : allocs oB = some (t, b)
  ne : a ≠ b
  early : ∀ (e : Nat) (o : Oper), e < i0 → ops[e]? = some o → tame mu ops o = true ∧ apartD (some a) (o.dst.toList ++ namesOf ops o) = true ∧ apartD (some b) (o.dst.toList ++ namesOf ops o) = true
  late : ∀ (e : Nat), e < ops.size → i0 + 1 < e → ((Region.before ops).getD e 0).testBit i0 = true
theorem mem_restOf (listed : Array Bool) (k : Nat) : k ∈ restOf ops listed ↔ k < ops.size ∧ listed.getD k true = false := by
  unfold restOf
  rw [List.mem_filter, List.mem_range]
  simp
theorem rest_listed {listed : Array Bool} (hsz : listed.size = ops.size) {k : Nat} (h : k ∈ restOf ops listed) : listed.getD k false = false := by
  obtain ⟨h1, h2⟩ := (mem_restOf listed k).1 h
  have : k < listed.size := by omega
  simp [Array.getD_eq_getD_getElem?, this] at h2 ⊢
  exact h2
theorem closed_set {listed : Array Bool} (hc : Closed ops listed) {i : Nat} {o : Oper} (ho : ops[i]? = some o) (haf' : ∀ e ∈ o.after, Region.binds .any e = true → listed.getD e.on false = true) : Closed ops (listed.setIfInBounds i true) := by
  intro j o' hj hjl e he hb
  by_cases hij : i = j
  · subst hij
    rw [ho] at hj; cases hj
    exact getD_set_true (haf' e he hb)
  · rw [getD_set_ne false hij] at hjl
    exact getD_set_true (hc j o' hj hjl e he hb)
theorem go_two (hk : Kds kd call) (hp : Pair ops ro.mu i0 oA oB t a b) (hlt : ∀ (j : Nat) (o : Oper), ops[j]? = some o → ∀ e ∈ o.after, Region.binds .any e = true → e.on < j)
    (hin : ∀ (i j : Nat) (a b : Oper), i < j → ops[i]? = some a → ops[j]? = some b → ((Region.before ops).getD j 0).testBit i = true ∨ (indep kd ro.mu ops a b = true ∨ (Qp i j ∧ dynp kd ro.mu ops a b = true)) ∨ (i = i0 ∧ j = i0 + 1))
    (hbind : ∀ e : Edge, Region.binds .any e = true → Region.binds m e = true)
    (hprog : ∀ listed : Array Bool, listed.size = ops.size → restOf ops listed ≠ [] → Region.ready m ops listed ≠ [])
    (hfree : ∀ e, e ≤ i0 → ((Region.before ops).getD i0 0).testBit e = false ∧ ((Region.before ops).getD (i0 + 1) 0).testBit e = false) :
    ∀ (fuel t' : Nat) (listed : Array Bool) (s sB s' : St) (x l2 : List Nat), listed.size = ops.size → (restOf ops listed).length ≤ fuel → Closed ops listed → listed.getD i0 false = false → WF s.nx s.tm s.hp →
      restOf ops listed = x ++ i0 :: l2 → (∀ e ∈ l2, i0 + 1 < e) → Inv P call ops ro φ Qp (x ++ i0 :: (i0 + 1) :: l2) s s' → astep P call ops ro oB s = some sB →
      ∃ os : List Oper, (Region.linearise.go m ops fuel t' listed []).map (fun i => ops[i]?) = os.map some ∧ DRun P call ops ro s.nx os sB s' := by
  have free : ∀ e, e < i0 → ∀ o, ops[e]? = some o → (indep kd ro.mu ops o oA = true ∨ (Qp e i0 ∧ dynp kd ro.mu ops o oA = true)) ∧ (indep kd ro.mu ops o oB = true ∨ (Qp e (i0 + 1) ∧ dynp kd ro.mu ops o oB = true)) := by
    intro e he o ho
    refine ⟨?_, ?_⟩
    · rcases hin e i0 o oA he ho hp.iA with h | h | h
      · rw [(hfree e (by omega)).1] at h; cases h
      · exact h
      · omega
    · rcases hin e (i0 + 1) o oB (by omega) ho hp.iB with h | h | h
      · rw [(hfree e (by omega)).2] at h; cases h
      · exact h
      · omega
  intro fuel
  induction fuel with
  | zero =>
    intro t' listed s sB s' x l2 hsz hf _ _ _ hr
    rw [hr] at hf
    simp at hf
  | succ fuel ih =>
    intro t' listed s sB s' x l2 hsz hf hc hi0 hwf hr hl2 h hB
    simp only [Region.linearise.go]
    change ∃ os : List Oper, (match (Region.ready m ops listed)[t' % (Region.ready m ops listed).length]? with
      | some i => Region.linearise.go m ops fuel (t' / (Region.ready m ops listed).length) (listed.setIfInBounds i true) [i]
      | none => [].reverse).map (fun i => ops[i]?) = os.map some ∧ DRun P call ops ro s.nx os sB s'
    have hne : Region.ready m ops listed ≠ [] := hprog listed hsz (by rw [hr]; simp)
    cases hi : (Region.ready m ops listed)[t' % (Region.ready m ops listed).length]? with
    | none =>
      exfalso
      have hpos : 0 < (Region.ready m ops listed).length := List.length_pos_iff.2 hne
      have := Nat.mod_lt t' hpos
      rw [List.getElem?_eq_getElem this] at hi
      cases hi
    | some i =>
      simp only []
      have hri := List.mem_of_getElem? hi
      rw [mem_ready] at hri
      obtain ⟨hli, o, ho, haf⟩ := hri
      have hio : i < ops.size := (Array.getElem?_eq_some_iff.1 ho).1
      have hmem : i ∈ restOf ops listed := (mem_restOf listed i).2 ⟨hio, hli⟩
      have haf' : ∀ e ∈ o.after, Region.binds .any e = true → listed.getD e.on false = true := fun e he hb => haf e he (hbind e hb)
      have hb := before_listed hc hlt i o ho haf'
      have hc' := closed_set hc ho haf'
      have hxlt : ∀ e ∈ x, e < i0 := (rest_set hr).2
      have fin : ∀ (os : List Oper) (sN : St), astep P call ops ro o sB = some sN → (Region.linearise.go m ops fuel (t' / (Region.ready m ops listed).length) (listed.setIfInBounds i true) []).map (fun i => ops[i]?) = os.map some → DRun P call ops ro s.nx os sN s' →
          ∃ os : List Oper, (Region.linearise.go m ops fuel (t' / (Region.ready m ops listed).length) (listed.setIfInBounds i true) [i]).map (fun i => ops[i]?) = os.map some ∧ DRun P call ops ro s.nx os sB s' := by
        intro os sN g1 g2 g3
        refine ⟨o :: os, ?_, .op g1 g3⟩
        rw [linearise_go_acc, List.reverse_singleton, List.singleton_append, List.map_cons, g2, ho]
        rfl
      have hlen : (restOf ops (listed.setIfInBounds i true)).length ≤ fuel := by
        obtain ⟨l1, l3, hsp⟩ := List.append_of_mem hmem
        rw [(rest_set hsp).1]
        rw [hsp] at hf
        simp at hf ⊢
        omega
      rw [hr] at hmem
      rcases List.mem_append.1 hmem with hix | hix
      · -- an early one
        obtain ⟨x1, x2, rfl⟩ := List.append_of_mem hix
        have hi0' := hxlt i (by simp)
        rw [List.append_assoc, List.cons_append] at h hr
        have h2 := Inv.bubble hk x1 _ (fun k hk' oa ob hka hob => by
          rw [ho] at hob; cases hob
          have hki : k < i := (rest_set hr).2 k hk'
          rcases hin k i oa o hki hka ho with hh | hh | hh
          · have := hb k hh
            rw [rest_listed hsz (by rw [hr]; simp [hk'])] at this
            cases this
          · exact hh
          · omega) h
        obtain ⟨o', s1, ho', h3, _, _, h4⟩ := h2
        rw [ho] at ho'; cases ho'
        obtain ⟨q1, q2, q3⟩ := hp.early i o hi0' ho
        obtain ⟨s1B, g1, g2⟩ := tame_alloc hk q1 hp.aB q3 hwf h3 hB
        obtain ⟨w1, w2, w3⟩ := tame_wf hk q1 (tame_eff q1) hwf h3
        obtain ⟨os, ho1, ho2⟩ := ih (t' / (Region.ready m ops listed).length) (listed.setIfInBounds i true) s1 s1B s' (x1 ++ x2) l2 (by simpa using hsz) hlen hc' (by rw [getD_set_ne false (by omega)]; exact hi0) (by rw [w1]; exact w3) (by rw [(rest_set hr).1, List.append_assoc]) hl2 (by rw [List.append_assoc]; exact h4) g1
        rw [w1] at ho2
        exact fin os s1B g2 ho1 ho2
      · rcases List.mem_cons.1 hix with rfl | hix
        · -- the first of the two
          rw [hp.iA] at ho; cases ho
          have h2 := Inv.bubble hk x _ (fun k hk' oa ob hka hob => by
            rw [hp.iA] at hob; cases hob
            exact (free k (hxlt k hk') oa hka).1) h
          obtain ⟨o', sA, ho', h3, _, _, h4⟩ := h2
          rw [hp.iA] at ho'; cases ho'
          have h5 := Inv.bubble hk x _ (fun k hk' oa ob hka hob => by
            rw [hp.iB] at hob; cases hob
            exact (free k (hxlt k hk') oa hka).2) h4
          obtain ⟨o', sAB, ho', h6, _, _, h7⟩ := h5
          rw [hp.iB] at ho'; cases ho'
          rw [astep_alloc hp.aA] at h3
          obtain ⟨zs, hz, rfl⟩ := Option.map_eq_some_iff.1 h3
          rw [astep_alloc hp.aB, hz] at h6 hB
          cases h6
          cases hB
          obtain ⟨os, ho1, ho2⟩ := go_any (P := P) (X := fun a b => a = i ∧ b = i + 1) hk s.nx hlt hin hbind hprog fuel (t' / (Region.ready m ops listed).length) (listed.setIfInBounds i true) _ s' (by simpa using hsz) hlen hc' (fun p q hpq => by
            rw [hpq.1]
            have : i < listed.size := by omega
            simp [Array.getD_eq_getD_getElem?, this]) (by rw [(rest_set hr).1]; exact h7)
          refine fin os ⟨(s.tm.set b (.ptr s.nx 0, false)).set a (.ptr (s.nx + 1) 0, false), s.nx + 2, (s.nx + 1, .cells zs) :: (s.nx, .cells zs) :: s.hp⟩ (by rw [astep_alloc hp.aA, hz]; rfl) ho1 (.sw (Nat.le_refl _) ⟨a, b, zs, s.tm, s.hp, hp.ne, hwf, zsT_ids hz _, rfl, rfl⟩ ho2)
        · -- a late one
          exfalso
          have := hb i0 (hp.late i hio (hl2 i hix))
          rw [hi0] at this
          cases this
theorem go_pair (hk : Kds kd call) (hp : Pair ops ro.mu i0 oA oB t a b) (hlt : ∀ (j : Nat) (o : Oper), ops[j]? = some o → ∀ e ∈ o.after, Region.binds .any e = true → e.on < j)
    (hin : ∀ (i j : Nat) (a b : Oper), i < j → ops[i]? = some a → ops[j]? = some b → ((Region.before ops).getD j 0).testBit i = true ∨ (indep kd ro.mu ops a b = true ∨ (Qp i j ∧ dynp kd ro.mu ops a b = true)) ∨ (i = i0 ∧ j = i0 + 1))
    (hbind : ∀ e : Edge, Region.binds .any e = true → Region.binds m e = true)
    (hprog : ∀ listed : Array Bool, listed.size = ops.size → restOf ops listed ≠ [] → Region.ready m ops listed ≠ [])
    (hfree : ∀ e, e ≤ i0 → ((Region.before ops).getD i0 0).testBit e = false ∧ ((Region.before ops).getD (i0 + 1) 0).testBit e = false) :
    ∀ (fuel t' : Nat) (listed : Array Bool) (s s' : St) (x l2 : List Nat), listed.size = ops.size → (restOf ops listed).length ≤ fuel → Closed ops listed → listed.getD i0 false = false → WF s.nx s.tm s.hp →
      restOf ops listed = x ++ i0 :: (i0 + 1) :: l2 → (∀ e ∈ l2, i0 + 1 < e) → Inv P call ops ro φ Qp (x ++ i0 :: (i0 + 1) :: l2) s s' →
      ∃ os : List Oper, (Region.linearise.go m ops fuel t' listed []).map (fun i => ops[i]?) = os.map some ∧ DRun P call ops ro s.nx os s s' := by
  have free : ∀ e, e < i0 → ∀ o, ops[e]? = some o → (indep kd ro.mu ops o oA = true ∨ (Qp e i0 ∧ dynp kd ro.mu ops o oA = true)) := by
    intro e he o ho
    rcases hin e i0 o oA he ho hp.iA with h | h | h
    · rw [(hfree e (by omega)).1] at h; cases h
    · exact h
    · omega
  intro fuel
  induction fuel with
  | zero =>
    intro t' listed s s' x l2 hsz hf _ _ _ hr
    rw [hr] at hf
    simp at hf
  | succ fuel ih =>
    intro t' listed s s' x l2 hsz hf hc hi0 hwf hr hl2 h
    simp only [Region.linearise.go]
    change ∃ os : List Oper, (match (Region.ready m ops listed)[t' % (Region.ready m ops listed).length]? with
      | some i => Region.linearise.go m ops fuel (t' / (Region.ready m ops listed).length) (listed.setIfInBounds i true) [i]
      | none => [].reverse).map (fun i => ops[i]?) = os.map some ∧ DRun P call ops ro s.nx os s s'
    have hne : Region.ready m ops listed ≠ [] := hprog listed hsz (by rw [hr]; simp)
    cases hi : (Region.ready m ops listed)[t' % (Region.ready m ops listed).length]? with
    | none =>
      exfalso
      have hpos : 0 < (Region.ready m ops listed).length := List.length_pos_iff.2 hne
      have := Nat.mod_lt t' hpos
      rw [List.getElem?_eq_getElem this] at hi
      cases hi
    | some i =>
      simp only []
      have hri := List.mem_of_getElem? hi
      rw [mem_ready] at hri
      obtain ⟨hli, o, ho, haf⟩ := hri
      have hio : i < ops.size := (Array.getElem?_eq_some_iff.1 ho).1
      have hmem : i ∈ restOf ops listed := (mem_restOf listed i).2 ⟨hio, hli⟩
      have haf' : ∀ e ∈ o.after, Region.binds .any e = true → listed.getD e.on false = true := fun e he hb => haf e he (hbind e hb)
      have hb := before_listed hc hlt i o ho haf'
      have hc' := closed_set hc ho haf'
      have hxlt : ∀ e ∈ x, e < i0 := (rest_set hr).2
      have fin : ∀ (os : List Oper) (sN : St), astep P call ops ro o s = some sN → (Region.linearise.go m ops fuel (t' / (Region.ready m ops listed).length) (listed.setIfInBounds i true) []).map (fun i => ops[i]?) = os.map some → DRun P call ops ro s.nx os sN s' →
          ∃ os : List Oper, (Region.linearise.go m ops fuel (t' / (Region.ready m ops listed).length) (listed.setIfInBounds i true) [i]).map (fun i => ops[i]?) = os.map some ∧ DRun P call ops ro s.nx os s s' := by
        intro os sN g1 g2 g3
        refine ⟨o :: os, ?_, .op g1 g3⟩
        rw [linearise_go_acc, List.reverse_singleton, List.singleton_append, List.map_cons, g2, ho]
        rfl
      have hlen : (restOf ops (listed.setIfInBounds i true)).length ≤ fuel := by
        obtain ⟨l1, l3, hsp⟩ := List.append_of_mem hmem
        rw [(rest_set hsp).1]
        rw [hsp] at hf
        simp at hf ⊢
        omega
      rw [hr] at hmem
      rcases List.mem_append.1 hmem with hix | hix
      · obtain ⟨x1, x2, rfl⟩ := List.append_of_mem hix
        have hi0' := hxlt i (by simp)
        rw [List.append_assoc, List.cons_append] at h hr
        have h2 := Inv.bubble hk x1 _ (fun k hk' oa ob hka hob => by
          rw [ho] at hob; cases hob
          have hki : k < i := (rest_set hr).2 k hk'
          rcases hin k i oa o hki hka ho with hh | hh | hh
          · have := hb k hh
            rw [rest_listed hsz (by rw [hr]; simp [hk'])] at this
            cases this
          · exact hh
          · omega) h
        obtain ⟨o', s1, ho', h3, _, _, h4⟩ := h2
        rw [ho] at ho'; cases ho'
        obtain ⟨q1, q2, q3⟩ := hp.early i o hi0' ho
        obtain ⟨w1, w2, w3⟩ := tame_wf hk q1 (tame_eff q1) hwf h3
        obtain ⟨os, ho1, ho2⟩ := ih (t' / (Region.ready m ops listed).length) (listed.setIfInBounds i true) s1 s' (x1 ++ x2) l2 (by simpa using hsz) hlen hc' (by rw [getD_set_ne false (by omega)]; exact hi0) (by rw [w1]; exact w3) (by rw [(rest_set hr).1, List.append_assoc]) hl2 (by rw [List.append_assoc]; exact h4)
        rw [w1] at ho2
        exact fin os s1 h3 ho1 ho2
      · have h2 := Inv.bubble hk x _ (fun k hk' oa ob hka hob => by
          rw [hp.iA] at hob; cases hob
          exact free k (hxlt k hk') oa hka) h
        rcases List.mem_cons.1 hix with rfl | hix
        · rw [hp.iA] at ho; cases ho
          obtain ⟨o', sA, ho', h3, _, _, h4⟩ := h2
          rw [hp.iA] at ho'; cases ho'
          obtain ⟨os, ho1, ho2⟩ := go_any (P := P) (X := fun a b => a = i ∧ b = i + 1) hk s.nx hlt hin hbind hprog fuel (t' / (Region.ready m ops listed).length) (listed.setIfInBounds i true) _ s' (by simpa using hsz) hlen hc' (fun p q hpq => by
            rw [hpq.1]
            have : i < listed.size := by omega
            simp [Array.getD_eq_getD_getElem?, this]) (by rw [(rest_set hr).1]; exact h4)
          exact fin os sA h3 ho1 ho2
        · rcases List.mem_cons.1 hix with rfl | hix
          · rw [hp.iB] at ho; cases ho
            obtain ⟨o', sA, ho', h3, _, _, h4⟩ := h2
            rw [hp.iA] at ho'; cases ho'
            rw [astep_alloc hp.aA] at h3
            obtain ⟨zs, hz, _⟩ := Option.map_eq_some_iff.1 h3
            have hB : astep P call ops ro oB s = some ⟨s.tm.set b (.ptr s.nx 0, false), s.nx + 1, (s.nx, .cells zs) :: s.hp⟩ := by rw [astep_alloc hp.aB, hz]; rfl
            have hr2 : restOf ops listed = (x ++ [i0]) ++ (i0 + 1) :: l2 := by rw [hr]; simp
            obtain ⟨os, ho1, ho2⟩ := go_two (P := P) (φ := φ) (Qp := Qp) hk hp hlt hin hbind hprog hfree fuel (t' / (Region.ready m ops listed).length) (listed.setIfInBounds (i0 + 1) true) s _ s' x l2 (by simpa using hsz) hlen hc' (by rw [getD_set_ne false (by omega)]; exact hi0) hwf (by rw [(rest_set hr2).1]; simp) hl2 h hB
            exact fin os _ hB ho1 ho2
          · exfalso
            have := hb i0 (hp.late i hio (hl2 i hix))
            rw [hi0] at this
            cases this
end pair
theorem qRaw_get {b : Array Nat} {j : Nat} {q : List Nat} (h : (qRaw kd ro.mu ops b)[j]? = some q) : ∃ o, ops[j]? = some o ∧ ∀ i, i ∈ q ↔ i < j ∧ ∃ a, ops[i]? = some a ∧ (b.getD j 0).testBit i = false ∧ indep kd ro.mu ops a o = false ∧ ¬ (swapAt ro.mu ops b = some i ∧ j = i + 1) := by
  unfold qRaw at h
  rw [List.getElem?_map] at h
  obtain ⟨⟨o, n⟩, hp, rfl⟩ := Option.map_eq_some_iff.1 h
  rw [List.getElem?_zipIdx] at hp
  obtain ⟨o', ho, e⟩ := Option.map_eq_some_iff.1 hp
  cases e
  refine ⟨_, by simpa using ho, fun i => ?_⟩
  simp only [Nat.zero_add]
  rw [List.mem_filter, List.mem_range]
  constructor
  · rintro ⟨h1, h2⟩
    cases ha : ops[i]? with
    | none => rw [ha] at h2; cases h2
    | some a =>
      rw [ha] at h2
      simp only [Bool.and_eq_true, Bool.not_eq_true'] at h2
      exact ⟨h1, a, rfl, h2.1.1, h2.1.2, fun hc => by have := h2.2; simp [hc.1, hc.2] at this⟩
  · rintro ⟨h1, a, ha, h2, h3, h4⟩
    have : (swapAt ro.mu ops b == some i && j == i + 1) = false := by
      cases hq : (swapAt ro.mu ops b == some i && j == i + 1) with
      | false => rfl
      | true => exact absurd (by simpa using hq) h4
    exact ⟨h1, by rw [ha]; simp only [h2, h3, this]; rfl⟩
/-- The pairs of a list. -/
def PairIn (l : List (List Nat)) (i j : Nat) : Prop := ∃ q, l[j]? = some q ∧ i ∈ q
theorem qMark_get {l : List (List Nat)} {j : Nat} {m : List Nat} (h : (qMark l)[j]? = some m) : ∃ q, l[j]? = some q ∧ (∀ i, i ∈ q → i ∈ m) ∧ ((∃ k, PairIn l j k) → m.contains j = true) := by
  unfold qMark at h
  rw [List.getElem?_map] at h
  obtain ⟨⟨q, n⟩, hp, rfl⟩ := Option.map_eq_some_iff.1 h
  rw [List.getElem?_zipIdx] at hp
  obtain ⟨q', hq, e⟩ := Option.map_eq_some_iff.1 hp
  cases e
  simp only [Nat.zero_add]
  refine ⟨_, hq, fun i hi => ?_, fun ⟨k, q2, h2, hj⟩ => ?_⟩
  · split
    · exact .tail _ hi
    · exact hi
  · have : (l.any fun x => x.contains j) = true := List.any_eq_true.2 ⟨q2, List.mem_of_getElem? h2, by simpa using hj⟩
    rw [if_pos this]
    simp
theorem lookup_cons {α : Type} (j i : Nat) (a : α) (l : List (Nat × α)) : List.lookup i ((j, a) :: l) = if i = j then some a else List.lookup i l := by
  rw [List.lookup_cons]
  by_cases h : i = j
  · subst h; simp
  · rw [if_neg h, show (i == j) = false by simpa using h]
theorem inv_of (hk : Kds kd call) {raw : List (List Nat)} (hraw : ∀ i j, PairIn raw i j → i < j) : ∀ (l : List (Oper × List Nat)) (j : Nat) (tr : List (Nat × Heap × Heap)) (fs : List (Nat × Option Nat)) (s s' : St) (φ : Nat → Option Nat), ops.size = j + l.length →
    (∀ (k : Nat) p, l[k]? = some p → ops[j + k]? = some p.1 ∧ (qMark raw)[j + k]? = some p.2) → (∀ i f, fs.lookup i = some f → i < j ∧ φ i = f) → (∀ i h, tr.lookup i = some h → i < j) → aopsD P call ops ro j l tr fs s = some s' →
    ∃ φ', (∀ i, i < j → φ' i = φ i) ∧ Inv P call ops ro φ' (PairIn raw) (List.range' j l.length) s s' ∧ ∀ i h, tr.lookup i = some h → ∀ k ok, j ≤ k → ops[k]? = some ok → rdr ro.mu ops ok = true → PairIn raw i k → Stay h.1 h.2 (φ' k) := by
  intro l
  induction l with
  | nil =>
    intro j tr fs s s' φ hsz _ _ _ h
    cases h
    refine ⟨φ, fun _ _ => rfl, rfl, fun i h _ k ok hk hok => ?_⟩
    have := (Array.getElem?_eq_some_iff.1 hok).1
    simp at hsz
    omega
  | cons p l ih =>
    obtain ⟨o, q⟩ := p
    intro j tr fs s s' φ hsz hl hfs htr h
    obtain ⟨ho, hq⟩ := hl 0 _ rfl
    rw [Nat.add_zero] at ho hq
    obtain ⟨qj, hqj, hsub, hmark⟩ := qMark_get hq
    have hl' : ∀ (k : Nat) p, l[k]? = some p → ops[j + 1 + k]? = some p.1 ∧ (qMark raw)[j + 1 + k]? = some p.2 := fun k p hp => by
      have := hl (k + 1) p (by simpa using hp)
      rwa [show j + (k + 1) = j + 1 + k by omega] at this
    have hsz' : ops.size = j + 1 + l.length := by rw [hsz, List.length_cons]; omega
    simp only [aopsD] at h
    cases h1 : astep P call ops ro o s with
    | none => rw [h1] at h; cases h
    | some s1 =>
      rw [h1] at h
      simp only at h
      split at h
      · rename_i hrd
        split at h
        · rename_i hok
          obtain ⟨φ', a1, a2, a3⟩ := ih (j + 1) tr _ s1 s' (fun i => if i = j then footAt o s else φ i) hsz' hl' (fun i f hf => by
            split at hf
            · rw [lookup_cons] at hf
              split at hf
              · rename_i e; cases hf; exact ⟨by omega, if_pos e⟩
              · rename_i e; obtain ⟨q1, q2⟩ := hfs i f hf; exact ⟨by omega, by rw [if_neg e]; exact q2⟩
            · obtain ⟨q1, q2⟩ := hfs i f hf; exact ⟨by omega, by rw [if_neg (by omega)]; exact q2⟩) (fun i h hh => by have := htr i h hh; omega) h
          have aj : φ' j = footAt o s := by rw [a1 j (by omega)]; exact if_pos rfl
          refine ⟨φ', fun i hi => by rw [a1 i (by omega)]; exact if_neg (by omega), ?_, fun i hh hlk k ok hjk hok' hr hp => ?_⟩
          · rw [List.length_cons, List.range'_succ]
            refine ⟨o, s1, ho, h1, fun _ => aj.symm, fun k ok _ _ _ => ?_, a2⟩
            rw [(astep_still hk (rdr_still hrd _) h1).2]
            exact fun id e => rfl
          · by_cases e : k = j
            · subst e
              obtain ⟨q2, hq2, hi⟩ := hp
              rw [hqj] at hq2; cases hq2
              have := List.all_eq_true.1 hok i (hsub i hi)
              simp only [Bool.or_eq_true, beq_iff_eq] at this
              rcases this with e | hst
              · have := hraw i k ⟨qj, hqj, hi⟩; omega
              · rw [hlk] at hst
                rw [aj]
                exact stayB_spec hst
            · exact a3 i hh hlk k ok (by omega) hok' hr hp
        · cases h
      · rename_i hrd
        split at h
        · rename_i hok
          obtain ⟨φ', a1, a2, a3⟩ := ih (j + 1) _ fs s1 s' φ hsz' hl' (fun i f hf => by obtain ⟨q1, q2⟩ := hfs i f hf; exact ⟨by omega, q2⟩) (fun i h hh => by
            split at hh
            · rw [lookup_cons] at hh
              split at hh
              · omega
              · have := htr i h hh; omega
            · have := htr i h hh; omega) h
          refine ⟨φ', fun i hi => a1 i (by omega), ?_, fun i hh hlk k ok hjk hok' hr hp => ?_⟩
          · rw [List.length_cons, List.range'_succ]
            refine ⟨o, s1, ho, h1, fun hr => absurd hr hrd, fun k ok hok' hr hp => ?_, a2⟩
            rcases hp with hp | hp
            · obtain ⟨q2, hq2, hi⟩ := hp
              rw [hqj] at hq2; cases hq2
              have := List.all_eq_true.1 hok k (hsub k hi)
              simp only [Bool.or_eq_true, beq_iff_eq] at this
              have hlt := hraw k j ⟨qj, hqj, hi⟩
              rcases this with e | hst
              · omega
              · cases hf : fs.lookup k with
                | none => rw [hf] at hst; cases hst
                | some f =>
                  rw [hf] at hst
                  obtain ⟨q1, q2⟩ := hfs k f hf
                  rw [a1 k (by omega), q2]
                  exact stayB_spec hst
            · have hm := hmark ⟨k, hp⟩
              have hlt := hraw j k hp
              exact a3 j (s.hp, s1.hp) (by rw [if_pos hm, lookup_cons, if_pos rfl]) k ok (by omega) hok' hr hp
          · by_cases e : k = j
            · subst e
              rw [ho] at hok'; cases hok'
              exact absurd hr hrd
            · refine a3 i hh ?_ k ok (by omega) hok' hr hp
              split
              · rw [lookup_cons, if_neg (by have := htr i hh hlk; omega)]; exact hlk
              · exact hlk
        · cases h
theorem draws (hk : Kds kd call) (hsl : kd.sl = false) : Draws P kd call := by
  intro ops t ro s s' hwf h
  unfold areg qOf at h
  rw [if_pos rfl, if_neg (by rw [hsl]; decide)] at h
  cases hqa : qAll kd ro.mu ops with
  | none => rw [hqa] at h; cases h
  | some q =>
    rw [hqa] at h
    simp only at h
    unfold qAll at hqa
    simp only at hqa
    split at hqa
    rotate_left
    · cases hqa
    rename_i hok
    cases hqa
    simp only [qOk, Bool.and_eq_true] at hok
    obtain ⟨⟨hd, hdep⟩, hdyn⟩ := hok
    have zi : ∀ (j : Nat) (o : Oper), ops[j]? = some o → ops.toList.zipIdx[j]? = some (o, j) := by
      intro j o h
      simp [List.getElem?_zipIdx, h]
    have g0 : ∀ (j : Nat) (o : Oper), ops[j]? = some o → ∀ e ∈ o.after, (Region.binds .any e = true ∨ Region.binds .text e = true) → e.on < j := by
      intro j o ho e he hb
      have := List.all_eq_true.1 hd _ (List.mem_of_getElem? (zi j o ho))
      have := (Array.all_eq_true_iff_forall_mem.1 this) e he
      rw [Bool.or_eq_true, decide_eq_true_eq, Bool.and_eq_true] at this
      rcases this with h1 | ⟨h1, h2⟩
      · exact h1
      · rcases hb with hb | hb
        · rw [hb] at h1; cases h1
        · rw [hb] at h2; cases h2
    have g1 : ∀ (j : Nat) (o : Oper), ops[j]? = some o → ∀ e ∈ o.after, Region.binds .any e = true → e.on < j := fun j o ho e he hb => g0 j o ho e he (.inl hb)
    have hlen : (qRaw kd ro.mu ops (Region.before ops)).length = ops.size := by simp [qRaw]
    have hlenM : (qMark (qRaw kd ro.mu ops (Region.before ops))).length = ops.size := by simp [qMark, hlen]
    have g2 : ∀ (i j : Nat) (a b : Oper), i < j → ops[i]? = some a → ops[j]? = some b → ((Region.before ops).getD j 0).testBit i = true ∨ (indep kd ro.mu ops a b = true ∨ (PairIn (qRaw kd ro.mu ops (Region.before ops)) i j ∧ dynp kd ro.mu ops a b = true)) ∨ (swapAt ro.mu ops (Region.before ops) = some i ∧ j = i + 1) := by
      intro i j a b hij ha hb
      cases h1 : ((Region.before ops).getD j 0).testBit i with
      | true => exact .inl rfl
      | false =>
        cases h2 : indep kd ro.mu ops a b with
        | true => exact .inr (.inl (.inl rfl))
        | false =>
          by_cases hsw : swapAt ro.mu ops (Region.before ops) = some i ∧ j = i + 1
          · exact .inr (.inr hsw)
          have hjl : j < (qRaw kd ro.mu ops (Region.before ops)).length := by rw [hlen]; exact (Array.getElem?_eq_some_iff.1 hb).1
          have hq := List.getElem?_eq_getElem hjl
          obtain ⟨o, ho, hm⟩ := qRaw_get hq
          rw [hb] at ho; cases ho
          have hmem := (hm i).2 ⟨hij, a, ha, h1, h2, hsw⟩
          refine .inr (.inl (.inr ⟨⟨_, hq, hmem⟩, ?_⟩))
          have hz : (ops.toList.zip (qRaw kd ro.mu ops (Region.before ops)))[j]? = some (b, (qRaw kd ro.mu ops (Region.before ops))[j]) := by
            rw [List.getElem?_zip_eq_some]
            exact ⟨by simpa using hb, hq⟩
          have := List.all_eq_true.1 hdyn _ (List.mem_of_getElem? hz)
          have := List.all_eq_true.1 this i hmem
          rw [ha] at this
          exact this
    have hraw : ∀ i j, PairIn (qRaw kd ro.mu ops (Region.before ops)) i j → i < j := by
      rintro i j ⟨q, hq, hi⟩
      obtain ⟨o, _, hm⟩ := qRaw_get hq
      exact ((hm i).1 hi).1
    have hzl : (ops.toList.zip (qMark (qRaw kd ro.mu ops (Region.before ops)))).length = ops.size := by
      rw [List.length_zip, hlenM]; simp
    obtain ⟨φ, _, hinv, _⟩ := inv_of hk hraw _ 0 [] [] s s' (fun _ => none) (by rw [hzl]; omega) (fun k p hp => by
      rw [Nat.zero_add]
      obtain ⟨o, m⟩ := p
      rw [List.getElem?_zip_eq_some] at hp
      exact ⟨by simpa using hp.1, hp.2⟩) (fun i f hf => by cases hf) (fun i f hf => by cases hf) h
    rw [hzl] at hinv
    have hrest : restOf ops (Array.replicate ops.size false) = List.range' 0 ops.size := by
      rw [← List.range_eq_range']
      unfold restOf
      refine List.filter_eq_self.2 fun k hk => ?_
      have := List.mem_range.1 hk
      simp [Array.getD_eq_getD_getElem?, this]
    have fin : ∀ (m : Region.Mode) (t : Nat), (∀ e : Edge, Region.binds .any e = true → Region.binds m e = true) → (∀ listed : Array Bool, listed.size = ops.size → restOf ops listed ≠ [] → Region.ready m ops listed ≠ []) →
        ∃ os : List Oper, (Region.linearise m ops t).map (fun i => ops[i]?) = os.map some ∧ DRun P call ops ro s.nx os s s' := by
      intro m t hb hp
      have hcl : Closed ops (Array.replicate ops.size false) := by
        intro j o _ hj
        exfalso
        by_cases hk : j < ops.size
        · simp [Array.getD_eq_getD_getElem?, hk] at hj
        · simp [Array.getD_eq_getD_getElem?, hk] at hj
      have hle : (restOf ops (Array.replicate ops.size false)).length ≤ ops.size := by
        unfold restOf
        exact Nat.le_trans (List.length_filter_le _ _) (by simp)
      cases hsw : swapAt ro.mu ops (Region.before ops) with
      | none =>
        exact go_any (P := P) (X := fun _ _ => False) hk s.nx g1 (fun i j a b h1 h2 h3 => by
          rcases g2 i j a b h1 h2 h3 with h | h | h
          · exact .inl h
          · exact .inr (.inl h)
          · rw [hsw] at h; cases h.1) hb hp ops.size t (Array.replicate ops.size false) s s' (by simp) hle hcl (fun _ _ h => h.elim) (by rw [hrest]; exact hinv)
      | some i0 =>
        have hpa := List.find?_some hsw
        unfold pairAt at hpa
        split at hpa
        rotate_left
        · cases hpa
        rename_i tA a tB b hA hB
        obtain ⟨oA, iA, aA⟩ := Option.bind_eq_some_iff.1 hA
        obtain ⟨oB, iB, aB⟩ := Option.bind_eq_some_iff.1 hB
        simp only [Bool.and_eq_true, beq_iff_eq, bne_iff_ne] at hpa
        obtain ⟨⟨⟨⟨⟨rfl, hne⟩, z1⟩, z2⟩, hE⟩, hL⟩ := hpa
        have hpair : Pair ops ro.mu i0 oA oB tA a b := ⟨iA, iB, aA, aB, hne, fun e o he ho => by
          have hm : o ∈ ops.toList.take i0 := List.mem_of_getElem? (i := e) (by rw [List.getElem?_take, if_pos he]; simpa using ho)
          have := List.all_eq_true.1 hE o hm
          simp only [Bool.and_eq_true] at this
          exact ⟨this.1.1, this.1.2, this.2⟩, fun e he hi => by
          have := List.all_eq_true.1 hL e (List.mem_range.2 he)
          simp only [Bool.or_eq_true, decide_eq_true_eq, Bool.and_eq_true] at this
          rcases this with h | h
          · omega
          · exact h.1⟩
        have hsz : i0 + 1 < ops.size := (Array.getElem?_eq_some_iff.1 iB).1
        obtain ⟨l2, hsplit, hl2⟩ : ∃ l2, List.range' 0 ops.size = List.range' 0 i0 ++ i0 :: (i0 + 1) :: l2 ∧ ∀ e ∈ l2, i0 + 1 < e := by
          obtain ⟨k, hk⟩ : ∃ k, ops.size = i0 + (k + 1 + 1) := ⟨ops.size - (i0 + 2), by omega⟩
          refine ⟨List.range' (i0 + 1 + 1) k, ?_, fun e he => ?_⟩
          · rw [hk, ← List.range'_append_1, List.range'_succ, List.range'_succ]
            simp
          · have := List.mem_range'_1.1 he
            omega
        refine go_pair (P := P) hk hpair g1 (fun i j a b h1 h2 h3 => by
          rcases g2 i j a b h1 h2 h3 with h | h | h
          · exact .inl h
          · exact .inr (.inl h)
          · rw [hsw] at h; obtain ⟨q1, q2⟩ := h; cases q1; exact .inr (.inr ⟨rfl, q2⟩)) hb hp (fun e _ => by rw [z1, z2]; simp) ops.size t (Array.replicate ops.size false) s s' _ _ (by simp) hle hcl ?_ hwf (hrest.trans hsplit) hl2 (by rw [← hsplit]; exact hinv)
        have : i0 < ops.size := by omega
        simp [Array.getD_eq_getD_getElem?, this]
    have hany := fun t => fin .any t (fun _ h => h) fun listed hs hr => back_ready (fun j o ho e he hb => g0 j o ho e he (.inl hb)) hs hr
    have htext := fun t => fin .text t (fun e h => by unfold Region.binds at h ⊢; split at h <;> simp_all) fun listed hs hr => back_ready (fun j o ho e he hb => g0 j o ho e he (.inr hb)) hs hr
    unfold Region.schedule
    split
    · exact hany t
    · rename_i hnd
      have hgo : gcGoes ops = true := by
        simp only [Bool.or_eq_true, not_or, Bool.not_eq_true] at hnd
        rw [hnd.2] at hdep
        simpa using hdep
      split
      · exact htext (t / 2)
      · refine fin .gc (t / 2) (fun e h => by unfold Region.binds at h ⊢; split at h <;> simp_all) fun listed hs hr => ?_
        unfold gcGoes at hgo
        simp only [Bool.and_eq_true] at hgo
        obtain ⟨q1, q2⟩ := hgo
        refine topo_ready hs _ [] q2 (fun i hi => by cases hi) ?_
        obtain ⟨k, r, hkr⟩ := List.exists_cons_of_ne_nil hr
        have hk2 : k ∈ restOf ops listed := by rw [hkr]; simp
        unfold restOf at hk2
        rw [List.mem_filter] at hk2
        have := List.all_eq_true.1 q1 k hk2.1
        exact ⟨k, by simpa using this, by simpa using hk2.2⟩
end Go.Proofs.YtleimfinniclgaaDoor.M
