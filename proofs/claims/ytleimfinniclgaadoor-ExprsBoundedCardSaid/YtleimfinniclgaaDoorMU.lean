/- The machine is right: functions. -/
import Derived.Test.YtleimfinniclgaaDoorMS
namespace Go.Proofs.YtleimfinniclgaaDoor.M
open Go.RowKit
set_option linter.unusedVariables false
set_option linter.unusedSimpArgs false

/-! ### What is below ro stays -/
def RoCall (call : CallF) : Prop := ∀ f args ro nx hp r, call f args ro nx hp = some r → ro ≤ nx → nx ≤ r.nx ∧ ∀ id, id < ro → hget r.hp id = hget hp id
theorem hget_hset_ne {hp : Heap} {id j : Nat} {b : ABlk} (h : j ≠ id) : hget (hset hp id b) j = hget hp j := by rw [hget_hset, if_neg h]
theorem val_heap {nx : Nat} {hp : Heap} {x : Option AVal} {q : Out} (h : x.map (Out.val nx hp) = some q) : q.nx = nx ∧ q.hp = hp := by
  cases x with
  | none => cases h
  | some v => injection h with h; subst h; exact ⟨rfl, rfl⟩
section
variable {P : Program} {call : CallF} {kd : Knd} {ops : Array Oper} {ro nx : Nat} {md : Md} {hp : Heap}
def Safe (ro nx : Nat) (hp : Heap) (nx' : Nat) (hp' : Heap) : Prop := nx ≤ nx' ∧ ∀ id, id < ro → hget hp' id = hget hp id
theorem Safe.refl (ro nx : Nat) (hp : Heap) : Safe ro nx hp nx hp := ⟨Nat.le_refl _, fun _ _ => rfl⟩
theorem Safe.trans {n1 n2 : Nat} {h1 h2 : Heap} (a : Safe ro nx hp n1 h1) (b : Safe ro n1 h1 n2 h2) : Safe ro nx hp n2 h2 := ⟨Nat.le_trans a.1 b.1, fun id hid => (b.2 id hid).trans (a.2 id hid)⟩
theorem safe_val {x : Option AVal} {q : Out} (h : x.map (Out.val nx hp) = some q) : Safe ro nx hp q.nx q.hp := by
  obtain ⟨e1, e2⟩ := val_heap h
  rw [e1, e2]
  exact Safe.refl _ _ _
theorem safe_same {q : Out} (e1 : q.nx = nx) (e2 : q.hp = hp) : Safe ro nx hp q.nx q.hp := by
  rw [e1, e2]
  exact Safe.refl _ _ _
theorem safe_push (h : ro ≤ nx) (b : ABlk) : Safe ro nx hp (nx + 1) ((nx, b) :: hp) := ⟨Nat.le_succ _, fun id hid => by simp only [hget]; rw [if_neg (by omega)]⟩
theorem safe_set {id : Nat} (h : ro ≤ id) (b : ABlk) : Safe ro nx hp nx (hset hp id b) := ⟨Nat.le_refl _, fun j hj => hget_hset_ne (by omega)⟩
theorem amove_heap {take : Bool} {x : Operand} {c : Cell} {q : Out} (h : amove take x c nx hp = some q) : q.nx = nx ∧ q.hp = hp := by
  obtain ⟨v, f⟩ := c
  cases x <;> cases f <;> simp only [amove] at h <;> (try split at h) <;> (injection h with h; subst h; exact ⟨rfl, rfl⟩)
theorem aload_safe {d : Option Tmp} {t : TypeId} {a : AVal} {q : Out} (h : aload P ops md d t a nx hp = some q) : Safe md.lo nx hp q.nx q.hp := by
  cases a <;> (try simp only [aload] at h) <;> try (cases h; done)
  · rename_i id off
    cases hg : hget hp id with
    | none => rw [hg] at h; cases h
    | some b =>
      rw [hg] at h
      cases b <;> (try simp only at h) <;> try (cases h; done)
      rename_i cs
      cases ha : isAggT P t with
      | none => rw [ha] at h; cases h
      | some k =>
        rw [ha] at h
        cases k with
        | true => simp only at h; split at h <;> cases h; exact Safe.refl _ _ _
        | false =>
          simp only at h
          cases hc : cs[off]? with
          | none => rw [hc] at h; cases h
          | some c =>
            rw [hc] at h
            obtain ⟨v, f⟩ := c
            cases f with
            | false => simp only at h; cases h; exact Safe.refl _ _ _
            | true =>
              simp only at h
              split at h
              · split at h
                · cases h; exact Safe.refl _ _ _
                · split at h
                  · rename_i hk
                    simp only [Bool.and_eq_true, decide_eq_true_eq] at hk
                    cases h
                    exact safe_set hk.2 _
                  · cases h; exact Safe.refl _ _ _
              · cases h; exact Safe.refl _ _ _
  · exact safe_val h
theorem astore_safe {t : TypeId} {a : AVal} {x : Operand} {c : Cell} {q : Out} (h : astore P ops md t a x c nx hp = some q) : Safe md.lo nx hp q.nx q.hp := by
  cases a <;> (try simp only [astore] at h) <;> try (cases h; done)
  rename_i id off
  cases hg : hget hp id with
  | none => rw [hg] at h; cases h
  | some b =>
    rw [hg] at h
    cases b <;> (try simp only at h) <;> try (cases h; done)
    rename_i cs
    split at h
    · rename_i hc
      have key : ∀ {q : Out} {b : ABlk}, q.nx = nx → q.hp = hset hp id b → Safe md.lo nx hp q.nx q.hp := fun e1 e2 => by rw [e1, e2]; exact safe_set hc.1 _
      split at h
      · split at h <;> (cases h; exact key rfl rfl)
      · cases h; exact key rfl rfl
      · cases h; exact key rfl rfl
    · cases h
theorem aeff0_safe {o : Oper} {ρ : Rho} {q : Out} (hro : md.lo ≤ nx) (h : aeff0 P ops md o ρ nx hp = some q) : Safe md.lo nx hp q.nx q.hp := by
  obtain ⟨dst, op, type, pos, after, guard⟩ := o
  cases op <;> (try simp only [aeff0] at h) <;> try (cases h; done)
  case move x => obtain ⟨e1, e2⟩ := amove_heap h; exact safe_same e1 e2
  case assign x => obtain ⟨e1, e2⟩ := amove_heap h; exact safe_same e1 e2
  case pick c a b => split at h <;> cases h; exact Safe.refl _ _ _
  case alloc t =>
    split at h
    · split at h <;> cases h
      exact safe_push hro _
    · cases h
  case box t x => split at h <;> cases h; exact safe_push hro _
  case buildSlice t len ps =>
    split at h
    · split at h
      · split at h <;> cases h
        · exact safe_push hro _
        · exact Safe.refl _ _ _
      · cases h
    · cases h
  case makeMap t r =>
    cases r with
    | some x => cases h
    | none =>
      simp only at h
      split at h
      · cases h; exact safe_push hro _
      · cases h
  case insert t m k v =>
    obtain ⟨hp', hh, rfl⟩ := Option.map_eq_some_iff.1 h
    unfold amapset at hh
    split at hh
    rotate_left
    · cases hh
    split at hh
    rotate_left
    · cases hh
    split at hh
    rotate_left
    · cases hh
    split at hh
    rotate_left
    · cases hh
    split at hh
    rotate_left
    · cases hh
    rename_i hlo
    split at hh
    · cases hh; exact safe_set hlo _
    · cases hh; exact safe_set hlo _
    · cases hh
  case mapUpdate t m k v =>
    obtain ⟨hp', hh, rfl⟩ := Option.map_eq_some_iff.1 h
    unfold amapset at hh
    split at hh
    rotate_left
    · cases hh
    split at hh
    rotate_left
    · cases hh
    split at hh
    rotate_left
    · cases hh
    split at hh
    rotate_left
    · cases hh
    split at hh
    rotate_left
    · cases hh
    rename_i hlo
    split at hh
    · cases hh; exact safe_set hlo _
    · cases hh; exact safe_set hlo _
    · cases hh
  case load t a => exact aload_safe h
  case store t a x => exact astore_safe h
  case nilCheck x => split at h <;> cases h <;> exact Safe.refl _ _ _
  case makeFunc fn a b =>
    cases fn <;> cases h
    exact Safe.refl _ _ _
  case extract x i =>
    split at h
    · exact safe_val h
    · cases h
  all_goals exact safe_val h
theorem aappendO_safe {ts : List TypeId} {xs : List AVal} {y : AVal} {clr : Option Tmp} {q : Out} (h : aappendO P ts xs y clr nx hp = some q) : Safe ro nx hp q.nx q.hp := by
  unfold aappendO at h
  split at h
  · split at h
    · obtain ⟨v, _, rfl⟩ := Option.map_eq_some_iff.1 h
      exact Safe.refl _ _ _
    · cases h
  · cases h
theorem safe_move {id : Nat} (hid : ro ≤ id) (hro : ro ≤ nx) (b : ABlk) : Safe ro nx hp (nx + 1) ((nx, b) :: hdel hp id) := ⟨Nat.le_succ _, fun j hj => by
  simp only [hget]
  rw [if_neg (by omega), hget_hdel, if_neg (by omega)]⟩
theorem aappendM_safe {ts : List TypeId} {x : Operand} {c : Cell} {y : AVal} {q : Out} (hro : ro ≤ nx) (h : aappendM P ro ts x c y nx hp = some q) : Safe ro nx hp q.nx q.hp := by
  unfold aappendM at h
  split at h
  rotate_left
  · cases h
  split at h
  rotate_left
  · cases h
  split at h
  rotate_left
  · cases h
  split at h
  rotate_left
  · cases h
  split at h
  · split at h
    · cases h; exact Safe.refl _ _ _
    · split at h
      · cases h; exact safe_push hro _
      · cases h
  · split at h
    · split at h
      · rename_i hc
        cases h; exact safe_move hc.1 hro _
      · cases h
    · cases h
  · cases h
theorem abuiltin_safe {b : Builtin} {ts : Array TypeId} {xs : Array Operand} {ρ : Rho} {q : Out} (hro : md.lo ≤ nx) (h : abuiltin P md b ts xs ρ nx hp = some q) : Safe md.lo nx hp q.nx q.hp := by
  unfold abuiltin at h
  split at h
  · split at h
    · exact safe_val h
    · cases h
  · exact safe_val h
  · exact safe_val h
  · by_cases hm : appendsAt md.mu ts.toList = true
    · rw [if_pos hm] at h; exact aappendM_safe hro h
    · rw [if_neg hm] at h
      split at h
      · exact aappendO_safe h
      · exact aappendO_safe h
      · cases h
  · cases h
theorem aeff_plain (o : Oper) (ρ : Rho) (h : ∀ c, o.op ≠ .call c) : aeff P call ops md o ρ nx hp = aeff0 P ops md o ρ nx hp := by
  unfold aeff
  split
  · rename_i c hc; exact absurd hc (h c)
  · rfl
theorem aeff_safe (hc : RoCall call) {o : Oper} {ρ : Rho} {q : Out} (hro : md.lo ≤ nx) (h : aeff P call ops md o ρ nx hp = some q) : Safe md.lo nx hp q.nx q.hp := by
  by_cases hcall : ∃ c, o.op = .call c
  · obtain ⟨c, hop⟩ := hcall
    unfold aeff at h
    rw [hop] at h
    simp only at h
    obtain ⟨callee, args, ts⟩ := c
    cases callee with
    | invoke a b => cases h
    | builtin b => exact abuiltin_safe hro h
    | value f =>
      simp only [acall] at h
      cases hv : (ρ f).1 <;> rw [hv] at h <;> (try simp only at h) <;> try (cases h; done)
      rename_i g fs cs
      cases hk : call g (fs ++ List.map (fun x => (ρ x).1) args.toList ++ cs) md.lo nx hp with
      | none => rw [hk] at h; cases h
      | some r => rw [hk] at h; cases h; exact hc _ _ _ _ _ _ hk hro
  · rw [aeff_plain o ρ (fun c e => hcall ⟨c, e⟩)] at h
    exact aeff0_safe hro h
theorem aops_safe (hc : RoCall call) : ∀ (l : List Oper) (s s' : St), md.lo ≤ s.nx → aops P call ops md l s = some s' → Safe md.lo s.nx s.hp s'.nx s'.hp := by
  intro l
  induction l with
  | nil => intro s s' _ h; cases h; exact Safe.refl _ _ _
  | cons o l ih =>
    intro s s' hro h
    simp only [aops] at h
    obtain ⟨s1, h1, h2⟩ := Option.bind_eq_some_iff.1 h
    have : Safe md.lo s.nx s.hp s1.nx s1.hp := by
      unfold astep at h1
      split at h1
      · obtain ⟨q, hq, rfl⟩ := Option.map_eq_some_iff.1 h1
        exact aeff_safe hc hro hq
      · cases h1; exact Safe.refl _ _ _
      · cases h1
    exact this.trans (ih s1 s' (Nat.le_trans hro this.1) h2)
theorem astep_safe (hc : RoCall call) {o : Oper} {s s1 : St} (hro : md.lo ≤ s.nx) (h1 : astep P call ops md o s = some s1) : Safe md.lo s.nx s.hp s1.nx s1.hp := by
  unfold astep at h1
  split at h1
  · obtain ⟨q, hq, rfl⟩ := Option.map_eq_some_iff.1 h1
    exact aeff_safe hc hro hq
  · cases h1; exact Safe.refl _ _ _
  · cases h1
theorem aopsD_safe (hc : RoCall call) : ∀ (l : List (Oper × List Nat)) (j : Nat) (tr : List (Nat × Heap × Heap)) (fs : List (Nat × Option Nat)) (s s' : St), md.lo ≤ s.nx → aopsD P call ops md j l tr fs s = some s' → Safe md.lo s.nx s.hp s'.nx s'.hp := by
  intro l
  induction l with
  | nil => intro j tr fs s s' _ h; cases h; exact Safe.refl _ _ _
  | cons p l ih =>
    obtain ⟨o, q⟩ := p
    intro j tr fs s s' hro h
    simp only [aopsD] at h
    cases h1 : astep P call ops md o s with
    | none => rw [h1] at h; cases h
    | some s1 =>
      rw [h1] at h
      have k := astep_safe hc hro h1
      simp only at h
      split at h
      · split at h
        · exact k.trans (ih _ _ _ s1 s' (Nat.le_trans hro k.1) h)
        · cases h
      · split at h
        · exact k.trans (ih _ _ _ s1 s' (Nat.le_trans hro k.1) h)
        · cases h
theorem areg_safe (hc : RoCall call) {d : Bool} {s s' : St} (hro : md.lo ≤ s.nx) (h : areg P kd call ops md d s = some s') : Safe md.lo s.nx s.hp s'.nx s'.hp := by
  unfold areg at h
  split at h
  · split at h
    · exact aopsD_safe hc _ _ _ _ _ _ hro h
    · cases h
  · exact aops_safe hc _ _ _ hro h
theorem vlc_safe {K : Cfg} {f : FuncId} {args : List AVal} {g : Nat → Nat → Heap → Option Res} {r : Res} (h : vlc K f args ro nx hp g = some r) (hg : g ro nx hp = some r → Safe ro nx hp r.nx r.hp) : Safe ro nx hp r.nx r.hp := by
  unfold vlc at h
  split at h
  · split at h
    · cases hx : g 0 0 [] with
      | none => rw [hx] at h; cases h
      | some q => rw [hx] at h; cases h; exact Safe.refl _ _ _
    · cases h
  · exact hg h
theorem aexec_safe (hc : RoCall call) : ∀ (n : Nat) (c : Code) (s : St) (x : AExit) (s' : St), md.lo ≤ s.nx → aexec P kd call md n c s = some (x, s') → Safe md.lo s.nx s.hp s'.nx s'.hp := by
  intro n
  induction n with
  | zero => intro c s x s' _ h; simp [aexec] at h
  | succ n ih =>
    intro c s x s' hro h
    cases c with
    | skip => simp only [aexec] at h; cases h; exact Safe.refl _ _ _
    | exit id => simp only [aexec] at h; cases h; exact Safe.refl _ _ _
    | ret => simp only [aexec] at h; cases h; exact Safe.refl _ _ _
    | region id ops d =>
      simp only [aexec] at h
      obtain ⟨s1, h1, e⟩ := Option.map_eq_some_iff.1 h
      cases e
      exact areg_safe hc hro h1
    | seq a b =>
      simp only [aexec] at h
      cases ha : aexec P kd call md n a s with
      | none => rw [ha] at h; cases h
      | some q =>
        rw [ha] at h
        obtain ⟨y, s1⟩ := q
        have h1 := ih a s y s1 hro ha
        cases y with
        | normal => exact h1.trans (ih b s1 x s' (Nat.le_trans hro h1.1) h)
        | ret => cases h; exact h1
        | exit j => cases h; exact h1
    | cond c a b =>
      simp only [aexec] at h
      cases hv : evv s.tm c <;> rw [hv] at h <;> (try simp only at h) <;> try (cases h; done)
      split at h
      · exact ih a s x s' hro h
      · exact ih b s x s' hro h
    | block id b =>
      simp only [aexec] at h
      cases ha : aexec P kd call md n b s with
      | none => rw [ha] at h; cases h
      | some q =>
        rw [ha] at h
        obtain ⟨y, s1⟩ := q
        have h1 := ih b s y s1 hro ha
        cases y with
        | normal => cases h; exact h1
        | ret => cases h; exact h1
        | exit j => simp only at h; split at h <;> (cases h; exact h1)
    | loop b =>
      simp only [aexec] at h
      cases ha : aexec P kd call md n b s with
      | none => rw [ha] at h; cases h
      | some q =>
        rw [ha] at h
        obtain ⟨y, s1⟩ := q
        have h1 := ih b s y s1 hro ha
        cases y with
        | normal => exact h1.trans (ih (.loop b) s1 x s' (Nat.le_trans hro h1.1) h)
        | ret => cases h; exact h1
        | exit j => cases h; exact h1
    | scope b => simp only [aexec] at h; cases h
    | rangeFunc f ps a b => simp only [aexec] at h; cases h
    | label l => simp only [aexec] at h; cases h
    | goto l => simp only [aexec] at h; cases h
    | refuse w => simp only [aexec] at h; cases h
theorem abody_safe (hc : RoCall call) {n : Nat} {fn : Func} {args : List AVal} {r : Res} (hro : md.lo ≤ nx) (h : abody P kd call n md fn args nx hp = some r) : Safe md.lo nx hp r.nx r.hp := by
  unfold abody at h
  split at h
  · rename_i c hb
    split at h
    · rename_i s he
      obtain ⟨c, _, rfl⟩ := Option.map_eq_some_iff.1 h
      exact aexec_safe hc n _ _ _ _ hro he
    · rename_i s he
      obtain ⟨c, _, rfl⟩ := Option.map_eq_some_iff.1 h
      exact aexec_safe hc n _ _ _ _ hro he
    · cases h
  · cases h
theorem sealed_inv {n : Nat} {x : Option Res} {r : Res} (h : sealed n nx hp x = some r) : ∃ q u, x = some q ∧ fz nx q.hp n q.v = some u ∧ u.idsLt nx = true ∧ r = ⟨u, slOwn nx q, nx, hp⟩ := by
  cases x with
  | none => cases h
  | some q =>
    simp only [sealed] at h
    cases hf : fz nx q.hp n q.v with
    | none => rw [hf] at h; cases h
    | some u =>
      rw [hf] at h
      simp only at h
      split at h
      · rename_i hl
        cases h
        exact ⟨q, u, rfl, hf, hl, rfl⟩
      · cases h
theorem tidied_inv {n : Nat} {x : Option Res} {r : Res} (h : tidied n nx x = some r) : ∃ q u, x = some q ∧ fz nx q.hp n q.v = some u ∧ u.idsLt nx = true ∧ hclean nx q.hp = true ∧ r = ⟨u, slOwn nx q, nx, hlow nx q.hp⟩ := by
  cases x with
  | none => cases h
  | some q =>
    simp only [tidied] at h
    cases hf : fz nx q.hp n q.v with
    | none => rw [hf] at h; cases h
    | some u =>
      rw [hf] at h
      simp only at h
      split at h
      · rename_i hl
        rw [Bool.and_eq_true] at hl
        cases h
        exact ⟨q, u, rfl, hf, hl.1, hl.2, rfl⟩
      · cases h
theorem fin_safe (K : Cfg) {n : Nat} {f : FuncId} {x : Option Res} {r : Res} (hro : ro ≤ nx) (h : fin K n f nx hp x = some r) (hx : ∀ q, x = some q → Safe (low K f ro nx) nx hp q.nx q.hp) : Safe ro nx hp r.nx r.hp := by
  unfold fin at h
  unfold low at hx
  split at h
  · obtain ⟨q, u, _, _, _, rfl⟩ := sealed_inv h
    exact Safe.refl _ _ _
  · rename_i hp'
    rw [if_neg hp'] at hx
    split at h
    · obtain ⟨q, u, hq, _, _, _, rfl⟩ := tidied_inv h
      refine ⟨Nat.le_refl _, fun id hid => ?_⟩
      show hget (hlow nx q.hp) id = _
      rw [hget_hlow, if_pos (by omega)]
      exact (hx q hq).2 id hid
    · exact hx r h
theorem arun_safe (K : Cfg) (he : RoCall K.ext) : ∀ n, RoCall (arun K n) := by
  have hlow : ∀ (f : FuncId) (ro nx : Nat), ro ≤ nx → low K f ro nx ≤ nx := fun f ro nx h => by unfold low; split <;> omega
  intro n
  induction n with
  | zero =>
    intro f args ro nx hp r h hro
    rw [arun.eq_def] at h
    refine vlc_safe h fun h => ?_
    exact fin_safe K hro h fun q hq => he _ _ _ _ _ _ hq (hlow f ro nx hro)
  | succ n ih =>
    intro f args ro nx hp r h hro
    rw [arun] at h
    refine vlc_safe h fun h => fin_safe K hro h fun q hq => ?_
    unfold core at hq
    cases hx : K.ext f args (low K f ro nx) nx hp with
    | some q' => rw [hx] at hq; cases hq; exact he _ _ _ _ _ _ hx (hlow f ro nx hro)
    | none =>
      rw [hx] at hq
      simp only at hq
      cases hf : K.P.funcs[f]? with
      | none => rw [hf] at hq; cases hq
      | some fn => rw [hf] at hq; exact abody_safe (md := ⟨low K f ro nx, K.mu f⟩) ih (hlow f ro nx hro) hq
end
end Go.Proofs.YtleimfinniclgaaDoor.M
