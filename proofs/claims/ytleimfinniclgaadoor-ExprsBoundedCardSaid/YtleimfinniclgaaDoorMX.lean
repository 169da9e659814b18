/- The order that a region draws does not matter. -/
import Derived.Test.YtleimfinniclgaaDoorMV
namespace Go.Proofs.YtleimfinniclgaaDoor.M
open Go
set_option linter.unusedVariables false
variable {P : Program} {kd : Knd} {call : CallF} {ops : Array Oper} {ro : Md}

def Same (ops : Array Oper) (o : Oper) (ρ ρ' : Rho) : Prop := ∀ x ∈ o.op.operands, (ρ x).1 = (ρ' x).1 ∧ ((∀ t, x = .tmp t → srcOf ops o = some t) → ρ x = ρ' x)
theorem amove_same {take : Bool} {x : Operand} {c c' : Cell} {nx : Nat} {hp : Heap} (h1 : c.1 = c'.1) (h2 : (∀ t, x = .tmp t → take = true) → c = c') : amove take x c nx hp = amove take x c' nx hp := by
  cases x with
  | tmp t =>
    cases take with
    | true => rw [h2 fun _ _ => rfl]
    | false =>
      obtain ⟨v, b⟩ := c; obtain ⟨v', b'⟩ := c'
      simp only at h1; subst h1
      cases b <;> cases b' <;> rfl
  | const v => rw [h2 fun t h => by cases h]
  | func f => rw [h2 fun t h => by cases h]
  | global g => rw [h2 fun t h => by cases h]
theorem astore_same {t : TypeId} {a : AVal} {x : Operand} {c c' : Cell} {nx : Nat} {hp : Heap} (h1 : c.1 = c'.1) (h2 : (∀ u, x = .tmp u → makes ops u = true) → c = c') : astore P ops ro t a x c nx hp = astore P ops ro t a x c' nx hp := by
  cases x with
  | tmp u =>
    cases hm : makes ops u with
    | true => rw [h2 fun _ e => by cases e; exact hm]
    | false =>
      obtain ⟨v, b⟩ := c; obtain ⟨v', b'⟩ := c'
      simp only at h1; subst h1
      unfold astore
      cases b <;> cases b' <;> simp [hm]
  | const v => rw [h2 fun t h => by cases h]
  | func f => rw [h2 fun t h => by cases h]
  | global g => rw [h2 fun t h => by cases h]
theorem aeff_same {o : Oper} {ρ ρ' : Rho} (h : Same ops o ρ ρ') (nx : Nat) (hp : Heap) : aeff P call ops ro o ρ nx hp = aeff P call ops ro o ρ' nx hp := by
  obtain ⟨dst, op, type, pos, after, guard⟩ := o
  unfold Same at h
  cases op with
  | move x =>
    obtain ⟨h1, h2⟩ := h x (by simp [Op.operands])
    refine amove_same h1 fun hh => h2 fun t e => ?_
    subst e; simp [srcOf, hh t rfl]
  | assign x =>
    obtain ⟨h1, h2⟩ := h x (by simp [Op.operands])
    refine amove_same h1 fun hh => h2 fun t e => ?_
    subst e
    have := hh t rfl
    simp only at this
    simp [srcOf, this]
  | store t a x =>
    obtain ⟨h1, h2⟩ := h x (by simp [Op.operands])
    obtain ⟨h3, _⟩ := h a (by simp [Op.operands])
    simp only [aeff, aeff0]
    rw [h3]
    refine astore_same h1 fun hh => h2 fun t e => ?_
    subst e
    simp [srcOf, hh t rfl]
  | build t ps =>
    simp only [aeff, aeff0]
    rw [show (ps.toList.map fun p => (p.1, (ρ p.2).1)) = ps.toList.map fun p => (p.1, (ρ' p.2).1) from List.map_congr_left fun p hp => by
      rw [(h p.2 (by simp [Op.operands]; exact ⟨p.1, by simpa using hp⟩)).1]]
  | buildSlice t n ps =>
    simp only [aeff, aeff0]
    rw [show (ps.toList.map fun p => (p.1, (ρ p.2).1)) = ps.toList.map fun p => (p.1, (ρ' p.2).1) from List.map_congr_left fun p hp => by
      rw [(h p.2 (by simp [Op.operands]; exact ⟨p.1, by simpa using hp⟩)).1]]
  | makeFunc f a b =>
    have e1 : a.toList.map (fun x => (ρ x).1) = a.toList.map (fun x => (ρ' x).1) := List.map_congr_left fun x hx => (h x (by simp [Op.operands]; left; simpa using hx)).1
    have e2 : b.toList.map (fun x => (ρ x).1) = b.toList.map (fun x => (ρ' x).1) := List.map_congr_left fun x hx => (h x (by simp [Op.operands]; right; simpa using hx)).1
    cases f <;> simp [aeff, aeff0, e1, e2]
  | makeMap t r => cases r <;> rfl
  | slice t x lo hi mx =>
    have e0 := (h x (by simp [Op.operands])).1
    have e1 : lo.map (fun x => (ρ x).1) = lo.map (fun x => (ρ' x).1) := by cases lo with | none => rfl | some y => simp [(h y (by simp [Op.operands])).1]
    have e2 : hi.map (fun x => (ρ x).1) = hi.map (fun x => (ρ' x).1) := by cases hi with | none => rfl | some y => simp [(h y (by simp [Op.operands])).1]
    have e3 : mx.map (fun x => (ρ x).1) = mx.map (fun x => (ρ' x).1) := by cases mx with | none => rfl | some y => simp [(h y (by simp [Op.operands])).1]
    simp only [aeff, aeff0, e0, e1, e2, e3]
  | call c =>
    obtain ⟨callee, args, ts⟩ := c
    cases callee with
    | invoke a b => rfl
    | value f =>
      have e0 := (h f (by simp [Op.operands, Call.operands])).1
      have e1 : args.toList.map (fun x => (ρ x).1) = args.toList.map (fun x => (ρ' x).1) := List.map_congr_left fun x hx => (h x (by simp [Op.operands, Call.operands]; right; simpa using hx)).1
      simp only [aeff, acall, e0, e1]
    | builtin b =>
      simp only [aeff, acall]
      have hx : ∀ x ∈ args.toList, (ρ x).1 = (ρ' x).1 := fun x hx => (h x (by simp [Op.operands, Call.operands]; simpa using hx)).1
      unfold abuiltin
      have fm : ∀ (g : AVal → AVal → Option AVal) (l : List Operand) (i : AVal), (∀ x ∈ l, (ρ x).1 = (ρ' x).1) → l.foldlM (fun a y => g a (ρ y).1) i = l.foldlM (fun a y => g a (ρ' y).1) i := by
        intro g l
        induction l with
        | nil => intro i _; rfl
        | cons y l ih =>
          intro i hl
          rw [List.foldlM_cons, List.foldlM_cons, hl y (by simp)]
          congr 1
          funext z
          exact ih z fun x hx => hl x (by simp [hx])
      split
      · rename_i x hl; rw [hx x (by simp [hl])]
      · rename_i x r hl; rw [hx x (by simp [hl]), fm _ _ _ fun y hy => hx y (by simp [hl, hy])]
      · rename_i x r hl; rw [hx x (by simp [hl]), fm _ _ _ fun y hy => hx y (by simp [hl, hy])]
      · rename_i u y hl
        have e1 : ρ u = ρ' u := (h u (by simp [Op.operands, Call.operands, ← Array.mem_toList_iff, hl])).2 fun t e => by subst e; simp [srcOf, hl]
        rw [hx y (by simp [hl]), e1]
      · rfl
  | _ => first
    | rfl
    | (have hh := fun x hx => (h x hx).1
       simp [Op.operands] at hh
       simp only [aeff, aeff0, hh]
       done)

theorem amove_clr {take : Bool} {x : Operand} {c : Cell} {nx : Nat} {hp : Heap} {q : Out} (h : amove take x c nx hp = some q) : q.nx = nx ∧ q.hp = hp ∧ ∀ t, q.clr = some t → x = .tmp t ∧ take = true := by
  unfold amove at h
  split at h
  · split at h
    · cases h; exact ⟨rfl, rfl, fun t e => by cases e; exact ⟨rfl, by assumption⟩⟩
    · cases h; exact ⟨rfl, rfl, fun t e => by cases e⟩
  · cases h; exact ⟨rfl, rfl, fun t e => by cases e⟩
  · cases h; exact ⟨rfl, rfl, fun t e => by cases e⟩
theorem amove_light {take : Bool} {x : Operand} {c : Cell} {nx : Nat} {hp : Heap} {q : Out} (h : amove take x c nx hp = some q) : ∀ nx' hp', amove take x c nx' hp' = some { q with nx := nx', hp := hp' } := by
  intro nx' hp'
  unfold amove at h ⊢
  split at h <;> (try split at h) <;> cases h <;> simp_all [Out.val]
theorem aload_clr {d : Option Tmp} {t : TypeId} {a : AVal} {nx : Nat} {hp : Heap} {q : Out} (h : aload P ops ro d t a nx hp = some q) : q.clr = none ∧ ((feeds ops d && !ro.mu.contains t) = false → q.nx = nx ∧ q.hp = hp) := by
  unfold aload at h
  split at h
  · split at h
    · split at h
      · split at h
        · cases h; exact ⟨rfl, fun _ => ⟨rfl, rfl⟩⟩
        · cases h
      · split at h
        · split at h
          · rename_i hf
            split at h
            · cases h; exact ⟨rfl, fun _ => ⟨rfl, rfl⟩⟩
            · split at h
              · rename_i hc
                cases h
                refine ⟨rfl, fun hf' => ?_⟩
                rw [hf, Bool.true_and] at hf'
                rw [hf'] at hc
                simp at hc
              · cases h; exact ⟨rfl, fun _ => ⟨rfl, rfl⟩⟩
          · cases h; exact ⟨rfl, fun _ => ⟨rfl, rfl⟩⟩
        · cases h; exact ⟨rfl, fun _ => ⟨rfl, rfl⟩⟩
        · cases h
      · cases h
    · cases h
  · obtain ⟨v, hv, rfl⟩ := Option.map_eq_some_iff.1 h
    exact ⟨rfl, fun _ => ⟨rfl, rfl⟩⟩
  · cases h
theorem astore_clr {t : TypeId} {a : AVal} {x : Operand} {c : Cell} {nx : Nat} {hp : Heap} {q : Out} (h : astore P ops ro t a x c nx hp = some q) : ∀ u, q.clr = some u → x = .tmp u ∧ makes ops u = true := by
  unfold astore at h
  intro u hu
  split at h
  · split at h
    · split at h
      · split at h
        · split at h
          · rename_i hm; cases h; cases hu; exact ⟨rfl, hm.1⟩
          · cases h; cases hu
        · cases h; cases hu
        · cases h; cases hu
      · cases h
    · cases h
  · cases h
theorem val_inv {nx : Nat} {hp : Heap} {v : Option AVal} {q : Out} (h : v.map (Out.val nx hp) = some q) : ∃ a, v = some a ∧ q = .val nx hp a := by
  obtain ⟨a, ha, e⟩ := Option.map_eq_some_iff.1 h
  exact ⟨a, ha, e.symm⟩
theorem aappendO_light {ts : List TypeId} {xs : List AVal} {y : AVal} {clr : Option Tmp} {nx : Nat} {hp : Heap} {q : Out} (h : aappendO P ts xs y clr nx hp = some q) : q.nx = nx ∧ q.hp = hp ∧ q.clr = clr ∧ ∀ nx' hp', aappendO P ts xs y clr nx' hp' = some { q with nx := nx', hp := hp' } := by
  unfold aappendO at h
  split at h
  · rename_i zs t t2
    split at h
    · rename_i hu
      obtain ⟨a, ha, rfl⟩ := Option.map_eq_some_iff.1 h
      exact ⟨rfl, rfl, rfl, fun nx' hp' => by simp [aappendO, hu, ha]⟩
    · cases h
  · cases h
theorem abuiltin_light {b : Builtin} {ts : Array TypeId} {xs : Array Operand} {ρ : Rho} {nx : Nat} {hp : Heap} {q : Out} (hm : appendsAt ro.mu ts.toList = false) (h : abuiltin P ro b ts xs ρ nx hp = some q) :
    q.nx = nx ∧ q.hp = hp ∧ ∀ nx' hp', abuiltin P ro b ts xs ρ nx' hp' = some { q with nx := nx', hp := hp' } := by
  unfold abuiltin at h
  split at h
  · rename_i x hl
    split at h
    · rename_i t ht
      obtain ⟨a, ha, rfl⟩ := val_inv h
      exact ⟨rfl, rfl, fun nx' hp' => by simp [abuiltin, hl, ht, ha, Out.val]⟩
    · cases h
  · rename_i x r hl
    obtain ⟨a, ha, rfl⟩ := val_inv h
    exact ⟨rfl, rfl, fun nx' hp' => by simp [abuiltin, hl, ha, Out.val]⟩
  · rename_i x r hl
    obtain ⟨a, ha, rfl⟩ := val_inv h
    exact ⟨rfl, rfl, fun nx' hp' => by simp [abuiltin, hl, ha, Out.val]⟩
  · rename_i x y hl
    rw [if_neg (by rw [hm]; decide)] at h
    split at h
    · rename_i u ys hy
      obtain ⟨h1, h2, _, h4⟩ := aappendO_light h
      refine ⟨h1, h2, fun nx' hp' => ?_⟩
      unfold abuiltin
      simp only [hl]
      rw [if_neg (by rw [hm]; decide)]
      simp only [hy]
      exact h4 nx' hp'
    · rename_i u hy
      obtain ⟨h1, h2, _, h4⟩ := aappendO_light h
      refine ⟨h1, h2, fun nx' hp' => ?_⟩
      unfold abuiltin
      simp only [hl]
      rw [if_neg (by rw [hm]; decide)]
      simp only [hy]
      exact h4 nx' hp'
    · cases h
  · cases h
theorem aappendM_clr {lo : Nat} {ts : List TypeId} {x : Operand} {c : Cell} {y : AVal} {nx : Nat} {hp : Heap} {q : Out} (h : aappendM P lo ts x c y nx hp = some q) (t : Tmp) (ht : q.clr = some t) : x = .tmp t := by
  unfold aappendM at h
  split at h
  rotate_left
  · cases h
  split at h
  rotate_left
  · cases h
  split at h
  rotate_left
  · cases h
  split at h
  rotate_left
  · cases h
  split at h
  · split at h
    · cases h
      cases x <;> first | (cases ht; done) | (cases ht; rfl)
    · split at h
      · cases h; cases ht
      · cases h
  · split at h
    · split at h
      · cases h; cases ht
      · cases h
    · cases h
  · cases h
theorem abuiltin_clr {b : Builtin} {ts : Array TypeId} {xs : Array Operand} {ρ : Rho} {nx : Nat} {hp : Heap} {q : Out} (h : abuiltin P ro b ts xs ρ nx hp = some q) (t : Tmp) (ht : q.clr = some t) : ∃ y, b = .append ∧ xs.toList = [.tmp t, y] := by
  unfold abuiltin at h
  split at h
  · split at h
    · obtain ⟨a, ha, rfl⟩ := val_inv h; cases ht
    · cases h
  · obtain ⟨a, ha, rfl⟩ := val_inv h; cases ht
  · obtain ⟨a, ha, rfl⟩ := val_inv h; cases ht
  · rename_i x y hl
    by_cases hm : appendsAt ro.mu ts.toList = true
    · rw [if_pos hm] at h
      have := aappendM_clr h t ht
      subst this
      exact ⟨y, rfl, hl⟩
    · rw [if_neg hm] at h
      split at h
      · rw [(aappendO_light h).2.2.1] at ht; cases ht; exact ⟨y, rfl, hl⟩
      · rw [(aappendO_light h).2.2.1] at ht; cases ht
      · cases h
  · cases h

def PureCalls (pure : FuncId → Bool) (call : CallF) : Prop := ∀ f args ro nx hp r, pure f = true → call f args ro nx hp = some r → r.nx = nx ∧ r.hp = hp
def ValCalls (vl : FuncId → Bool) (call : CallF) : Prop := ∀ f args ro nx hp r, vl f = true → call f args ro nx hp = some r → r.nx = nx ∧ r.hp = hp ∧ ∀ ro' nx' hp', call f args ro' nx' hp' = some ⟨r.v, r.own, nx', hp'⟩
structure Kds (kd : Knd) (call : CallF) : Prop where
  pure : PureCalls kd.pure call
  vl : ValCalls kd.vl call
  sub : ∀ f, kd.vl f = true → kd.pure f = true
/-- Where heap and count are not looked at, they are not changed. -/
theorem aeff_light (hk : Kds kd call) {o : Oper} {tm : List Cell} {nx : Nat} {hp : Heap} {q : Out} (hh : heapy kd.vl ro.mu o = false) (h : aeff P call ops ro o (ev tm) nx hp = some q) :
    q.nx = nx ∧ q.hp = hp ∧ ∀ nx' hp', aeff P call ops ro o (ev tm) nx' hp' = some { q with nx := nx', hp := hp' } := by
  obtain ⟨dst, op, type, pos, after, guard⟩ := o
  cases op <;> first
    | (cases hh; done)
    | (cases h; done)
    | skip
  case move x =>
    obtain ⟨h1, h2, _⟩ := amove_clr h
    exact ⟨h1, h2, amove_light h⟩
  case assign x =>
    obtain ⟨h1, h2, _⟩ := amove_clr h
    exact ⟨h1, h2, amove_light h⟩
  case call c =>
    obtain ⟨callee, args, ts⟩ := c
    cases callee with
    | invoke a b => cases h
    | value f =>
      have hv : pureCall kd.vl ⟨.value f, args, ts⟩ = true := by
        have h1 : (!pureCall kd.vl ⟨.value f, args, ts⟩) = false := hh
        cases h2 : pureCall kd.vl ⟨.value f, args, ts⟩ with
        | true => rfl
        | false => rw [h2] at h1; cases h1
      cases f with
      | func g =>
        have hv : kd.vl g = true := hv
        simp only [aeff, acall, ev] at h ⊢
        split at h
        · rename_i r hr
          cases h
          obtain ⟨e1, e2, e3⟩ := hk.vl _ _ _ _ _ _ hv hr
          exact ⟨e1, e2, fun nx' hp' => by rw [e3]⟩
        · cases h
      | _ => cases hv
    | builtin b =>
      simp only [aeff, acall] at h ⊢
      exact abuiltin_light hh h
  case makeFunc f a b =>
    cases f <;> first | (cases h; done) | skip
    cases h
    exact ⟨rfl, rfl, fun _ _ => rfl⟩
  case pick c a b =>
    simp only [aeff, aeff0] at h ⊢
    split at h
    · rename_i b hb; cases h; exact ⟨rfl, rfl, fun _ _ => by simp [Out.val]⟩
    · cases h
  case buildSlice t n ps =>
    simp only [aeff, aeff0] at h ⊢
    split at h
    · rename_i e he
      split at h
      · rename_i hc
        have hm : ro.mu.contains t = false := hh
        simp only [hm, Bool.false_eq_true, if_false] at h ⊢
        cases h; exact ⟨rfl, rfl, fun _ _ => by simp only [if_pos hc]⟩
      · cases h
    · cases h
  case nilCheck x =>
    simp only [aeff, aeff0] at h ⊢
    split at h <;> cases h <;> exact ⟨rfl, rfl, fun _ _ => by simp [Out.val]⟩
  case extract x i =>
    simp only [aeff, aeff0] at h ⊢
    split at h
    · rename_i vs he
      obtain ⟨a, ha, rfl⟩ := val_inv h
      exact ⟨rfl, rfl, fun _ _ => by simp [ha, Out.val]⟩
    · cases h
  all_goals
    simp only [aeff, aeff0] at h ⊢
    obtain ⟨a, ha, rfl⟩ := val_inv h
    exact ⟨rfl, rfl, fun _ _ => by simp [ha, Out.val]⟩
theorem aeff_still (hk : Kds kd call) {o : Oper} {tm : List Cell} {nx : Nat} {hp : Heap} {q : Out} (hh : effectful ro.mu kd.pure ops o = false) (h : aeff P call ops ro o (ev tm) nx hp = some q) : q.nx = nx ∧ q.hp = hp := by
  cases hy : heapy kd.vl ro.mu o with
  | false => obtain ⟨h1, h2, _⟩ := aeff_light hk hy h; exact ⟨h1, h2⟩
  | true =>
    obtain ⟨dst, op, type, pos, after, guard⟩ := o
    cases op <;> first
      | (cases hy; done)
      | (cases hh; done)
      | skip
    case load t a => exact (aload_clr h).2 hh
    case lookup t m k ok =>
      obtain ⟨a, _, rfl⟩ := val_inv h
      exact ⟨rfl, rfl⟩
    case buildSlice t n ps =>
      have h1 : ro.mu.contains t = true := hy
      have h2 : ro.mu.contains t = false := hh
      rw [h1] at h2; cases h2
    case call c =>
      obtain ⟨callee, args, ts⟩ := c
      cases callee with
      | invoke a b => cases h
      | builtin b =>
        have h1 : appendsAt ro.mu ts.toList = true := hy
        have h2 : appendsAt ro.mu ts.toList = false := hh
        rw [h1] at h2; cases h2
      | value f =>
        simp only [effectful, pureCall] at hh
        cases f with
        | func g =>
          simp only [aeff, acall, ev] at h
          split at h
          · rename_i r hr
            cases h
            have : kd.pure g = true := by simpa using hh
            exact hk.pure _ _ _ _ _ _ this hr
          · cases h
        | _ => cases hh
theorem aeff_clr {o : Oper} {ρ : Rho} {nx : Nat} {hp : Heap} {q : Out} (h : aeff P call ops ro o ρ nx hp = some q) (t : Tmp) (ht : q.clr = some t) : srcOf ops o = some t ∧ Operand.tmp t ∈ o.op.operands := by
  obtain ⟨dst, op, type, pos, after, guard⟩ := o
  cases op <;> first
    | (cases h; done)
    | skip
  case move x =>
    obtain ⟨rfl, h2⟩ := (amove_clr h).2.2 t ht
    simp only at h2
    simp [srcOf, h2, Op.operands]
  case assign x =>
    obtain ⟨rfl, h2⟩ := (amove_clr h).2.2 t ht
    simp only at h2
    simp [srcOf, h2, Op.operands]
  case store t' a x =>
    obtain ⟨rfl, h2⟩ := astore_clr h t ht
    simp [srcOf, h2, Op.operands]
  case load t' a => rw [(aload_clr h).1] at ht; cases ht
  case call c =>
    obtain ⟨callee, args, ts⟩ := c
    cases callee with
    | invoke a b => cases h
    | value f =>
      simp only [aeff, acall] at h
      split at h
      · split at h
        · cases h; cases ht
        · cases h
      · cases h
    | builtin b =>
      simp only [aeff, acall] at h
      obtain ⟨y, rfl, hl⟩ := abuiltin_clr h t ht
      refine ⟨by simp [srcOf, hl], by simp [Op.operands, Call.operands, ← Array.mem_toList_iff, hl]⟩
  case makeFunc f a b =>
    cases f <;> first
      | (cases h; done)
      | (cases h; cases ht; done)
  case makeMap t' r =>
    cases r with
    | some x => cases h
    | none =>
      simp only [aeff, aeff0] at h
      split at h
      · cases h; cases ht
      · cases h
  case insert t' m k v =>
    simp only [aeff, aeff0] at h
    obtain ⟨hp', _, rfl⟩ := Option.map_eq_some_iff.1 h
    cases ht
  case mapUpdate t' m k v =>
    simp only [aeff, aeff0] at h
    obtain ⟨hp', _, rfl⟩ := Option.map_eq_some_iff.1 h
    cases ht
  all_goals
    exfalso
    simp only [aeff, aeff0] at h
    repeat' split at h
    all_goals first
      | (cases h; done)
      | (cases h; cases ht; done)
      | (obtain ⟨a, ha, rfl⟩ := val_inv h; cases ht; done)
      | skip

/-! Two steps that may change places. -/
theorem unflag_get (tm : List Cell) (t k : Nat) : (unflag tm t)[k]? = if t = k then tm[k]?.map (fun c => (c.1, false)) else tm[k]? := by
  unfold unflag
  split
  · rename_i c hc
    rw [List.getElem?_set]
    split
    · rename_i e; subst e
      obtain ⟨hl, rfl⟩ := List.getElem?_eq_some_iff.1 hc
      simp [hl]
    · rfl
  · rename_i hc
    split
    · rename_i e; subst e; rw [hc]; rfl
    · rfl
theorem set_get (tm : List Cell) (d k : Nat) (c : Cell) : (tm.set d c)[k]? = if d = k then tm[k]?.map (fun _ => c) else tm[k]? := by
  rw [List.getElem?_set]
  split
  · rename_i e; subst e
    split
    · rename_i hl; rw [List.getElem?_eq_getElem hl]; rfl
    · rename_i hl; rw [List.getElem?_eq_none (by omega)]; rfl
  · rfl
theorem put_get (q : Out) (d : Option Tmp) (tm : List Cell) (k : Nat) : (q.put d tm).tm[k]? =
    if d = some k then tm[k]?.map (fun _ => (q.v, q.own)) else if q.clr = some k then tm[k]?.map (fun c => (c.1, false)) else tm[k]? := by
  unfold Out.put
  cases d with
  | none =>
    cases q.clr with
    | none => simp
    | some t => simp [unflag_get]
  | some d =>
    cases q.clr with
    | none => simp [set_get]
    | some t =>
      simp only [set_get, unflag_get, Option.some.injEq]
      split
      · split
        · simp [Option.map_map]; rfl
        · rfl
      · rfl
theorem gate_same {x y : Option Cell} {w : Bool} (h : x.map (·.1) = y.map (·.1)) : gate x w = gate y w := by
  cases x with
  | none => cases y with | none => rfl | some c => cases h
  | some c => cases y with
    | none => cases h
    | some c' =>
      obtain ⟨v, b⟩ := c; obtain ⟨v', b'⟩ := c'
      simp only [Option.map_some, Option.some.injEq] at h
      subst h
      cases v <;> rfl
theorem mem_tmpsOf {l : List Operand} {t : Tmp} : t ∈ tmpsOf l ↔ Operand.tmp t ∈ l := by
  unfold tmpsOf
  rw [List.mem_filterMap]
  constructor
  · rintro ⟨x, hx, h⟩
    cases x <;> cases h
    exact hx
  · intro h; exact ⟨_, h, rfl⟩
theorem wanted_put {o : Oper} {q : Out} {d : Option Tmp} {tm : List Cell} (h : ∀ t, d = some t → t ∉ namesOf ops o) : awanted ops (q.put d tm).tm o = awanted ops tm o := by
  unfold awanted
  split
  · rfl
  · rename_i j w hg
    split
    · rename_i t ht
      refine gate_same ?_
      rw [put_get]
      have : d ≠ some t := fun e => h t e (by unfold namesOf; simp [hg, ht])
      rw [if_neg this]
      split
      · cases tm[t]? <;> rfl
      · rfl
    · rfl
theorem same_put {o : Oper} {q : Out} {d : Option Tmp} {tm : List Cell} (h : ∀ t, d = some t → t ∉ namesOf ops o) (hs : ∀ t, q.clr = some t → srcOf ops o ≠ some t) : Same ops o (ev (q.put d tm).tm) (ev tm) := by
  intro x hx
  cases x with
  | tmp t =>
    have hd : d ≠ some t := fun e => h t e (by unfold namesOf; rw [List.mem_append]; left; rw [mem_tmpsOf]; simpa using hx)
    simp only [ev]
    rw [put_get, if_neg hd]
    constructor
    · split
      · cases tm[t]? <;> rfl
      · rfl
    · intro hh
      have := hh t rfl
      rw [if_neg fun e => hs t e this]
  | const v => exact ⟨rfl, fun _ => rfl⟩
  | func f => exact ⟨rfl, fun _ => rfl⟩
  | global g => exact ⟨rfl, fun _ => rfl⟩
theorem put_comm {qa qb : Out} {da db : Option Tmp} {tm : List Cell} (h1 : ∀ t, da = some t → db ≠ some t) (h2 : ∀ t, da = some t → qb.clr ≠ some t) (h3 : ∀ t, db = some t → qa.clr ≠ some t) :
    (qb.put db (qa.put da tm).tm).tm = (qa.put da (qb.put db tm).tm).tm := by
  refine List.ext_getElem? fun k => ?_
  simp only [put_get]
  by_cases ha : da = some k
  · have hb := h1 k ha
    have hc := h2 k ha
    simp [ha, hb, hc]
  · by_cases hb : db = some k
    · have hc := h3 k hb
      simp [ha, hb, hc]
    · simp only [if_neg ha, if_neg hb]
      split <;> split <;> simp [Option.map_map]

def aout (P : Program) (call : CallF) (ops : Array Oper) (ro : Md) (o : Oper) (s : St) : Option Out := match awanted ops s.tm o with
  | some true => aeff P call ops ro o (ev s.tm) s.nx s.hp
  | some false => some (.val s.nx s.hp (.tup []))
  | none => none
theorem astep_out (o : Oper) (s : St) : astep P call ops ro o s = (aout P call ops ro o s).map (·.put o.dst s.tm) := by
  unfold astep aout
  cases awanted ops s.tm o with
  | none => rfl
  | some b => cases b <;> rfl
theorem aout_same {o : Oper} {tm tm' : List Cell} {nx : Nat} {hp : Heap} (h1 : awanted ops tm' o = awanted ops tm o) (h2 : Same ops o (ev tm') (ev tm)) : aout P call ops ro o ⟨tm', nx, hp⟩ = aout P call ops ro o ⟨tm, nx, hp⟩ := by
  unfold aout
  simp only [h1, aeff_same h2]
theorem aout_light (hk : Kds kd call) {o : Oper} {tm : List Cell} {nx : Nat} {hp : Heap} {q : Out} (hh : heapy kd.vl ro.mu o = false) (h : aout P call ops ro o ⟨tm, nx, hp⟩ = some q) :
    q.nx = nx ∧ q.hp = hp ∧ ∀ nx' hp', aout P call ops ro o ⟨tm, nx', hp'⟩ = some { q with nx := nx', hp := hp' } := by
  unfold aout at h ⊢
  simp only at h ⊢
  split at h
  · exact aeff_light hk hh h
  · cases h; exact ⟨rfl, rfl, fun _ _ => rfl⟩
  · cases h
theorem aout_still (hk : Kds kd call) {o : Oper} {tm : List Cell} {nx : Nat} {hp : Heap} {q : Out} (hh : effectful ro.mu kd.pure ops o = false) (h : aout P call ops ro o ⟨tm, nx, hp⟩ = some q) : q.nx = nx ∧ q.hp = hp := by
  unfold aout at h
  simp only at h
  split at h
  · exact aeff_still hk hh h
  · cases h; exact ⟨rfl, rfl⟩
  · cases h
theorem aout_clr {o : Oper} {s : St} {q : Out} (h : aout P call ops ro o s = some q) (t : Tmp) (ht : q.clr = some t) : srcOf ops o = some t ∧ t ∈ namesOf ops o := by
  unfold aout at h
  split at h
  · obtain ⟨h1, h2⟩ := aeff_clr h t ht
    exact ⟨h1, by unfold namesOf; rw [List.mem_append]; left; rw [mem_tmpsOf]; simpa using h2⟩
  · cases h; cases ht
  · cases h
theorem put_nx (q : Out) (d : Option Tmp) (tm : List Cell) : q.put d tm = ⟨(q.put d tm).tm, q.nx, q.hp⟩ := rfl
theorem apartD_spec {d : Option Tmp} {l : List Tmp} (h : apartD d l = true) (t : Tmp) (ht : d = some t) : t ∉ l := by
  subst ht
  simpa [apartD] using h
theorem astep_still (hk : Kds kd call) {o : Oper} {s s' : St} (hh : effectful ro.mu kd.pure ops o = false) (h : astep P call ops ro o s = some s') : s'.nx = s.nx ∧ s'.hp = s.hp := by
  rw [astep_out] at h
  obtain ⟨q, hq, rfl⟩ := Option.map_eq_some_iff.1 h
  exact aout_still hk hh hq
theorem foot_same {o : Oper} {tm tm' : List Cell} (h : Same ops o (ev tm') (ev tm)) (nx nx' : Nat) (hp hp' : Heap) : footAt o ⟨tm', nx', hp'⟩ = footAt o ⟨tm, nx, hp⟩ := by
  obtain ⟨dst, op, type, pos, after, guard⟩ := o
  cases op <;> first | rfl | skip
  case load t a => exact congrArg footOf (h a (by simp [Op.operands])).1
  case lookup t a k ok => exact congrArg footOf (h a (by simp [Op.operands])).1
/-- The variable stays. -/
def Stay (h h' : Heap) (f : Option Nat) : Prop := ∀ id, f = some id → hget h id = hget h' id
theorem aload_stay {d : Option Tmp} {t : TypeId} {a : AVal} {nx : Nat} {hp : Heap} {q : Out} (hr : (feeds ops d && !ro.mu.contains t) = false) (h : aload P ops ro d t a nx hp = some q) {hp' : Heap} (hs : Stay hp hp' (footOf a)) (nx' : Nat) : aload P ops ro d t a nx' hp' = some { q with nx := nx', hp := hp' } := by
  unfold aload at h ⊢
  split at h
  · rename_i id off
    rw [← hs id rfl]
    try simp only
    split at h
    · split at h
      · split at h
        · rename_i hc; cases h; rw [if_pos hc]; rfl
        · cases h
      · split at h
        · split at h
          · rename_i hf
            split at h
            · rename_i hn; cases h; simp only [hf, hn, if_true]
            · split at h
              · rename_i hc
                rw [hf, Bool.true_and] at hr
                rw [hr] at hc
                simp at hc
              · rename_i hn hc; cases h; simp only [hf, if_true]; rw [if_neg hn, if_neg hc]; rfl
          · rename_i hf; cases h; rw [if_neg hf]; rfl
        · cases h; rfl
        · cases h
      · cases h
    · cases h
  · obtain ⟨v, hv, rfl⟩ := Option.map_eq_some_iff.1 h
    simp only [hv]
    rfl
  · cases h
theorem alookup_stay {t : TypeId} {m k : AVal} {ok : Bool} {hp hp' : Heap} (hs : Stay hp hp' (footOf m)) : alookup P t m k ok hp' = alookup P t m k ok hp := by
  unfold alookup
  cases m with
  | map id => simp only [hs id rfl]
  | _ => rfl
/-- A reader tells the same if its variable stays. -/
theorem aout_read (hk : Kds kd call) {o : Oper} {tm : List Cell} {nx : Nat} {hp : Heap} {q : Out} (hr : rdr ro.mu ops o = true) (h : aout P call ops ro o ⟨tm, nx, hp⟩ = some q) {hp' : Heap} (hs : Stay hp hp' (footAt o ⟨tm, nx, hp⟩)) (nx' : Nat) : aout P call ops ro o ⟨tm, nx', hp'⟩ = some { q with nx := nx', hp := hp' } := by
  unfold aout at h ⊢
  simp only at h ⊢
  split at h
  · obtain ⟨dst, op, type, pos, after, guard⟩ := o
    cases op <;> (try (cases hr; done))
    case load t a _ =>
      have hr' : (feeds ops dst && !ro.mu.contains t) = false := by
        have h1 : (!(feeds ops dst && !ro.mu.contains t)) = true := hr
        rw [Bool.not_eq_true'] at h1; exact h1
      exact aload_stay hr' h hs nx'
    case lookup t m k ok _ =>
      have h : (alookup P t (ev tm m).1 (ev tm k).1 ok hp).map (Out.val nx hp) = some q := h
      obtain ⟨v, hv, rfl⟩ := Option.map_eq_some_iff.1 h
      show (alookup P t (ev tm m).1 (ev tm k).1 ok hp').map (Out.val nx' hp') = _
      rw [alookup_stay hs, hv]
      rfl
  · cases h; rfl
  · cases h
theorem rdr_still {o : Oper} (hr : rdr ro.mu ops o = true) (pure : FuncId → Bool) : effectful ro.mu pure ops o = false := by
  obtain ⟨dst, op, type, pos, after, guard⟩ := o
  cases op <;> (try (cases hr; done))
  · have h1 : (!(feeds ops dst && !ro.mu.contains _)) = true := hr
    rw [Bool.not_eq_true'] at h1; exact h1
  · rfl
/-- Two operations may change places. -/
def May (kd : Knd) (ro : Md) (ops : Array Oper) (a b : Oper) (s s1 s2 : St) : Prop :=
  (!(effectful ro.mu kd.pure ops a && heapy kd.vl ro.mu b) && !(heapy kd.vl ro.mu a && effectful ro.mu kd.pure ops b)) = true ∨
  (rdr ro.mu ops a = true ∧ Stay s1.hp s2.hp (footAt a s)) ∨ (rdr ro.mu ops b = true ∧ Stay s1.hp s.hp (footAt b s1))
theorem swap (hk : Kds kd call) {a b : Oper} (hsl : slotsOk ops a b = true) {s s1 s2 : St} (h1 : astep P call ops ro a s = some s1) (h2 : astep P call ops ro b s1 = some s2) (hm : May kd ro ops a b s s1 s2) :
    ∃ s1', astep P call ops ro b s = some s1' ∧ astep P call ops ro a s1' = some s2 ∧ footAt b s1 = footAt b s ∧ footAt a s1' = footAt a s := by
  obtain ⟨tm, nx, hp⟩ := s
  simp only [slotsOk, Bool.and_eq_true] at hsl
  obtain ⟨⟨ha, hb⟩, hs⟩ := hsl
  have ha' := apartD_spec ha
  have hb' := apartD_spec hb
  rw [astep_out] at h1 h2
  obtain ⟨qa, hqa, rfl⟩ := Option.map_eq_some_iff.1 h1
  obtain ⟨qb, hqb, rfl⟩ := Option.map_eq_some_iff.1 h2
  have anb : ∀ t, a.dst = some t → t ∉ namesOf ops b := fun t e hm => ha' t e (List.mem_append_right _ hm)
  have bna : ∀ t, b.dst = some t → t ∉ namesOf ops a := fun t e hm => hb' t e (List.mem_append_right _ hm)
  have dd : ∀ t, a.dst = some t → b.dst ≠ some t := fun t e hm => ha' t e (List.mem_append_left _ (by simp [hm]))
  have src : ∀ t, srcOf ops a = some t → srcOf ops b ≠ some t := by
    intro t e1 e2
    rw [e1, e2] at hs
    simp at hs
  have sameB := same_put (ops := ops) (o := b) (q := qa) (tm := tm) anb fun t e => src t (aout_clr hqa t e).1
  have footB : footAt b (qa.put a.dst tm) = footAt b ⟨tm, nx, hp⟩ := foot_same sameB nx _ hp _
  rw [put_nx, aout_same (wanted_put anb) sameB] at hqb
  have fin : ∀ (qa' qb' : Out), qa'.v = qa.v → qa'.own = qa.own → qa'.clr = qa.clr → qb'.v = qb.v → qb'.own = qb.own → qb'.clr = qb.clr → qa'.nx = qb.nx → qa'.hp = qb.hp →
      aout P call ops ro b ⟨tm, nx, hp⟩ = some qb' → aout P call ops ro a ⟨tm, qb'.nx, qb'.hp⟩ = some qa' →
      ∃ s1', astep P call ops ro b ⟨tm, nx, hp⟩ = some s1' ∧ astep P call ops ro a s1' = some (qb.put b.dst (qa.put a.dst tm).tm) ∧ footAt b (qa.put a.dst tm) = footAt b ⟨tm, nx, hp⟩ ∧ footAt a s1' = footAt a ⟨tm, nx, hp⟩ := by
    intro qa' qb' e1 e2 e3 e4 e5 e6 e7 e8 g1 g2
    have sameA := same_put (ops := ops) (o := a) (q := qb') (tm := tm) bna fun t e e' => src t e' (aout_clr g1 t e).1
    refine ⟨qb'.put b.dst tm, by rw [astep_out, g1]; rfl, ?_, footB, foot_same sameA nx _ hp _⟩
    rw [astep_out, put_nx qb', aout_same (wanted_put bna) sameA, g2]
    simp only [Option.map_some, Option.some.injEq]
    rw [put_nx qa', put_nx qb]
    congr 1
    rw [put_comm (qa := qa) (qb := qb) dd (fun t e e' => anb t e (aout_clr hqb t e').2) (fun t e e' => bna t e (aout_clr hqa t e').2)]
    obtain ⟨v, o, c, n, p⟩ := qa; obtain ⟨v', o', c', n', p'⟩ := qa'
    obtain ⟨w, o1, c1, n1, p1⟩ := qb; obtain ⟨w', o1', c1', n1', p1'⟩ := qb'
    simp only at e1 e2 e3 e4 e5 e6
    subst e1 e2 e3 e4 e5 e6
    rfl
  rcases hm with hm | ⟨hr, hst⟩ | ⟨hr, hst⟩
  · simp only [Bool.and_eq_true, Bool.not_eq_true'] at hm
    obtain ⟨he1, he2⟩ := hm
    cases hea : effectful ro.mu kd.pure ops a with
    | false =>
      obtain ⟨e1, e2⟩ := aout_still hk hea hqa
      rw [e1, e2] at hqb
      cases hha : heapy kd.vl ro.mu a with
      | false =>
        obtain ⟨_, _, hl⟩ := aout_light hk hha hqa
        exact fin { qa with nx := qb.nx, hp := qb.hp } qb rfl rfl rfl rfl rfl rfl rfl rfl hqb (hl _ _)
      | true =>
        rw [hha] at he2
        simp only [Bool.true_and] at he2
        obtain ⟨e3, e4⟩ := aout_still hk he2 hqb
        exact fin qa qb rfl rfl rfl rfl rfl rfl (by rw [e1, e3]) (by rw [e2, e4]) hqb (by rw [e3, e4]; exact hqa)
    | true =>
      rw [hea] at he1
      simp only [Bool.true_and] at he1
      obtain ⟨e1, e2, hl⟩ := aout_light hk he1 hqb
      exact fin qa { qb with nx := nx, hp := hp } rfl rfl rfl rfl rfl rfl e1.symm e2.symm (hl _ _) hqa
  · obtain ⟨e1, e2⟩ := aout_still hk (rdr_still hr kd.pure) hqa
    rw [e1, e2] at hqb
    have hst' : Stay hp qb.hp (footAt a ⟨tm, nx, hp⟩) := fun id e => by
      have := hst id e
      rw [show (qa.put a.dst tm).hp = qa.hp from rfl, e2] at this
      exact this
    exact fin { qa with nx := qb.nx, hp := qb.hp } qb rfl rfl rfl rfl rfl rfl rfl rfl hqb (aout_read hk hr hqa hst' _)
  · obtain ⟨e1, e2⟩ := aout_still hk (rdr_still hr kd.pure) hqb
    have hst' : Stay (qa.put a.dst tm).hp hp (footAt b ⟨tm, (qa.put a.dst tm).nx, (qa.put a.dst tm).hp⟩) := fun id e => hst id (by rw [footB]; exact e)
    have := aout_read hk hr hqb hst' nx
    exact fin qa { qb with nx := nx, hp := hp } rfl rfl rfl rfl rfl rfl e1.symm e2.symm this hqa
end Go.Proofs.YtleimfinniclgaaDoor.M
