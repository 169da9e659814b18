/- The machine without a count of rounds: what code comes to, as equations. -/
import Derived.Test.YtleimfinniclgaaDoorMG
namespace Go.Proofs.YtleimfinniclgaaDoor.M
set_option linter.unusedVariables false

def CallF.le (a b : CallF) : Prop := ∀ f args ro nx hp r, a f args ro nx hp = some r → b f args ro nx hp = some r
theorem CallF.le.refl (a : CallF) : a.le a := fun _ _ _ _ _ _ h => h
section
variable {P : Program} {kd : Knd} {call call' : CallF}
theorem acall_mono (h : call.le call') (ro : Md) (c : Call) (ρ : Rho) (nx : Nat) (hp : Heap) {r : Out} (hr : acall P call ro c ρ nx hp = some r) : acall P call' ro c ρ nx hp = some r := by
  obtain ⟨callee, args, ts⟩ := c
  cases callee with
  | invoke a b => exact hr
  | builtin b => exact hr
  | value f =>
    simp only [acall] at hr ⊢
    cases hf : (ρ f).1 <;> rw [hf] at hr <;> first | exact hr | skip
    rename_i g fs cs
    simp only at hr ⊢
    cases hc : call g (fs ++ List.map (fun x => (ρ x).1) args.toList ++ cs) ro.lo nx hp with
    | none => rw [hc] at hr; cases hr
    | some q =>
      rw [hc] at hr
      rw [h _ _ _ _ _ _ hc]
      exact hr
theorem aeff_mono (h : call.le call') (ops : Array Oper) (ro : Md) (o : Oper) (ρ : Rho) (nx : Nat) (hp : Heap) {r : Out} (hr : aeff P call ops ro o ρ nx hp = some r) : aeff P call' ops ro o ρ nx hp = some r := by
  obtain ⟨dst, op, type, pos, after, guard⟩ := o
  cases op <;> first | exact hr | exact acall_mono h ro _ ρ nx hp hr
theorem astep_mono (h : call.le call') (ops : Array Oper) (ro : Md) (o : Oper) (s : St) {r : St} (hr : astep P call ops ro o s = some r) : astep P call' ops ro o s = some r := by
  unfold astep at hr ⊢
  cases hw : awanted ops s.tm o with
  | none => rw [hw] at hr; cases hr
  | some q =>
    rw [hw] at hr
    cases q with
    | false => exact hr
    | true =>
      simp only at hr ⊢
      cases ho : aeff P call ops ro o (ev s.tm) s.nx s.hp with
      | none => rw [ho] at hr; cases hr
      | some q => rw [ho] at hr; rw [aeff_mono h ops ro o _ _ _ ho]; exact hr
theorem aops_mono (h : call.le call') (ops : Array Oper) (ro : Md) : ∀ (l : List Oper) (s : St) {r : St}, aops P call ops ro l s = some r → aops P call' ops ro l s = some r := by
  intro l
  induction l with
  | nil => intro s r hr; exact hr
  | cons o l ih =>
    intro s r hr
    simp only [aops] at hr ⊢
    obtain ⟨s1, h1, h2⟩ := Option.bind_eq_some_iff.1 hr
    rw [astep_mono h ops ro o s h1]
    exact ih _ h2
theorem aopsD_mono (h : call.le call') (ops : Array Oper) (ro : Md) : ∀ (l : List (Oper × List Nat)) (j : Nat) (tr : List (Nat × Heap × Heap)) (fs : List (Nat × Option Nat)) (s : St) {r : St}, aopsD P call ops ro j l tr fs s = some r → aopsD P call' ops ro j l tr fs s = some r := by
  intro l
  induction l with
  | nil => intro j tr fs s r hr; exact hr
  | cons p l ih =>
    obtain ⟨o, q⟩ := p
    intro j tr fs s r hr
    simp only [aopsD] at hr ⊢
    cases h1 : astep P call ops ro o s with
    | none => rw [h1] at hr; cases hr
    | some s1 =>
      rw [h1] at hr
      rw [astep_mono h ops ro o s h1]
      simp only at hr ⊢
      split at hr
      · rename_i hd; rw [if_pos hd]
        split at hr
        · rename_i ht; rw [if_pos ht]; exact ih _ _ _ _ hr
        · cases hr
      · rename_i hd; rw [if_neg hd]
        split at hr
        · rename_i ht; rw [if_pos ht]; exact ih _ _ _ _ hr
        · cases hr
theorem areg_mono (h : call.le call') (ops : Array Oper) (ro : Md) (d : Bool) (s : St) {r : St} (hr : areg P kd call ops ro d s = some r) : areg P kd call' ops ro d s = some r := by
  unfold areg at hr ⊢
  split at hr
  · rename_i hd; rw [if_pos hd]
    cases hq : qOf kd ro.mu ops with
    | none => rw [hq] at hr; cases hr
    | some q => rw [hq] at hr; exact aopsD_mono h ops ro _ _ _ _ _ hr
  · rename_i hd; rw [if_neg hd]; exact aops_mono h ops ro _ s hr
theorem aexec_mono (h : call.le call') (ro : Md) : ∀ (n m : Nat) (c : Code) (s : St) {r : AExit × St}, n ≤ m → aexec P kd call ro n c s = some r → aexec P kd call' ro m c s = some r := by
  intro n
  induction n with
  | zero => intro m c s r _ hr; simp [aexec] at hr
  | succ n ih =>
    intro m c s r hm hr
    obtain ⟨m, rfl⟩ : ∃ k, m = k + 1 := ⟨m - 1, by omega⟩
    have hm' : n ≤ m := by omega
    cases c with
    | skip => exact hr
    | region id ops draw =>
      simp only [aexec] at hr ⊢
      cases ho : areg P kd call ops ro draw s with
      | none => rw [ho] at hr; cases hr
      | some q => rw [ho] at hr; rw [areg_mono h ops ro draw s ho]; exact hr
    | seq a b =>
      simp only [aexec] at hr ⊢
      cases ha : aexec P kd call ro n a s with
      | none => rw [ha] at hr; cases hr
      | some q =>
        rw [ha] at hr
        rw [ih m a s hm' ha]
        obtain ⟨x, s1⟩ := q
        cases x with
        | normal => exact ih m b s1 hm' hr
        | ret => exact hr
        | exit j => exact hr
    | cond c a b =>
      simp only [aexec] at hr ⊢
      cases hc : evv s.tm c <;> rw [hc] at hr <;> first | exact hr | skip
      simp only at hr ⊢
      split at hr
      · rename_i hq; rw [if_pos hq]; exact ih m a s hm' hr
      · rename_i hq; rw [if_neg hq]; exact ih m b s hm' hr
    | block id b =>
      simp only [aexec] at hr ⊢
      cases ha : aexec P kd call ro n b s with
      | none => rw [ha] at hr; cases hr
      | some q => rw [ha] at hr; rw [ih m b s hm' ha]; exact hr
    | loop b =>
      simp only [aexec] at hr ⊢
      cases ha : aexec P kd call ro n b s with
      | none => rw [ha] at hr; cases hr
      | some q =>
        rw [ha] at hr
        rw [ih m b s hm' ha]
        obtain ⟨x, s1⟩ := q
        cases x with
        | normal => exact ih m _ s1 hm' hr
        | ret => exact hr
        | exit j => exact hr
    | scope b => simp only [aexec] at hr ⊢; exact hr
    | exit id => exact hr
    | ret => exact hr
    | rangeFunc f ps a b => simp only [aexec] at hr ⊢; exact hr
    | label l => simp only [aexec] at hr ⊢; exact hr
    | goto l => simp only [aexec] at hr ⊢; exact hr
    | refuse w => simp only [aexec] at hr ⊢; exact hr
theorem abody_mono (h : call.le call') {n m : Nat} (hm : n ≤ m) (ro : Md) (fn : Func) (args : List AVal) (nx : Nat) (hp : Heap) {r : Res} (hr : abody P kd call n ro fn args nx hp = some r) : abody P kd call' m ro fn args nx hp = some r := by
  unfold abody at hr ⊢
  cases hb : fn.body with
  | none => rw [hb] at hr; cases hr
  | some c =>
    rw [hb] at hr
    simp only at hr ⊢
    cases ha : aexec P kd call ro n c { tm := args.map (·, false) ++ List.replicate (fn.ntmps - args.length) (.tup [], false), nx, hp } with
    | none => rw [ha] at hr; cases hr
    | some q => rw [ha] at hr; rw [aexec_mono h ro n m c _ hm ha]; exact hr
end

theorem mapO_mono {f g : AVal → Option AVal} (h : ∀ v u, f v = some u → g v = some u) : ∀ (l : List AVal) {us : List AVal}, mapO f l = some us → mapO g l = some us := by
  intro l
  induction l with
  | nil => intro us hu; exact hu
  | cons v l ih =>
    intro us hu
    simp only [mapO] at hu ⊢
    cases h1 : f v with
    | none => rw [h1] at hu; cases hu
    | some u =>
      cases h2 : mapO f l with
      | none => rw [h1, h2] at hu; cases hu
      | some r => rw [h1, h2] at hu; rw [h v u h1, ih h2]; exact hu
theorem fz_succ (lo : Nat) (hp : Heap) : ∀ (n : Nat) (v u : AVal), fz lo hp n v = some u → fz lo hp (n + 1) v = some u := by
  intro n
  induction n with
  | zero =>
    intro v u h
    simp only [fz] at h ⊢
    split at h
    · rename_i hl; rw [if_pos hl]; exact h
    · cases h
  | succ n ih =>
    intro v u h
    have e1 : fz lo hp (n + 1) v = if v.idsLt lo then some v else fzv lo hp (fz lo hp n) v := rfl
    have e2 : fz lo hp (n + 1 + 1) v = if v.idsLt lo then some v else fzv lo hp (fz lo hp (n + 1)) v := rfl
    rw [e1] at h
    rw [e2]
    split at h
    · rename_i hl; rw [if_pos hl]; exact h
    · rename_i hl
      rw [if_neg hl]
      clear e1 e2 hl
      unfold fzv at h ⊢
      cases v <;> (try simp only at h) <;> (try (cases h; done)) <;> simp only
      case agg cs =>
        obtain ⟨us, h1, rfl⟩ := Option.map_eq_some_iff.1 h
        rw [mapO_mono ih cs h1]; rfl
      case tup cs =>
        obtain ⟨us, h1, rfl⟩ := Option.map_eq_some_iff.1 h
        rw [mapO_mono ih cs h1]; rfl
      case sl id off len sz ag =>
        cases hg : hget hp id with
        | none => rw [hg] at h; cases h
        | some b =>
          rw [hg] at h
          cases b <;> (try simp only at h) <;> (try (cases h; done))
          simp only
          split at h
          · rename_i hc
            rw [if_pos hc]
            obtain ⟨us, h1, rfl⟩ := Option.map_eq_some_iff.1 h
            rw [mapO_mono ih _ h1]; rfl
          · cases h
theorem fz_mono {lo : Nat} {hp : Heap} {n m : Nat} (h : n ≤ m) {v u : AVal} (hu : fz lo hp n v = some u) : fz lo hp m v = some u := by
  induction h with
  | refl => exact hu
  | step _ ih => exact fz_succ lo hp _ v u ih

structure Cfg where
  P : Program
  pure : FuncId → Bool
  tidy : FuncId → Bool := fun _ => false
  mu : FuncId → List TypeId := fun _ => []
  val : FuncId → Bool := fun _ => false
  ext : CallF
/-- Calls that do not look at the heap. -/
def Cfg.vl (K : Cfg) (f : FuncId) : Bool := K.val f && K.pure f
def Cfg.kd (K : Cfg) (b : Bool) : Knd := ⟨K.pure, K.vl, b⟩
def lift (nx : Nat) (hp : Heap) : Option Res → Option Res
  | some r => some ⟨r.v, r.own, nx, hp⟩
  | none => none
/-- A call that does not look at the heap is run over none. -/
def vlc (K : Cfg) (f : FuncId) (args : List AVal) (ro nx : Nat) (hp : Heap) (g : Nat → Nat → Heap → Option Res) : Option Res := if K.vl f then (if idsLts 0 args then lift nx hp (g 0 0 []) else none) else g ro nx hp
def slOwn (nx : Nat) (r : Res) : Bool := r.own && r.v.idsLt nx
/-- Nothing is left of what the call has made but its value. -/
def sealed (n nx : Nat) (hp : Heap) : Option Res → Option Res
  | some r => match fz nx r.hp n r.v with
    | some u => if u.idsLt nx then some ⟨u, slOwn nx r, nx, hp⟩ else none
    | none => none
  | none => none
def tidied (n nx : Nat) : Option Res → Option Res
  | some r => match fz nx r.hp n r.v with
    | some u => if u.idsLt nx && hclean nx r.hp then some ⟨u, slOwn nx r, nx, hlow nx r.hp⟩ else none
    | none => none
  | none => none
def fin (K : Cfg) (n : Nat) (f : FuncId) (nx : Nat) (hp : Heap) (x : Option Res) : Option Res := if K.pure f then sealed n nx hp x else if K.tidy f then tidied n nx x else x
def core (K : Cfg) (f : FuncId) (args : List AVal) (ro nx : Nat) (hp : Heap) (y : Func → Option Res) : Option Res := match K.ext f args ro nx hp with
  | some r => some r
  | none => match K.P.funcs[f]? with
    | some fn => y fn
    | none => none
def low (K : Cfg) (f : FuncId) (ro nx : Nat) : Nat := if K.pure f then nx else ro
def arun (K : Cfg) : Nat → CallF
  | 0, f, args, ro, nx, hp => vlc K f args ro nx hp fun ro nx hp => fin K 0 f nx hp (K.ext f args (low K f ro nx) nx hp)
  | n + 1, f, args, ro, nx, hp => vlc K f args ro nx hp fun ro nx hp => fin K n f nx hp (core K f args (low K f ro nx) nx hp fun fn => abody K.P (K.kd false) (arun K n) n ⟨low K f ro nx, K.mu f⟩ fn args nx hp)
theorem lift_some {nx : Nat} {hp : Heap} {x y : Option Res} (h : ∀ r, x = some r → y = some r) {r : Res} (hr : lift nx hp x = some r) : lift nx hp y = some r := by
  cases x with
  | none => cases hr
  | some q => rw [h q rfl]; exact hr
theorem vlc_some {K : Cfg} {f : FuncId} {args : List AVal} {ro nx : Nat} {hp : Heap} {g g' : Nat → Nat → Heap → Option Res} (h : ∀ ro nx hp r, g ro nx hp = some r → g' ro nx hp = some r) {r : Res} (hr : vlc K f args ro nx hp g = some r) : vlc K f args ro nx hp g' = some r := by
  unfold vlc at hr ⊢
  split at hr
  · rename_i h1; rw [if_pos h1]
    split at hr
    · rename_i h2; rw [if_pos h2]; exact lift_some (h 0 0 []) hr
    · cases hr
  · rename_i h1; rw [if_neg h1]; exact h _ _ _ _ hr
theorem sealed_some {nx : Nat} {hp : Heap} {n m : Nat} (hn : n ≤ m) {x y : Option Res} (h : ∀ r, x = some r → y = some r) {r : Res} (hr : sealed n nx hp x = some r) : sealed m nx hp y = some r := by
  cases x with
  | none => cases hr
  | some q =>
    rw [h q rfl]
    simp only [sealed] at hr ⊢
    cases hf : fz nx q.hp n q.v with
    | none => rw [hf] at hr; cases hr
    | some u => rw [hf] at hr; rw [fz_mono hn hf]; exact hr
theorem tidied_some {nx : Nat} {n m : Nat} (hn : n ≤ m) {x y : Option Res} (h : ∀ r, x = some r → y = some r) {r : Res} (hr : tidied n nx x = some r) : tidied m nx y = some r := by
  cases x with
  | none => cases hr
  | some q =>
    rw [h q rfl]
    simp only [tidied] at hr ⊢
    cases hf : fz nx q.hp n q.v with
    | none => rw [hf] at hr; cases hr
    | some u => rw [hf] at hr; rw [fz_mono hn hf]; exact hr
theorem fin_some (K : Cfg) (f : FuncId) {nx : Nat} {hp : Heap} {n m : Nat} (hn : n ≤ m) {x y : Option Res} (h : ∀ r, x = some r → y = some r) {r : Res} (hr : fin K n f nx hp x = some r) : fin K m f nx hp y = some r := by
  unfold fin at hr ⊢
  split at hr
  · rename_i hp'; rw [if_pos hp']; exact sealed_some hn h hr
  · rename_i hp'
    rw [if_neg hp']
    split at hr
    · rename_i ht; rw [if_pos ht]; exact tidied_some hn h hr
    · rename_i ht; rw [if_neg ht]; exact h r hr
theorem core_some (K : Cfg) {f : FuncId} {args : List AVal} {ro nx : Nat} {hp : Heap} {y z : Func → Option Res} (h : ∀ fn r, y fn = some r → z fn = some r) {r : Res} (hr : core K f args ro nx hp y = some r) : core K f args ro nx hp z = some r := by
  unfold core at hr ⊢
  cases he : K.ext f args ro nx hp with
  | some q => rw [he] at hr; exact hr
  | none =>
    rw [he] at hr
    simp only at hr ⊢
    cases hf : K.P.funcs[f]? with
    | none => rw [hf] at hr; cases hr
    | some fn => rw [hf] at hr; exact h fn r hr
theorem arun_step (K : Cfg) {n m : Nat} (h : (arun K n).le (arun K m)) (hm : n ≤ m) : (arun K (n + 1)).le (arun K (m + 1)) := by
  intro f args ro nx hp r hr
  rw [arun] at hr ⊢
  exact vlc_some (fun ro nx hp r hr => fin_some K f hm (fun q hq => core_some K (fun fn r hr => abody_mono h hm _ _ _ _ _ hr) hq) hr) hr
theorem arun_succ (K : Cfg) (n : Nat) : (arun K n).le (arun K (n + 1)) := by
  induction n with
  | zero =>
    intro f args ro nx hp r hr
    rw [arun.eq_def] at hr
    rw [arun.eq_def]
    simp only at hr ⊢
    exact vlc_some (fun ro nx hp r hr => fin_some K f (Nat.le_refl 0) (fun q hq => by unfold core; rw [hq]) hr) hr
  | succ n ih => exact arun_step K ih (Nat.le_succ n)
theorem arun_le (K : Cfg) {n m : Nat} (h : n ≤ m) : (arun K n).le (arun K m) := by
  induction h with
  | refl => exact CallF.le.refl _
  | step _ ih => exact fun f args ro nx hp r hr => arun_succ K _ f args ro nx hp r (ih f args ro nx hp r hr)

open Classical in
/-- What a call comes to, however many rounds it takes. -/
noncomputable def R (K : Cfg) : CallF := fun f args ro nx hp => if h : ∃ r, ∃ n, arun K n f args ro nx hp = some r then some (Classical.choose h) else none
theorem R_iff {K : Cfg} {f : FuncId} {args : List AVal} {ro nx : Nat} {hp : Heap} {r : Res} : R K f args ro nx hp = some r ↔ ∃ n, arun K n f args ro nx hp = some r := by
  unfold R
  constructor
  · intro h
    split at h
    · rename_i hx
      injection h with h; subst h
      exact Classical.choose_spec hx
    · cases h
  · rintro ⟨n, hn⟩
    have hx : ∃ r, ∃ n, arun K n f args ro nx hp = some r := ⟨r, n, hn⟩
    rw [dif_pos hx]
    obtain ⟨m, hm⟩ := Classical.choose_spec hx
    have h1 := arun_le K (Nat.le_max_left n m) _ _ _ _ _ _ hn
    have h2 := arun_le K (Nat.le_max_right n m) _ _ _ _ _ _ hm
    rw [h1] at h2
    exact h2.symm
theorem arun_R (K : Cfg) (n : Nat) : (arun K n).le (R K) := fun f args ro nx hp r h => R_iff.2 ⟨n, h⟩
open Classical in
/-- What code comes to. -/
noncomputable def XX (sl : Bool) (K : Cfg) (ro : Md) (c : Code) (s : St) : Option (AExit × St) := if h : ∃ r, ∃ n, aexec K.P (K.kd sl) (R K) ro n c s = some r then some (Classical.choose h) else none
theorem XX_iff {sl : Bool} {K : Cfg} {ro : Md} {c : Code} {s : St} {r : AExit × St} : XX sl K ro c s = some r ↔ ∃ n, aexec K.P (K.kd sl) (R K) ro n c s = some r := by
  unfold XX
  constructor
  · intro h
    split at h
    · rename_i hx
      injection h with h; subst h
      exact Classical.choose_spec hx
    · cases h
  · rintro ⟨n, hn⟩
    have hx : ∃ r, ∃ n, aexec K.P (K.kd sl) (R K) ro n c s = some r := ⟨r, n, hn⟩
    rw [dif_pos hx]
    obtain ⟨m, hm⟩ := Classical.choose_spec hx
    have h1 := aexec_mono (CallF.le.refl (R K)) ro _ _ c s (Nat.le_max_left n m) hn
    have h2 := aexec_mono (CallF.le.refl (R K)) ro _ _ c s (Nat.le_max_right n m) hm
    rw [h1] at h2
    exact h2.symm
theorem opt_ext {α : Type} {a b : Option α} (h : ∀ r, a = some r ↔ b = some r) : a = b := Option.ext h
section
variable (sl : Bool) (K : Cfg) (ro : Md) (s : St)
/-- One step: what holds with one more round. -/
theorem XX_of {c : Code} {y : Option (AExit × St)} (h1 : ∀ n r, aexec K.P (K.kd sl) (R K) ro (n + 1) c s = some r → y = some r) (h2 : ∀ r, y = some r → ∃ n, aexec K.P (K.kd sl) (R K) ro n c s = some r) : XX sl K ro c s = y := by
  refine opt_ext fun r => ⟨fun h => ?_, fun h => XX_iff.2 (h2 r h)⟩
  obtain ⟨n, hn⟩ := XX_iff.1 h
  exact h1 n r (aexec_mono (CallF.le.refl _) ro n (n + 1) c s (Nat.le_succ n) hn)
theorem XX_skip : XX sl K ro .skip s = some (.normal, s) := XX_of sl K ro s (fun n r h => h) fun r h => ⟨1, h⟩
theorem XX_exit (id : Nat) : XX sl K ro (.exit id) s = some (.exit id, s) := XX_of sl K ro s (fun n r h => h) fun r h => ⟨1, h⟩
theorem XX_ret : XX sl K ro .ret s = some (.ret, s) := XX_of sl K ro s (fun n r h => h) fun r h => ⟨1, h⟩
theorem XX_region (id : Nat) (ops : Array Oper) (d : Bool) : XX sl K ro (.region id ops d) s = (areg K.P (K.kd sl) (R K) ops ro d s).map fun s => (.normal, s) :=
  XX_of sl K ro s (fun n r h => h) fun r h => ⟨1, h⟩
theorem XX_seq (a b : Code) : XX sl K ro (.seq a b) s = match XX sl K ro a s with | some (.normal, s) => XX sl K ro b s | r => r := by
  refine XX_of sl K ro s (fun n r h => ?_) fun r h => ?_
  · simp only [aexec] at h
    cases ha : aexec K.P (K.kd sl) (R K) ro n a s with
    | none => rw [ha] at h; cases h
    | some q =>
      rw [ha] at h
      rw [XX_iff.2 ⟨n, ha⟩]
      obtain ⟨x, s1⟩ := q
      cases x with
      | normal => exact XX_iff.2 ⟨n, h⟩
      | ret => exact h
      | exit j => exact h
  · cases ha : XX sl K ro a s with
    | none => rw [ha] at h; cases h
    | some q =>
      rw [ha] at h
      obtain ⟨n, hn⟩ := XX_iff.1 ha
      obtain ⟨x, s1⟩ := q
      cases x with
      | normal =>
        obtain ⟨m, hm⟩ := XX_iff.1 h
        refine ⟨max n m + 1, ?_⟩
        simp only [aexec]
        rw [aexec_mono (CallF.le.refl _) ro n _ a s (Nat.le_max_left n m) hn]
        exact aexec_mono (CallF.le.refl _) ro m _ b s1 (Nat.le_max_right n m) hm
      | ret => exact ⟨n + 1, by simp only [aexec]; rw [hn]; exact h⟩
      | exit j => exact ⟨n + 1, by simp only [aexec]; rw [hn]; exact h⟩
theorem XX_cond (c : Operand) (a b : Code) : XX sl K ro (.cond c a b) s = match evv s.tm c with | .bool q => if q then XX sl K ro a s else XX sl K ro b s | _ => none := by
  refine XX_of sl K ro s (fun n r h => ?_) fun r h => ?_
  · simp only [aexec] at h
    cases hc : evv s.tm c <;> rw [hc] at h <;> first | (cases h; done) | skip
    simp only at h ⊢
    split at h
    · rename_i hq; rw [if_pos hq]; exact XX_iff.2 ⟨n, h⟩
    · rename_i hq; rw [if_neg hq]; exact XX_iff.2 ⟨n, h⟩
  · cases hc : evv s.tm c <;> rw [hc] at h <;> first | (cases h; done) | skip
    simp only at h
    split at h
    · rename_i hq
      obtain ⟨n, hn⟩ := XX_iff.1 h
      exact ⟨n + 1, by simp only [aexec]; rw [hc]; simp only; rw [if_pos hq]; exact hn⟩
    · rename_i hq
      obtain ⟨n, hn⟩ := XX_iff.1 h
      exact ⟨n + 1, by simp only [aexec]; rw [hc]; simp only; rw [if_neg hq]; exact hn⟩
theorem XX_block (id : Nat) (b : Code) : XX sl K ro (.block id b) s = match XX sl K ro b s with | some (.exit j, s) => if j = id then some (.normal, s) else some (.exit j, s) | r => r := by
  refine XX_of sl K ro s (fun n r h => ?_) fun r h => ?_
  · simp only [aexec] at h
    cases ha : aexec K.P (K.kd sl) (R K) ro n b s with
    | none => rw [ha] at h; cases h
    | some q => rw [ha] at h; rw [XX_iff.2 ⟨n, ha⟩]; exact h
  · cases ha : XX sl K ro b s with
    | none => rw [ha] at h; cases h
    | some q =>
      rw [ha] at h
      obtain ⟨n, hn⟩ := XX_iff.1 ha
      exact ⟨n + 1, by simp only [aexec]; rw [hn]; exact h⟩
theorem XX_loop (b : Code) : XX sl K ro (.loop b) s = match XX sl K ro b s with | some (.normal, s) => XX sl K ro (.loop b) s | r => r := by
  refine XX_of sl K ro s (fun n r h => ?_) fun r h => ?_
  · simp only [aexec] at h
    cases ha : aexec K.P (K.kd sl) (R K) ro n b s with
    | none => rw [ha] at h; cases h
    | some q =>
      rw [ha] at h
      rw [XX_iff.2 ⟨n, ha⟩]
      obtain ⟨x, s1⟩ := q
      cases x with
      | normal => exact XX_iff.2 ⟨n, h⟩
      | ret => exact h
      | exit j => exact h
  · cases ha : XX sl K ro b s with
    | none => rw [ha] at h; cases h
    | some q =>
      rw [ha] at h
      obtain ⟨n, hn⟩ := XX_iff.1 ha
      obtain ⟨x, s1⟩ := q
      cases x with
      | normal =>
        obtain ⟨m, hm⟩ := XX_iff.1 h
        refine ⟨max n m + 1, ?_⟩
        simp only [aexec]
        rw [aexec_mono (CallF.le.refl _) ro n _ b s (Nat.le_max_left n m) hn]
        exact aexec_mono (CallF.le.refl _) ro m _ _ s1 (Nat.le_max_right n m) hm
      | ret => exact ⟨n + 1, by simp only [aexec]; rw [hn]; exact h⟩
      | exit j => exact ⟨n + 1, by simp only [aexec]; rw [hn]; exact h⟩
end
/-- What code comes to that has been made slim. -/
noncomputable def X (K : Cfg) (ro : Md) (c : Code) (s : St) : Option (AExit × St) := XX true K ro c s
theorem X_iff {K : Cfg} {ro : Md} {c : Code} {s : St} {r : AExit × St} : X K ro c s = some r ↔ ∃ n, aexec K.P (K.kd true) (R K) ro n c s = some r := XX_iff
section
variable (K : Cfg) (ro : Md) (s : St)
theorem X_skip : X K ro .skip s = some (.normal, s) := XX_skip true K ro s
theorem X_exit (id : Nat) : X K ro (.exit id) s = some (.exit id, s) := XX_exit true K ro s id
theorem X_ret : X K ro .ret s = some (.ret, s) := XX_ret true K ro s
theorem X_region (id : Nat) (ops : Array Oper) (d : Bool) : X K ro (.region id ops d) s = (areg K.P (K.kd true) (R K) ops ro d s).map fun s => (.normal, s) := XX_region true K ro s id ops d
theorem X_seq (a b : Code) : X K ro (.seq a b) s = match X K ro a s with | some (.normal, s) => X K ro b s | r => r := XX_seq true K ro s a b
theorem X_cond (c : Operand) (a b : Code) : X K ro (.cond c a b) s = match evv s.tm c with | .bool q => if q then X K ro a s else X K ro b s | _ => none := XX_cond true K ro s c a b
theorem X_block (id : Nat) (b : Code) : X K ro (.block id b) s = match X K ro b s with | some (.exit j, s) => if j = id then some (.normal, s) else some (.exit j, s) | r => r := XX_block true K ro s id b
theorem X_loop (b : Code) : X K ro (.loop b) s = match X K ro b s with | some (.normal, s) => X K ro (.loop b) s | r => r := XX_loop true K ro s b
end
/-- A function's body. -/
noncomputable def XB (K : Cfg) (ro : Md) (fn : Func) (args : List AVal) (nx : Nat) (hp : Heap) : Option Res :=
  match fn.body with
  | some c => match XX false K ro c { tm := args.map (·, false) ++ List.replicate (fn.ntmps - args.length) (.tup [], false), nx, hp } with
    | some (.normal, s) | some (.ret, s) => (aresults K.P fn.results.toList s).map fun (v, own) => ⟨v, own, s.nx, s.hp⟩
    | _ => none
  | none => none
section
variable {K : Cfg}
theorem acall_cont (ro : Md) (c : Call) (ρ : Rho) (nx : Nat) (hp : Heap) {r : Out} (hr : acall K.P (R K) ro c ρ nx hp = some r) : ∃ m, acall K.P (arun K m) ro c ρ nx hp = some r := by
  obtain ⟨callee, args, ts⟩ := c
  cases callee with
  | invoke a b => exact ⟨0, hr⟩
  | builtin b => exact ⟨0, hr⟩
  | value f =>
    simp only [acall] at hr ⊢
    cases hf : (ρ f).1 <;> rw [hf] at hr <;> first | exact ⟨0, hr⟩ | skip
    rename_i g fs cs
    simp only at hr ⊢
    cases hc : R K g (fs ++ List.map (fun x => (ρ x).1) args.toList ++ cs) ro.lo nx hp with
    | none => rw [hc] at hr; cases hr
    | some q =>
      rw [hc] at hr
      obtain ⟨m, hm⟩ := R_iff.1 hc
      exact ⟨m, by rw [hm]; exact hr⟩
theorem aeff_cont (ops : Array Oper) (ro : Md) (o : Oper) (ρ : Rho) (nx : Nat) (hp : Heap) {r : Out} (hr : aeff K.P (R K) ops ro o ρ nx hp = some r) : ∃ m, aeff K.P (arun K m) ops ro o ρ nx hp = some r := by
  obtain ⟨dst, op, type, pos, after, guard⟩ := o
  cases op <;> first | exact ⟨0, hr⟩ | exact acall_cont ro _ ρ nx hp hr
theorem astep_cont (ops : Array Oper) (ro : Md) (o : Oper) (s : St) {r : St} (hr : astep K.P (R K) ops ro o s = some r) : ∃ m, astep K.P (arun K m) ops ro o s = some r := by
  unfold astep at hr ⊢
  cases hw : awanted ops s.tm o with
  | none => rw [hw] at hr; cases hr
  | some q =>
    rw [hw] at hr
    cases q with
    | false => exact ⟨0, hr⟩
    | true =>
      simp only at hr ⊢
      cases ho : aeff K.P (R K) ops ro o (ev s.tm) s.nx s.hp with
      | none => rw [ho] at hr; cases hr
      | some q =>
        rw [ho] at hr
        obtain ⟨m, hm⟩ := aeff_cont ops ro o _ _ _ ho
        exact ⟨m, by rw [hm]; exact hr⟩
theorem aops_cont (ops : Array Oper) (ro : Md) : ∀ (l : List Oper) (s : St) {r : St}, aops K.P (R K) ops ro l s = some r → ∃ m, aops K.P (arun K m) ops ro l s = some r := by
  intro l
  induction l with
  | nil => intro s r hr; exact ⟨0, hr⟩
  | cons o l ih =>
    intro s r hr
    simp only [aops] at hr
    obtain ⟨s1, h1, h2⟩ := Option.bind_eq_some_iff.1 hr
    obtain ⟨m1, h1⟩ := astep_cont ops ro o s h1
    obtain ⟨m2, h2⟩ := ih _ h2
    refine ⟨max m1 m2, ?_⟩
    simp only [aops]
    rw [astep_mono (arun_le K (Nat.le_max_left m1 m2)) ops ro o s h1]
    exact aops_mono (arun_le K (Nat.le_max_right m1 m2)) ops ro l _ h2
theorem aopsD_cont (ops : Array Oper) (ro : Md) : ∀ (l : List (Oper × List Nat)) (j : Nat) (tr : List (Nat × Heap × Heap)) (fs : List (Nat × Option Nat)) (s : St) {r : St}, aopsD K.P (R K) ops ro j l tr fs s = some r → ∃ m, aopsD K.P (arun K m) ops ro j l tr fs s = some r := by
  intro l
  induction l with
  | nil => intro j tr fs s r hr; exact ⟨0, hr⟩
  | cons p l ih =>
    obtain ⟨o, q⟩ := p
    intro j tr fs s r hr
    simp only [aopsD] at hr
    cases h1 : astep K.P (R K) ops ro o s with
    | none => rw [h1] at hr; cases hr
    | some s1 =>
      rw [h1] at hr
      obtain ⟨m1, h1⟩ := astep_cont ops ro o s h1
      simp only at hr
      split at hr
      · rename_i hd
        split at hr
        · rename_i ht
          obtain ⟨m2, h2⟩ := ih _ _ _ _ hr
          refine ⟨max m1 m2, ?_⟩
          simp only [aopsD]
          rw [astep_mono (arun_le K (Nat.le_max_left m1 m2)) ops ro o s h1]
          simp only
          rw [if_pos hd, if_pos ht]
          exact aopsD_mono (arun_le K (Nat.le_max_right m1 m2)) ops ro l _ _ _ _ h2
        · cases hr
      · rename_i hd
        split at hr
        · rename_i ht
          obtain ⟨m2, h2⟩ := ih _ _ _ _ hr
          refine ⟨max m1 m2, ?_⟩
          simp only [aopsD]
          rw [astep_mono (arun_le K (Nat.le_max_left m1 m2)) ops ro o s h1]
          simp only
          rw [if_neg hd, if_pos ht]
          exact aopsD_mono (arun_le K (Nat.le_max_right m1 m2)) ops ro l _ _ _ _ h2
        · cases hr
theorem areg_cont (kd : Knd) (ops : Array Oper) (ro : Md) (d : Bool) (s : St) {r : St} (hr : areg K.P kd (R K) ops ro d s = some r) : ∃ m, areg K.P kd (arun K m) ops ro d s = some r := by
  unfold areg at hr ⊢
  split at hr
  · rename_i hd; simp only [hd, if_true]
    cases hq : qOf kd ro.mu ops with
    | none => rw [hq] at hr; cases hr
    | some q => rw [hq] at hr; exact aopsD_cont ops ro _ _ _ _ _ hr
  · rename_i hd
    obtain ⟨m, hm⟩ := aops_cont ops ro _ s hr
    exact ⟨m, by rw [if_neg hd]; exact hm⟩
theorem aexec_cont (sl : Bool) (ro : Md) : ∀ (n : Nat) (c : Code) (s : St) {r : AExit × St}, aexec K.P (K.kd sl) (R K) ro n c s = some r → ∃ m, aexec K.P (K.kd sl) (arun K m) ro n c s = some r := by
  intro n
  induction n with
  | zero => intro c s r hr; simp [aexec] at hr
  | succ n ih =>
    intro c s r hr
    have two : ∀ (a b : Code) (s s1 : St) (x : AExit) (r : AExit × St), aexec K.P (K.kd sl) (R K) ro n a s = some (x, s1) → aexec K.P (K.kd sl) (R K) ro n b s1 = some r → ∃ m, aexec K.P (K.kd sl) (arun K m) ro n a s = some (x, s1) ∧ aexec K.P (K.kd sl) (arun K m) ro n b s1 = some r := by
      intro a b s s1 x r h1 h2
      obtain ⟨m1, h1⟩ := ih a s h1
      obtain ⟨m2, h2⟩ := ih b s1 h2
      exact ⟨max m1 m2, aexec_mono (arun_le K (Nat.le_max_left m1 m2)) ro n n a s (Nat.le_refl _) h1, aexec_mono (arun_le K (Nat.le_max_right m1 m2)) ro n n b s1 (Nat.le_refl _) h2⟩
    cases c with
    | skip => exact ⟨0, hr⟩
    | region id ops d =>
      simp only [aexec] at hr ⊢
      cases ho : areg K.P (K.kd sl) (R K) ops ro d s with
      | none => rw [ho] at hr; cases hr
      | some q => rw [ho] at hr; obtain ⟨m, hm⟩ := areg_cont _ ops ro d s ho; exact ⟨m, by rw [hm]; exact hr⟩
    | seq a b =>
      simp only [aexec] at hr ⊢
      cases ha : aexec K.P (K.kd sl) (R K) ro n a s with
      | none => rw [ha] at hr; cases hr
      | some q =>
        rw [ha] at hr
        obtain ⟨x, s1⟩ := q
        cases x with
        | normal => obtain ⟨m, h1, h2⟩ := two a b s s1 _ r ha hr; exact ⟨m, by rw [h1]; exact h2⟩
        | ret => obtain ⟨m, h1⟩ := ih a s ha; exact ⟨m, by rw [h1]; exact hr⟩
        | exit j => obtain ⟨m, h1⟩ := ih a s ha; exact ⟨m, by rw [h1]; exact hr⟩
    | cond c a b =>
      simp only [aexec] at hr ⊢
      cases hc : evv s.tm c <;> rw [hc] at hr <;> first | (cases hr; done) | skip
      simp only at hr ⊢
      split at hr
      · rename_i hq; obtain ⟨m, hm⟩ := ih a s hr; exact ⟨m, by rw [if_pos hq]; exact hm⟩
      · rename_i hq; obtain ⟨m, hm⟩ := ih b s hr; exact ⟨m, by rw [if_neg hq]; exact hm⟩
    | block id b =>
      simp only [aexec] at hr ⊢
      cases ha : aexec K.P (K.kd sl) (R K) ro n b s with
      | none => rw [ha] at hr; cases hr
      | some q => rw [ha] at hr; obtain ⟨m, h1⟩ := ih b s ha; exact ⟨m, by rw [h1]; exact hr⟩
    | loop b =>
      simp only [aexec] at hr ⊢
      cases ha : aexec K.P (K.kd sl) (R K) ro n b s with
      | none => rw [ha] at hr; cases hr
      | some q =>
        rw [ha] at hr
        obtain ⟨x, s1⟩ := q
        cases x with
        | normal => obtain ⟨m, h1, h2⟩ := two b _ s s1 _ r ha hr; exact ⟨m, by rw [h1]; exact h2⟩
        | ret => obtain ⟨m, h1⟩ := ih b s ha; exact ⟨m, by rw [h1]; exact hr⟩
        | exit j => obtain ⟨m, h1⟩ := ih b s ha; exact ⟨m, by rw [h1]; exact hr⟩
    | exit id => exact ⟨0, hr⟩
    | ret => exact ⟨0, hr⟩
    | scope b => simp only [aexec] at hr; cases hr
    | rangeFunc f ps a b => simp only [aexec] at hr; cases hr
    | label l => simp only [aexec] at hr; cases hr
    | goto l => simp only [aexec] at hr; cases hr
    | refuse w => simp only [aexec] at hr; cases hr
theorem XB_iff {ro : Md} {fn : Func} {args : List AVal} {nx : Nat} {hp : Heap} {r : Res} : XB K ro fn args nx hp = some r ↔ ∃ n, abody K.P (K.kd false) (R K) n ro fn args nx hp = some r := by
  unfold XB abody
  cases hb : fn.body with
  | none => simp
  | some c =>
    simp only
    constructor
    · intro h
      cases ha : XX false K ro c { tm := args.map (·, false) ++ List.replicate (fn.ntmps - args.length) (.tup [], false), nx, hp } with
      | none => rw [ha] at h; cases h
      | some q => rw [ha] at h; obtain ⟨n, hn⟩ := XX_iff.1 ha; exact ⟨n, by rw [hn]; exact h⟩
    · rintro ⟨n, h⟩
      cases ha : aexec K.P (K.kd false) (R K) ro n c { tm := args.map (·, false) ++ List.replicate (fn.ntmps - args.length) (.tup [], false), nx, hp } with
      | none => rw [ha] at h; cases h
      | some q => rw [ha] at h; rw [XX_iff.2 ⟨n, ha⟩]; exact h
theorem XB_arun {ro : Md} {fn : Func} {args : List AVal} {nx : Nat} {hp : Heap} {r : Res} : XB K ro fn args nx hp = some r ↔ ∃ n, abody K.P (K.kd false) (arun K n) n ro fn args nx hp = some r := by
  rw [XB_iff]
  constructor
  · rintro ⟨n, h⟩
    unfold abody at h
    cases hb : fn.body with
    | none => rw [hb] at h; cases h
    | some c =>
      rw [hb] at h
      simp only at h
      cases ha : aexec K.P (K.kd false) (R K) ro n c { tm := args.map (·, false) ++ List.replicate (fn.ntmps - args.length) (.tup [], false), nx, hp } with
      | none => rw [ha] at h; cases h
      | some q =>
        rw [ha] at h
        obtain ⟨m, hm⟩ := aexec_cont false ro n c _ ha
        refine ⟨max n m, abody_mono (arun_le K (Nat.le_max_right n m)) (Nat.le_max_left n m) ro fn args nx hp ?_⟩
        unfold abody
        rw [hb]
        simp only
        rw [hm]
        exact h
  · rintro ⟨n, h⟩
    exact ⟨n, abody_mono (arun_R K n) (Nat.le_refl n) ro fn args nx hp h⟩
open Classical in
/-- A value, frozen. -/
noncomputable def FZ (lo : Nat) (hp : Heap) (v : AVal) : Option AVal := if h : ∃ u, ∃ n, fz lo hp n v = some u then some (Classical.choose h) else none
theorem FZ_iff {lo : Nat} {hp : Heap} {v u : AVal} : FZ lo hp v = some u ↔ ∃ n, fz lo hp n v = some u := by
  unfold FZ
  constructor
  · intro h
    split at h
    · rename_i hx
      injection h with h; subst h
      exact Classical.choose_spec hx
    · cases h
  · rintro ⟨n, hn⟩
    have hx : ∃ u, ∃ n, fz lo hp n v = some u := ⟨u, n, hn⟩
    rw [dif_pos hx]
    obtain ⟨m, hm⟩ := Classical.choose_spec hx
    have h1 := fz_mono (Nat.le_max_left n m) hn
    have h2 := fz_mono (Nat.le_max_right n m) hm
    rw [h1] at h2
    exact h2.symm
noncomputable def Sealed (nx : Nat) (hp : Heap) : Option Res → Option Res
  | some r => match FZ nx r.hp r.v with
    | some u => if u.idsLt nx then some ⟨u, slOwn nx r, nx, hp⟩ else none
    | none => none
  | none => none
noncomputable def Tidied (nx : Nat) : Option Res → Option Res
  | some r => match FZ nx r.hp r.v with
    | some u => if u.idsLt nx && hclean nx r.hp then some ⟨u, slOwn nx r, nx, hlow nx r.hp⟩ else none
    | none => none
  | none => none
noncomputable def Fin (K : Cfg) (f : FuncId) (nx : Nat) (hp : Heap) (x : Option Res) : Option Res := if K.pure f then Sealed nx hp x else if K.tidy f then Tidied nx x else x
theorem Sealed_iff {nx : Nat} {hp : Heap} {x : Option Res} {r : Res} : Sealed nx hp x = some r ↔ ∃ n, sealed n nx hp x = some r := by
  cases x with
  | none => exact ⟨fun h => (by cases h), fun ⟨_, h⟩ => (by cases h)⟩
  | some q =>
    simp only [Sealed, sealed]
    constructor
    · intro h
      cases hf : FZ nx q.hp q.v with
      | none => rw [hf] at h; cases h
      | some u => rw [hf] at h; obtain ⟨n, hn⟩ := FZ_iff.1 hf; exact ⟨n, by rw [hn]; exact h⟩
    · rintro ⟨n, h⟩
      cases hf : fz nx q.hp n q.v with
      | none => rw [hf] at h; cases h
      | some u => rw [hf] at h; rw [FZ_iff.2 ⟨n, hf⟩]; exact h
theorem Tidied_iff {nx : Nat} {x : Option Res} {r : Res} : Tidied nx x = some r ↔ ∃ n, tidied n nx x = some r := by
  cases x with
  | none => exact ⟨fun h => (by cases h), fun ⟨_, h⟩ => (by cases h)⟩
  | some q =>
    simp only [Tidied, tidied]
    constructor
    · intro h
      cases hf : FZ nx q.hp q.v with
      | none => rw [hf] at h; cases h
      | some u => rw [hf] at h; obtain ⟨n, hn⟩ := FZ_iff.1 hf; exact ⟨n, by rw [hn]; exact h⟩
    · rintro ⟨n, h⟩
      cases hf : fz nx q.hp n q.v with
      | none => rw [hf] at h; cases h
      | some u => rw [hf] at h; rw [FZ_iff.2 ⟨n, hf⟩]; exact h
theorem Fin_iff {f : FuncId} {nx : Nat} {hp : Heap} {x : Option Res} {r : Res} : Fin K f nx hp x = some r ↔ ∃ n, fin K n f nx hp x = some r := by
  unfold Fin fin
  split
  · exact Sealed_iff
  · split
    · exact Tidied_iff
    · exact ⟨fun h => ⟨0, h⟩, fun ⟨_, h⟩ => h⟩
theorem R_eq (f : FuncId) (args : List AVal) (ro nx : Nat) (hp : Heap) : R K f args ro nx hp = vlc K f args ro nx hp fun ro nx hp => Fin K f nx hp (core K f args (low K f ro nx) nx hp fun fn => XB K ⟨low K f ro nx, K.mu f⟩ fn args nx hp) := by
  have key : ∀ (ro nx : Nat) (hp : Heap) (r : Res), Fin K f nx hp (core K f args (low K f ro nx) nx hp fun fn => XB K ⟨low K f ro nx, K.mu f⟩ fn args nx hp) = some r → ∃ n, fin K n f nx hp (core K f args (low K f ro nx) nx hp fun fn => abody K.P (K.kd false) (arun K n) n ⟨low K f ro nx, K.mu f⟩ fn args nx hp) = some r := by
    intro ro nx hp r h
    obtain ⟨n, hn⟩ := Fin_iff.1 h
    generalize hx : core K f args (low K f ro nx) nx hp (fun fn => XB K ⟨low K f ro nx, K.mu f⟩ fn args nx hp) = x at hn
    cases x with
    | none => exact ⟨0, by
        have : fin K 0 f nx hp none = fin K n f nx hp none := by unfold fin sealed tidied; rfl
        have h2 : core K f args (low K f ro nx) nx hp (fun fn => abody K.P (K.kd false) (arun K 0) 0 ⟨low K f ro nx, K.mu f⟩ fn args nx hp) = none := by
          cases hc : core K f args (low K f ro nx) nx hp (fun fn => abody K.P (K.kd false) (arun K 0) 0 ⟨low K f ro nx, K.mu f⟩ fn args nx hp) with
          | none => rfl
          | some q => rw [core_some K (fun fn r hr => XB_arun.2 ⟨0, hr⟩) hc] at hx; cases hx
        rw [h2, this]; exact hn⟩
    | some q =>
      have : ∃ m, core K f args (low K f ro nx) nx hp (fun fn => abody K.P (K.kd false) (arun K m) m ⟨low K f ro nx, K.mu f⟩ fn args nx hp) = some q := by
        unfold core at hx ⊢
        cases he : K.ext f args (low K f ro nx) nx hp with
        | some q' => rw [he] at hx; exact ⟨0, hx⟩
        | none =>
          rw [he] at hx
          simp only at hx ⊢
          cases hf : K.P.funcs[f]? with
          | none => rw [hf] at hx; cases hx
          | some fn => rw [hf] at hx; exact XB_arun.1 hx
      obtain ⟨m, hm⟩ := this
      refine ⟨max n m, ?_⟩
      exact fin_some K f (Nat.le_max_left n m) (fun q' hq' => by
        injection hq' with hq'; subst hq'
        exact core_some K (fun fn r hr => abody_mono (arun_le K (Nat.le_max_right n m)) (Nat.le_max_right n m) _ _ _ _ _ hr) hm) hn
  refine opt_ext fun r => ?_
  rw [R_iff]
  constructor
  · rintro ⟨n, hn⟩
    have hn := arun_succ K n _ _ _ _ _ _ hn
    rw [arun] at hn
    exact vlc_some (fun ro nx hp r hr => Fin_iff.2 ⟨n, fin_some K f (Nat.le_refl n) (fun q hq => core_some K (fun fn r hr => XB_arun.2 ⟨n, hr⟩) hq) hr⟩) hn
  · intro h
    unfold vlc at h
    split at h
    · rename_i h1
      split at h
      · rename_i h2
        dsimp only at h
        cases hG : Fin K f 0 [] (core K f args (low K f 0 0) 0 [] fun fn => XB K ⟨low K f 0 0, K.mu f⟩ fn args 0 []) with
        | none => rw [hG] at h; cases h
        | some q =>
          rw [hG] at h
          obtain ⟨n, hn⟩ := key 0 0 [] q hG
          exact ⟨n + 1, by rw [arun]; unfold vlc; rw [if_pos h1, if_pos h2]; dsimp only; rw [hn]; exact h⟩
      · cases h
    · rename_i h1
      obtain ⟨n, hn⟩ := key ro nx hp r h
      exact ⟨n + 1, by rw [arun]; unfold vlc; rw [if_neg h1]; exact hn⟩
end
end Go.Proofs.YtleimfinniclgaaDoor.M
