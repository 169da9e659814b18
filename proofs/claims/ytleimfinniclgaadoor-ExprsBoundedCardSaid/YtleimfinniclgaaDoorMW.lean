/- Contracts that were shown elsewhere, as calls of the machine. -/
import Derived.Test.YtleimfinniclgaaDoorMZ
namespace Go.Proofs.YtleimfinniclgaaDoor.M
open Go.RowKit
set_option linter.unusedVariables false

section
variable {P : Program} {C : Cx} {B : Nat} {F : Nat → Nat → Prop} {w0 : World} {hp : Heap}
/-- A call that leaves all old blocks as they were, and answers with something that a stands for. -/
theorem ans_below (h : WRel C B F w0 hp [] #[]) {f : FuncId} {fn : Func} {c : Code} (hf : P.funcs[f]? = some fn) (hb : fn.body = some c) (hname : fn.name ≠ "runtime.NumGoroutine") {vs : List Value} {a : AVal}
    (hc : Calls P f vs.toArray C.w fun e w' => ∃ v, e = .returned v ∧ Below C.w.heap.size C.w w' ∧ ∀ D : Cx, C.Le D → D.w = w' → RV D a v) : Ans P f vs.toArray C.w (Left C B F w0 ⟨a, false, C.nx, hp⟩) := by
  intro o act next Q hn
  have hcf : (callFunc f vs.toArray).run P C.w = .ok (.enter f vs.toArray) C.w := by simp [callFunc, hf, hname, hb]
  rw [hcf]
  refine Calls.mono hc fun e w' he => ?_
  obtain ⟨v, rfl, hbel, hr⟩ := he
  refine hn v w' ?_
  have g : Grow C { C with w := w' } := ⟨hbel, Nat.le_refl _, fun _ _ => rfl, fun _ _ h => h, fun _ _ h => .inl h, fun b o hI hb' => by
    obtain ⟨u, hu⟩ := h.heap.imm b o hI
    have := cell_lt hu
    omega⟩
  exact ⟨{ C with w := w' }, rfl, h.heap.le g, rfl, h.grow g, hr _ (h.heap.le g) rfl, fun q => by cases q⟩
/-- Two lists of contracts. -/
def orExt (a b : CallF) : CallF := fun f args ro nx hp => match a f args ro nx hp with
  | some r => some r
  | none => b f args ro nx hp
theorem orExt_good {a b : CallF} (ha : GoodCall P a) (hb : GoodCall P b) : GoodCall P (orExt a b) := by
  intro f args ro nx hp r h
  unfold orExt at h
  cases h1 : a f args ro nx hp with
  | some q => rw [h1] at h; cases h; exact ha _ _ _ _ _ _ h1
  | none => rw [h1] at h; exact hb _ _ _ _ _ _ h
theorem orExt_safe {a b : CallF} (ha : RoCall a) (hb : RoCall b) : RoCall (orExt a b) := by
  intro f args ro nx hp r h
  unfold orExt at h
  cases h1 : a f args ro nx hp with
  | some q => rw [h1] at h; cases h; exact ha _ _ _ _ _ _ h1
  | none => rw [h1] at h; exact hb _ _ _ _ _ _ h
/-- A contract on values alone: f answers to args with g args, if there is such. -/
def pureExt (f0 : FuncId) (g : List AVal → Option AVal) : CallF := fun f args ro nx hp => if f = f0 then (g args).map fun a => ⟨a, false, nx, hp⟩ else none
theorem pureExt_safe (f0 : FuncId) (g : List AVal → Option AVal) : RoCall (pureExt f0 g) := by
  intro f args ro nx hp r h hro
  unfold pureExt at h
  split at h
  · obtain ⟨a, _, rfl⟩ := Option.map_eq_some_iff.1 h
    exact ⟨Nat.le_refl _, fun _ _ => rfl⟩
  · cases h
theorem pureExt_good (f0 : FuncId) (g : List AVal → Option AVal) {fn : Func} {c : Code} (hf : P.funcs[f0]? = some fn) (hb : fn.body = some c) (hname : fn.name ≠ "runtime.NumGoroutine")
    (hg : ∀ (args : List AVal) (a : AVal), g args = some a → ∀ (C : Cx) (vs : List Value), vs.length = args.length → (∀ b o, C.I b o → ∃ u, C.w.cell? ⟨b, o, none⟩ = some u) → (∀ (i : Nat) (x : AVal) (v : Value), args[i]? = some x → vs[i]? = some v → RV C x v) →
      Calls P f0 vs.toArray C.w fun e w' => ∃ v, e = .returned v ∧ Below C.w.heap.size C.w w' ∧ ∀ D : Cx, C.Le D → D.w = w' → RV D a v) : GoodCall P (pureExt f0 g) := by
  intro f args ro nx hp r h C B F w0 vs hnx hW hl hr
  unfold pureExt at h
  split at h
  · rename_i e
    subst e
    obtain ⟨a, ha, rfl⟩ := Option.map_eq_some_iff.1 h
    subst hnx
    exact ans_below hW hf hb hname (hg args a ha C vs hl hW.heap.imm hr)
  · cases h
end
end Go.Proofs.YtleimfinniclgaaDoor.M
