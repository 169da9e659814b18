/- valued: by the kernel. -/
import Derived.Test.YtleimfinniclgaaDoorFI
namespace Go.Proofs.YtleimfinniclgaaDoor.M
open Go.Proofs Go.Proofs.YtleimfinniclgaaDoor.X
set_option maxRecDepth 100000
theorem lift_any {x : Option Res} {v : AVal} {o : Bool} (h : lift 0 [] x = some ⟨v, o, 0, []⟩) (nx : Nat) (hp : Heap) : lift nx hp x = some ⟨v, o, nx, hp⟩ := by
  cases x with
  | none => cases h
  | some r =>
    simp only [lift, Option.some.injEq] at h ⊢
    injection h with h1 h2 h3 h4
    subst h1 h2
    rfl
theorem val_any {f : FuncId} {args : List AVal} (hv : K.vl f = true) (hi : idsLts 0 args = true) {v : AVal} {o : Bool} (h : R K f args 0 0 [] = some ⟨v, o, 0, []⟩) (ro nx : Nat) (hp : Heap) : R K f args ro nx hp = some ⟨v, o, nx, hp⟩ := by
  rw [R_eq] at h ⊢
  unfold vlc at h ⊢
  rw [if_pos hv, if_pos hi] at h ⊢
  exact lift_any h nx hp
theorem valued0 : arun K 100 11 [] 0 0 [] = some ⟨.bool true, false, 0, []⟩ := by kernel_rfl
theorem valued_R (ro nx : Nat) (hp : Heap) : R K 11 [] ro nx hp = some ⟨.bool true, false, nx, hp⟩ :=
  val_any rfl (by simp) (R_iff.2 ⟨100, valued0⟩) ro nx hp
end Go.Proofs.YtleimfinniclgaaDoor.M
