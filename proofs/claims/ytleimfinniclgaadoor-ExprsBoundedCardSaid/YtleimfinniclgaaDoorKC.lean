/- The machine for this program: what each kind of function is, the contracts from outside. -/
import Derived.Test.YtleimfinniclgaaDoorMTab
import Derived.Test.YtleimfinniclgaaDoorMW
import Derived.Test.YtleimfinniclgaaDoorPure
namespace Go.Proofs.YtleimfinniclgaaDoor.M
open Go.Proofs
/-- Functions that write their arguments, or return what they made. -/
def openFs : List FuncId := [15, 14, 19, 13, 17, 16, 29, 12, 53]
/-- Functions that write their arguments and make variables of their own. -/
def tidyFs : List FuncId := [4, 5]
/-- Functions that change nothing, but look at the heap. -/
def stillFs : List FuncId := [67, 52, 47, 46, 22]
/-- Functions with arrays that change. -/
def muFs : List (FuncId × List TypeId) := [(12, [26]), (4, [26]), (5, [30])]
def nameExt : List AVal → Option AVal
  | [.str s] => some (.bool (X.nameB s))
  | _ => none
def repeatExt : List AVal → Option AVal
  | [.str s, .int .i64 n] => if 0 ≤ n ∧ n < 1000 ∧ s.size < 1000 then some (.str ⟨((List.replicate n.toNat s.data.toList).flatten).toArray⟩) else none
  | _ => none
noncomputable def K : Cfg := { P := Tryd.prog, pure := fun f => !(openFs.contains f || tidyFs.contains f), tidy := fun f => tidyFs.contains f, mu := fun f => (muFs.lookup f).getD [], val := fun f => !stillFs.contains f, ext := orExt (pureExt 38 nameExt) (orExt (pureExt 24 nameExt) (pureExt 18 repeatExt)) }
@[simp] theorem K_P : K.P = Tryd.prog := rfl
theorem ext_R (f : FuncId) (args : List AVal) (ro nx : Nat) (hp : Heap) (a : AVal) (hv : K.vl f = true) (hi : idsLts 0 args = true) (h : K.ext f args 0 0 [] = some ⟨a, false, 0, []⟩) (ha : a.idsLt 0 = true) : R K f args ro nx hp = some ⟨a, false, nx, hp⟩ := by
  have hp0 := vl_pure hv
  have hl : low K f 0 0 = 0 := by unfold low; rw [if_pos hp0]
  rw [R_eq]
  unfold vlc Fin core
  rw [if_pos hv, if_pos hi]
  dsimp only
  rw [if_pos hp0, hl, h]
  simp [ha]
@[simp] theorem isName_R (s : ByteArray) (ro nx : Nat) (hp : Heap) : R K 38 [.str s] ro nx hp = some ⟨.bool (X.nameB s), false, nx, hp⟩ := ext_R _ _ ro nx hp _ rfl (by simp) rfl (by simp)
@[simp] theorem name_R (s : ByteArray) (ro nx : Nat) (hp : Heap) : R K 24 [.str s] ro nx hp = some ⟨.bool (X.nameB s), false, nx, hp⟩ := ext_R _ _ ro nx hp _ rfl (by simp) rfl (by simp)
theorem repeat_R (s : ByteArray) (n : Int) (h : 0 ≤ n ∧ n < 1000 ∧ s.size < 1000) (ro nx : Nat) (hp : Heap) : ∃ t, R K 18 [.str s, .int .i64 n] ro nx hp = some ⟨.str t, false, nx, hp⟩ := by
  refine ⟨_, ext_R _ _ ro nx hp (.str ⟨((List.replicate n.toNat s.data.toList).flatten).toArray⟩) rfl (by simp) ?_ (by simp)⟩
  show orExt (pureExt 38 nameExt) (orExt (pureExt 24 nameExt) (pureExt 18 repeatExt)) 18 [.str s, .int .i64 n] 0 0 [] = _
  simp [orExt, pureExt, repeatExt, if_pos h]
end Go.Proofs.YtleimfinniclgaaDoor.M
