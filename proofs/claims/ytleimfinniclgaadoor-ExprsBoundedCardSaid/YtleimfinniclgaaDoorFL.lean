/- The contracts from outside are right. -/
import Derived.Test.YtleimfinniclgaaDoorFK
import Derived.Test.YtleimfinniclgaaDoorMZ
import Derived.Test.YtleimfinniclgaaDoorC
namespace Go.Proofs.YtleimfinniclgaaDoor.M
open Go.Proofs Go.Proofs.YtleimfinniclgaaDoor.X Go.RowKit
set_option linter.unusedSimpArgs false
set_option linter.unusedVariables false
set_option maxRecDepth 100000
theorem repeatL_flat (l : List UInt8) (c : Nat) : Lib.repeatL l c = (List.replicate c l).flatten := by
  induction c with
  | zero => rfl
  | succ c ih => rw [Lib.repeatL, ih, List.replicate_succ, List.flatten_cons]
theorem name_good (f0 : FuncId) {fn : Func} {c : Code} (hf : (Tryd.prog).funcs[f0]? = some fn) (hb : fn.body = some c) (hname : fn.name ≠ "runtime.NumGoroutine")
    (hc : ∀ (s : ByteArray) (w : World), Calls Tryd.prog f0 #[.string s] w fun e w' => e = .returned (.bool (nameB s)) ∧ Below w.heap.size w w') : GoodCall Tryd.prog (pureExt f0 nameExt) := by
  refine pureExt_good f0 nameExt hf hb hname fun args a ha C vs hl _ hr => ?_
  unfold nameExt at ha
  split at ha
  · rename_i s
    cases ha
    match vs, hl with
    | [v], _ =>
      have hv := (hr 0 _ v rfl rfl).str_inv
      subst hv
      exact Calls.mono (hc s C.w) fun e w' h => ⟨_, h.1, h.2, fun D _ _ => .bool _⟩
  · cases ha
theorem ext_good : GoodCall Tryd.prog K.ext := by
  refine orExt_good (name_good 38 Tryd.func38 rfl (by decide) isName_calls) (orExt_good (name_good 24 Tryd.func24 rfl (by decide) name_calls) (pureExt_good 18 repeatExt Tryd.func18 rfl (by decide) fun args a ha C vs hl _ hr => ?_))
  unfold repeatExt at ha
  split at ha
  · rename_i s n
    split at ha
    · rename_i hn
      cases ha
      match vs, hl with
      | [v, u], _ =>
        have hv := (hr 0 _ v rfl rfl).str_inv
        have hu := (hr 1 _ u rfl rfl).int_inv
        subst hv hu
        obtain ⟨c, rfl⟩ : ∃ c : Nat, n = c := ⟨n.toNat, by omega⟩
        have hm : s.size * c ≤ 1000 * 1000 := Nat.mul_le_mul (by omega) (by omega)
        refine Calls.mono (Tryd.strings_Repeat s c C.w (by omega) (by omega)) fun e w' h => ⟨_, h.1, h.2, fun D _ _ => ?_⟩
        rw [show Lib.repeatL s.data.toList c = (List.replicate (c : Int).toNat s.data.toList).flatten from repeatL_flat _ _]
        exact .str _
    · cases ha
  · cases ha
theorem ext_safe : RoCall K.ext := orExt_safe (pureExt_safe _ _) (orExt_safe (pureExt_safe _ _) (pureExt_safe _ _))
end Go.Proofs.YtleimfinniclgaaDoor.M
