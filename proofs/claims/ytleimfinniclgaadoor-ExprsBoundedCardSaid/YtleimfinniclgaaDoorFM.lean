/- The law holds. -/
import Derived.Test.YtleimfinniclgaaDoorFL
namespace Go.Proofs.YtleimfinniclgaaDoor.M
open Go.Proofs Go.Proofs.YtleimfinniclgaaDoor.X Go.RowKit
set_option maxRecDepth 100000
theorem names_ok : (Tryd.prog).funcs.all (fun fn => fn.name != "runtime.NumGoroutine") = true := by kernel_rfl
theorem R_ok : GoodCall Tryd.prog (R K) := R_right K ext_good ext_safe fun f fn hf => by
  have := Array.all_eq_true'.1 names_ok fn (Array.mem_of_getElem? hf)
  simpa using this
theorem law_calls {xs : List Int} (hl : xs.length < 4611686018427387904) {W : World} {a : Option Addr} {cap : Nat} (hcap : xs.length ≤ cap) (hc : ∀ (i : Nat) p, xs[i]? = some p → ∃ x, a = some x ∧ W.cell? (x.add i) = some (.int .i64 p)) :
    Calls Tryd.prog 3 #[.slice a xs.length cap] W fun e w' => e = .returned (.bool true) ∧ Below W.heap.size W w' :=
  law_holds K R_ok (f := 3) Tryd.func3 rfl (by decide) (law_R xs hl 0 0 []) hcap hc
end Go.Proofs.YtleimfinniclgaaDoor.M
