/- Letters in memory. -/
import Derived.Test.YtlkklaahnkcnkaaDoorLib
import Derived.Test.YtlkklaahnkcnkaaDoorPure
namespace Go.Proofs.YtlkklaahnkcnkaaDoor.X
open Go.RowKit

def kLt : Kn Lt := iso (pair kStr kInt) (fun x => (x.label, x.value))
theorem kLt_open {w : World} {ok : Nat → Prop} {x : Lt} {cs : List Value} (h : kLt.V w ok x cs) : cs = [.string x.label, .int .i64 x.value] := by
  obtain ⟨c0, c1, rfl, h0, h1⟩ := h
  cases h0; cases h1; rfl
theorem kLt_mk (w : World) (ok : Nat → Prop) (x : Lt) : kLt.V w ok x [.string x.label, .int .i64 x.value] := ⟨[_], [_], rfl, rfl, rfl⟩
theorem kLt_at {w : World} {ok : Nat → Prop} {A : Option Addr} {xs : List Lt} (h : Row kLt w ok A xs) {j : Nat} (hj : j < xs.length) : ∃ ad, A = some ad ∧ ok ad.block ∧ w.cell? (ad.add (j * 2)) = some (.string xs[j].label) ∧ w.cell? ⟨(ad.add (j * 2)).block, (ad.add (j * 2)).off + 1, none⟩ = some (.int .i64 xs[j].value) := by
  obtain ⟨ad, cs, e, ho, hv, h0, h1⟩ := h.at_ hj
  rw [kLt_open hv] at h0 h1
  exact ⟨ad, e, ho, h0 _ rfl, h1 0 _ rfl⟩
end Go.Proofs.YtlkklaahnkcnkaaDoor.X
