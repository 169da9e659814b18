/- slices.Clone of letters. -/
import Derived.Test.YtlkklaahnkcnkaaDoorR
import Derived.Test.YtlkklaahnkcnkaaDoorLt
import Derived.Test.YtlkklaahnkcnkaaDoorB2
import Derived.Lib.SliceRun
namespace Go.Proofs.YtlkklaahnkcnkaaDoor.X
open Go.RowKit

theorem own_empty (w : World) (e size : Nat) : (w.alloc (.cells #[] e)).ownsRow w.heap.size e size (.slice (some ⟨w.heap.size, 0, none⟩) 0 0) 0 [] :=
  ⟨by simp, .inr ⟨w.heap.size, 0, #[], rfl, Nat.le_refl _, heap_alloc_new w _, by simp, by simp, by simp, by simp⟩⟩
set_option maxRecDepth 100000 in
set_option maxHeartbeats 1000000 in
theorem clone_calls (A : Option Addr) (c : Nat) (xs : List Lt) (ok : Nat → Prop) (w : World) (hr : Row kLt w ok A xs) (hA : A = none → c = 0) (hok : ∀ k, ok k → k < w.heap.size) (hl : xs.length ≤ 1000000) :
    Calls Tryd.prog 51 #[.slice A xs.length c] w fun e w' => ∃ v1, e = .returned v1 ∧ Own kLt 47 w' w.heap.size (fun k => ok k ∨ w.heap.size ≤ k) v1 xs ∧ Below w.heap.size w w' := by
  have HR := Lib.hid hr
  cases A with
  | none =>
    have hc := hA rfl
    have hx : xs = [] := by
      rcases Nat.eq_zero_or_pos xs.length with h0 | h0
      · exact List.eq_nil_of_length_eq_zero h0
      · obtain ⟨ad, e1, -⟩ := hr.2 h0
        cases e1
    subst hx hc
    clear hr hA hok
    go_enter Tryd.func51, Tryd.ntmps51
    go_wp2_with (rw [Lib.run_eql_slice_nil (P := Tryd.prog) _ _ _ _ _ _ _ _ Tryd.underlying26])
    go_ret
    exact ⟨_, rfl, Own.nil _ _, Below.refl _ _⟩
  | some ad =>
    have Hok := Lib.hid hok
    clear hr hA hok
    go_enter Tryd.func51, Tryd.ntmps51
    go_wp2_with (first | rw [Lib.run_eql_slice_nil (P := Tryd.prog) _ _ _ _ _ _ _ _ Tryd.underlying26] | (at_builtin; go_must (refine row_copy (d := kLt) (base := w.heap.size) (ok := ok) ((HR.out.step fun k _ hk => Below.heap_alloc w _ k hk)) (fun e => (by cases e)) rfl (own_empty w _ _) (fun k hk e => (by have := Hok.out k hk; simp [Value.ownBlock] at e; omega)) (by simp) Tryd.underlying26 infoLt rfl (by omega) rfl rfl rfl rfl ?_; intro v1 w1 hO hg; have HO := Lib.hid (And.intro hO hg); clear hO hg)))
    go_ret
    obtain ⟨hO, hg⟩ := HO.out
    exact ⟨_, rfl, hO, ((Ch.refl (fun k => w.heap.size ≤ k) w).alloc _).grown hg (fun k hk => .inr (by simp [Value.ownBlock] at hk; omega)) |>.low (Nat.le_refl _) (fun k hk => by omega)⟩
end Go.Proofs.YtlkklaahnkcnkaaDoor.X
