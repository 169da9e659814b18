/- checked, and what it looks at. -/
import Derived.Test.YtlkklaahnkcnkaaDoorD
import Derived.Test.YtlkklaahnkcnkaaDoorJ
namespace Go.Proofs.YtlkklaahnkcnkaaDoor.X
open Go.RowKit

def boundsF (w m : Int) : Int := thenF (spanF w 1 20) (spanF m 1 5000)
theorem boundsFault_calls (a b : Int) (w : World) : Calls Tryd.prog 80 #[.int .i64 a, .int .i64 b] w fun e w' => e = .returned (.int .i64 (boundsF a b)) ∧ w = w' := by
  by_cases h1 : 1 ≤ a ∧ a ≤ 20
  · have d1 : (!decide (1 ≤ a ∧ a ≤ 20)) = false := by simp [h1]
    by_cases h2 : 1 ≤ b ∧ b ≤ 5000
    · have d2 : (!decide (1 ≤ b ∧ b ≤ 5000)) = false := by simp [h2]
      have hf := Lib.hid (show boundsF a b = 0 by simp [boundsF, thenF, spanF, h1, h2])
      clear h1 h2
      go_enter Tryd.func80, Tryd.ntmps80
      go_wp2_with (go_at_call 52; go_must (refine (outside_calls _ _ _ _).mono ?_; rintro e w' ⟨rfl, rfl⟩; first | rw [d1] | rw [d2]))
      go_ret
      exact ⟨ret_int hf.out.symm, rfl⟩
    · have d2 : (!decide (1 ≤ b ∧ b ≤ 5000)) = true := by simp only [decide_eq_false h2, Bool.not_false]
      have hf := Lib.hid (show boundsF a b = 1 by simp only [boundsF, thenF, spanF, if_pos h1, if_neg h2, if_true])
      clear h1 h2
      go_enter Tryd.func80, Tryd.ntmps80
      go_wp2_with (go_at_call 52; go_must (refine (outside_calls _ _ _ _).mono ?_; rintro e w' ⟨rfl, rfl⟩; first | rw [d1] | rw [d2]))
      go_ret
      exact ⟨ret_int hf.out.symm, rfl⟩
  · have d1 : (!decide (1 ≤ a ∧ a ≤ 20)) = true := by simp only [decide_eq_false h1, Bool.not_false]
    have hf := Lib.hid (show boundsF a b = 1 by simp only [boundsF, thenF, spanF, if_neg h1]; exact if_neg (by decide))
    clear h1
    go_enter Tryd.func80, Tryd.ntmps80
    go_wp2_with (go_at_call 52; go_must (refine (outside_calls _ _ _ _).mono ?_; rintro e w' ⟨rfl, rfl⟩; first | rw [d1] | rw [d2]))
    go_ret
    exact ⟨ret_int hf.out.symm, rfl⟩
set_option maxHeartbeats 1000000 in
theorem orErrno_calls (A : Option Addr) (xs : List Int) (c : Nat) (w : World) (h : Row kInt w (fun _ => True) A xs) :
    Calls Tryd.prog 11 #[.slice A xs.length c] w fun e w' => e = .returned (.int .i64 (orF xs)) ∧ w = w' := by
  have hl := h.1
  have H := Lib.hid h
  clear h
  have hf := Lib.hid (show orF xs = errFirst id xs from rfl)
  go_enter Tryd.func11, Tryd.ntmps11
  go_wp2_with fail
  go_loopg [5, 8] xs.length (fun kq v i W => ∃ j : Nat, i = .int .i64 j ∧ Hid (kq + j = xs.length ∧ errFirst id (xs.take j) = 0 ∧ w = W))
  case atStart => exact ⟨0, rfl, Lib.hid ⟨by omega, rfl, rfl⟩⟩
  case round =>
    obtain ⟨j, rfl, R⟩ := hrel
    obtain rfl := R.out.2.2
    by_cases hj : j < xs.length
    · obtain ⟨ad, rfl, -, hc⟩ := H.out.cell_scal hj
      by_cases hx : xs[j] = 0
      · have hd : (xs[j] == 0) = true := by simp [hx]
        have hz := Lib.hid (show id xs[j] = 0 from hx)
        clear hx
        go_wp2_with fail
        go_roundg (gk - 1)
        case measure => have := R.out.1; omega
        case rel => exact ⟨j + 1, by go_num, Lib.hid ⟨by have := R.out.1; omega, errFirst_snoc _ hj R.out.2.1 hz.out, rfl⟩⟩
      · have hd : (xs[j] == 0) = false := by simp [hx]
        have hz := Lib.hid (show id xs[j] ≠ 0 from hx)
        clear hx
        go_wp2_with fail
        go_ret
        exact ⟨ret_int (by rw [hf.out, errFirst_hit _ hj R.out.2.1 hz.out]; rfl), rfl⟩
    · go_wp2_with fail
      go_ret
      exact ⟨ret_int (by rw [hf.out, errFirst_all _ (by omega) R.out.2.1]), rfl⟩
end Go.Proofs.YtlkklaahnkcnkaaDoor.X
