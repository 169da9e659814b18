/- slices.Equal, of equal rows. -/
import Derived.Test.YtlkklaahnkcnkaaDoorS
namespace Go.Proofs.YtlkklaahnkcnkaaDoor.X
open Go.RowKit

set_option maxHeartbeats 2000000 in
theorem equalInt_calls (A B : Option Addr) (xs : List Int) (c c2 : Nat) (w : World) (ha : Row kInt w (fun _ => True) A xs) (hb : Row kInt w (fun _ => True) B xs) :
    Calls Tryd.prog 20 #[.slice A xs.length c, .slice B xs.length c2] w fun e w' => e = .returned (.bool true) ∧ Below w.heap.size w w' := by
  have hl := ha.1
  have HA := Lib.hid ha
  have HB := Lib.hid hb
  clear ha hb
  go_enter Tryd.func20, Tryd.ntmps20
  go_wp2_with fail
  go_loopg [13] xs.length (fun kq i W => ∃ j : Nat, i = .int .i64 j ∧ Hid (kq + j = xs.length ∧ Below w.heap.size w W))
  case atStart => exact ⟨0, rfl, Lib.hid ⟨by omega, Below.refl _ _⟩⟩
  case round =>
    obtain ⟨j, rfl, R⟩ := hrel
    by_cases hj : j < xs.length
    · obtain ⟨ad, rfl, -, hc⟩ := (HA.out.below R.out.2).cell_scal hj
      obtain ⟨ad2, rfl, -, hc2⟩ := (HB.out.below R.out.2).cell_scal hj
      go_wp2_with fail
      go_quiet (fail)
      go_wp2_with fail
      go_roundg (gk - 1)
      case measure => have := R.out.1; omega
      case rel => exact ⟨j + 1, by go_num, Lib.hid ⟨by have := R.out.1; omega, R.out.2.trans ⟨rfl, rfl, rfl, Nat.le_refl _, fun _ _ => rfl⟩⟩⟩
    · go_wp2_with fail
      go_ret
      exact ⟨rfl, R.out.2⟩
set_option maxHeartbeats 2000000 in
theorem equalLt_calls (A B : Option Addr) (xs : List Lt) (c c2 : Nat) (w : World) (ha : Row kLt w (fun _ => True) A xs) (hb : Row kLt w (fun _ => True) B xs) :
    Calls Tryd.prog 19 #[.slice A xs.length c, .slice B xs.length c2] w fun e w' => e = .returned (.bool true) ∧ Below w.heap.size w w' := by
  have hl := ha.1
  have HA := Lib.hid ha
  have HB := Lib.hid hb
  clear ha hb
  go_enter Tryd.func19, Tryd.ntmps19
  go_wp2_with fail
  go_loopg [13] xs.length (fun kq i W => ∃ j : Nat, i = .int .i64 j ∧ Hid (kq + j = xs.length ∧ Below w.heap.size w W))
  case atStart => exact ⟨0, rfl, Lib.hid ⟨by omega, Below.refl _ _⟩⟩
  case round =>
    obtain ⟨j, rfl, R⟩ := hrel
    by_cases hj : j < xs.length
    · obtain ⟨ad, rfl, -, hc, hc'⟩ := kLt_at (HA.out.below R.out.2) hj
      obtain ⟨ad2, rfl, -, hc2, hc2'⟩ := kLt_at (HB.out.below R.out.2) hj
      go_wp2_with fail
      go_quiet (fail)
      go_wp2_with fail
      go_roundg (gk - 1)
      case measure => have := R.out.1; omega
      case rel => exact ⟨j + 1, by go_num, Lib.hid ⟨by have := R.out.1; omega, R.out.2.trans ⟨rfl, rfl, rfl, Nat.le_refl _, fun _ _ => rfl⟩⟩⟩
    · go_wp2_with fail
      go_ret
      exact ⟨rfl, R.out.2⟩
end Go.Proofs.YtlkklaahnkcnkaaDoor.X
