/- Lists are compared: lossy.isLess, slices.Compare. -/
import Derived.Test.YtlkklaahnkcnkaaDoorPure4
import Derived.Test.YtlkklaahnkcnkaaDoorLib
import Derived.Test.YtlkklaahnkcnkaaDoorShelf
namespace Go.Proofs.YtlkklaahnkcnkaaDoor.X
open Go.RowKit

set_option maxHeartbeats 1000000 in
theorem isLess_calls (A B : Option Addr) (xs ys : List Int) (c c2 : Nat) (w : World) (ha : Row kInt w (fun _ => True) A xs) (hb : Row kInt w (fun _ => True) B ys) :
    Calls Tryd.prog 99 #[.slice A xs.length c, .slice B ys.length c2] w fun e w' => e = .returned (.bool (lessL xs ys)) ∧ Below w.heap.size w w' := by
  have hl := ha.1
  have hl2 := hb.1
  have HA := Lib.hid ha
  have HB := Lib.hid hb
  clear ha hb
  by_cases h0 : xs.length = ys.length
  · have hf := Lib.hid (show lessL xs ys = lexL (xs.drop 0) (ys.drop 0) from if_pos h0)
    have e0 : ((xs.length : Int) == (ys.length : Int)) = true := by simp [h0]
    have H0 := Lib.hid h0
    clear h0
    go_enter Tryd.func99, Tryd.ntmps99
    go_wp2_with fail
    go_loopg [5, 18] xs.length (fun kq v i W => ∃ j : Nat, i = .int .i64 j ∧ Hid (kq + j = xs.length ∧ lexL (xs.drop j) (ys.drop j) = lexL (xs.drop 0) (ys.drop 0) ∧ Below w.heap.size w W))
    case atStart => exact ⟨0, rfl, Lib.hid ⟨by omega, rfl, Below.refl _ _⟩⟩
    case round =>
      obtain ⟨j, rfl, R⟩ := hrel
      by_cases hj : j < xs.length
      · have hj2 : j < ys.length := by have := H0.out; omega
        have hA1 := HA.out.below R.out.2.2
        have hB1 := HB.out.below R.out.2.2
        obtain ⟨ad, rfl, -, hc⟩ := hA1.cell_scal hj
        obtain ⟨bd, rfl, -, hd⟩ := hB1.cell_scal hj2
        have hst := Lib.hid (lexL_step hj hj2)
        by_cases hx : xs[j] = ys[j]
        · have hx' : (xs[j] == ys[j]) = true := by simpa using hx
          have HX := Lib.hid hx
          clear hx
          go_wp2_with fail
          go_quiet (fail)
          go_wp2_with fail
          go_roundg (gk - 1)
          case measure => have := R.out.1; omega
          case rel => exact ⟨j + 1, by go_num, Lib.hid ⟨by have := R.out.1; omega, by rw [← R.out.2.1, hst.out, if_pos HX.out], R.out.2.2.trans ⟨rfl, rfl, rfl, Nat.le_refl _, fun _ _ => rfl⟩⟩⟩
        · have hx' : (xs[j] == ys[j]) = false := by simpa using hx
          have HX := Lib.hid hx
          clear hx
          go_wp2_with fail
          go_quiet (fail)
          go_wp2_with fail
          go_quiet (fail)
          go_wp2_with fail
          go_ret
          exact ⟨ret_bool (by rw [hf.out, ← R.out.2.1, hst.out, if_neg HX.out]), R.out.2.2.trans ⟨rfl, rfl, rfl, Nat.le_refl _, fun _ _ => rfl⟩⟩
      · go_wp2_with fail
        go_ret
        exact ⟨ret_bool (by rw [hf.out, ← R.out.2.1, lexL_end (by omega)]), R.out.2.2⟩
  · have hf := Lib.hid (show lessL xs ys = decide (xs.length < ys.length) from if_neg h0)
    have e0 : ((xs.length : Int) == (ys.length : Int)) = false := by simp; omega
    go_enter Tryd.func99, Tryd.ntmps99
    go_wp2_with fail
    go_ret
    exact ⟨ret_bool (by rw [hf.out]), Below.refl _ _⟩

/-- slices.Compare. -/
def cmpL : List Int → List Int → Int
  | [], [] => 0
  | [], _ :: _ => -1
  | _ :: _, [] => 1
  | x :: a, y :: b => if Lib.compareInt x y = 0 then cmpL a b else Lib.compareInt x y
theorem cmpL_lex : ∀ (a b : List Int), a.length = b.length → (decide (cmpL a b < 0)) = lexL a b
  | [], [], _ => rfl
  | x :: a, y :: b, h => by
    rw [cmpL, lexL]
    have hi := cmpL_lex a b (by simpa using h)
    unfold Lib.compareInt
    by_cases h1 : x < y
    · rw [if_pos h1, if_neg (by decide), if_neg (by omega)]; simp [h1]
    · by_cases h2 : x > y
      · rw [if_neg h1, if_pos h2, if_neg (by decide), if_neg (by omega)]; simp [h1]
      · rw [if_neg h1, if_neg h2, if_pos rfl, if_pos (by omega)]; exact hi
theorem cmpL_step {xs ys : List Int} {j : Nat} (hx : j < xs.length) (hy : j < ys.length) : cmpL (xs.drop j) (ys.drop j) = if Lib.compareInt xs[j] ys[j] = 0 then cmpL (xs.drop (j + 1)) (ys.drop (j + 1)) else Lib.compareInt xs[j] ys[j] := by
  rw [List.drop_eq_getElem_cons hx, List.drop_eq_getElem_cons hy, cmpL]
set_option maxHeartbeats 1000000 in
theorem compare_calls (A B : Option Addr) (xs ys : List Int) (c c2 : Nat) (w : World) (h0 : xs.length = ys.length) (ha : Row kInt w (fun _ => True) A xs) (hb : Row kInt w (fun _ => True) B ys) :
    Calls Tryd.prog 66 #[.slice A xs.length c, .slice B ys.length c2] w fun e w' => e = .returned (.int .i64 (cmpL xs ys)) ∧ w' = w := by
  have hl := ha.1
  have hl2 := hb.1
  have HA := Lib.hid ha
  have HB := Lib.hid hb
  clear ha hb
  have hf := Lib.hid (show cmpL xs ys = cmpL (xs.drop 0) (ys.drop 0) from rfl)
  have H0 := Lib.hid h0
  clear h0
  go_enter Tryd.func66, Tryd.ntmps66
  go_wp2_with fail
  go_loopg [5, 6, 7, 8, 11] xs.length (fun kq v1 v2 v3 v4 i W => ∃ j : Nat, i = .int .i64 j ∧ Hid (kq + j = xs.length ∧ cmpL (xs.drop j) (ys.drop j) = cmpL (xs.drop 0) (ys.drop 0) ∧ W = w))
  case atStart => exact ⟨0, rfl, Lib.hid ⟨by omega, rfl, rfl⟩⟩
  case round =>
    obtain ⟨j, rfl, R⟩ := hrel
    obtain rfl := R.out.2.2
    by_cases hj : j < xs.length
    · have hj2 : j < ys.length := by have := H0.out; omega
      obtain ⟨ad, rfl, -, hc⟩ := HA.out.cell_scal hj
      obtain ⟨bd, rfl, -, hd⟩ := HB.out.cell_scal hj2
      have hst := Lib.hid (cmpL_step hj hj2)
      by_cases hx : Lib.compareInt xs[j] ys[j] = 0
      · have hcc := Tryd.cmp_Compare_int xs[j] ys[j] wr
        rw [hx] at hcc
        have HX := Lib.hid hx
        clear hx
        go_wp2_with (go_at_call 100; go_must (refine hcc.mono ?_; rintro e w2 ⟨rfl, rfl⟩))
        go_roundg (gk - 1)
        case measure => have := R.out.1; omega
        case rel => exact ⟨j + 1, by go_num, Lib.hid ⟨by have := R.out.1; omega, by rw [← R.out.2.1, hst.out, if_pos HX.out], rfl⟩⟩
      · have hcc := Tryd.cmp_Compare_int xs[j] ys[j] wr
        have hxn : (Lib.compareInt xs[j] ys[j] == 0) = false := by simpa using hx
        have HX := Lib.hid hx
        clear hx
        go_wp2_with (go_at_call 100; go_must (refine hcc.mono ?_; rintro e w2 ⟨rfl, rfl⟩))
        go_ret
        exact ⟨ret_int (by rw [hf.out, ← R.out.2.1, hst.out, if_neg HX.out]), rfl⟩
    · have hnl : ¬ (xs.length : Int) < ys.length := by have := H0.out; omega
      go_wp2_with fail
      go_ret
      have e1 : xs.drop j = [] := List.drop_eq_nil_of_le (by omega)
      have e2 : ys.drop j = [] := List.drop_eq_nil_of_le (by have := H0.out; omega)
      exact ⟨ret_int (by rw [hf.out, ← R.out.2.1, e1, e2]; rfl), rfl⟩
end Go.Proofs.YtlkklaahnkcnkaaDoor.X
