/- Fates are written: lossy.Text, pbref1.FatesText. -/
import Derived.Test.YtlkklaahnkcnkaaDoorZ
import Derived.Test.YtlkklaahnkcnkaaDoorD
import Derived.Test.YtlkklaahnkcnkaaDoorPure3
namespace Go.Proofs.YtlkklaahnkcnkaaDoor.X
open Go.RowKit

theorem byteCells_snoc (l : List UInt8) (c : UInt8) (n : Nat) (h : c.toNat = n) : Lib.byteCells (l ++ [c]) = Lib.byteCells l ++ [.int .u8 n] := by
  subst h; simp [Lib.byteCells]
theorem fates_take (xs : List Int) {j : Nat} (hj : j < xs.length) : fatesB (xs.take (j + 1)) = fatesB (xs.take j) ++ [signOf xs[j]] := by
  rw [List.take_succ_eq_append_getElem hj, fatesB_snoc]
theorem str_cat (l : List UInt8) (s : ByteArray) : (⟨l.toArray⟩ : ByteArray) ++ s = ⟨(l ++ s.data.toList).toArray⟩ := by
  apply ByteArray.ext
  rw [ByteArray.data_append]
  apply Array.toList_inj.1
  simp
theorem ext0 : (⟨#[46, 120, 50, 126]⟩ : ByteArray).extract 0 1 = ⟨#[signOf 0]⟩ := by decide +kernel
theorem ext1 : (⟨#[46, 120, 50, 126]⟩ : ByteArray).extract 1 2 = ⟨#[signOf 1]⟩ := by decide +kernel
theorem ext2 : (⟨#[46, 120, 50, 126]⟩ : ByteArray).extract 2 3 = ⟨#[signOf 2]⟩ := by decide +kernel
theorem ext3 : (⟨#[46, 120, 50, 126]⟩ : ByteArray).extract 3 4 = ⟨#[signOf 3]⟩ := by decide +kernel
theorem str_add (l : List UInt8) : (⟨l.toArray⟩ : ByteArray) ++ ⟨#[10]⟩ = ⟨(l ++ [10]).toArray⟩ := by
  apply ByteArray.ext
  rw [ByteArray.data_append]
  simp
set_option maxHeartbeats 2000000 in
theorem text_calls (A : Option Addr) (xs : List Int) (c : Nat) (w : World) (h : Row kInt w (fun _ => True) A xs) :
    Calls Tryd.prog 21 #[.slice A xs.length c] w fun e w' => e = .returned (.tuple #[.string (textF xs), .int .i64 (fatesF xs)]) ∧ Below w.heap.size w w' := by
  have hl := h.1
  have H := Lib.hid h
  have hc := checkFates_calls A xs c w h
  clear h
  by_cases h0 : fatesF xs = 0
  · rw [h0] at hc
    have ht := Lib.hid (show textF xs = fatesT xs from if_pos h0)
    have hs := fates_short h0
    have HS := Lib.hid (fun j (hj : j < xs.length) => fates_right h0 hj)
    have H0 := Lib.hid h0
    clear h0
    go_enter Tryd.func21, Tryd.ntmps21
    go_wp2_with (go_at_call 18; go_must (refine hc.mono ?_; rintro e w' ⟨rfl, rfl⟩))
    clear hc
    go_loopg [7, 15] xs.length (fun kq v i W => ∃ j : Nat, i = .int .i64 j ∧ Hid (kq + j = xs.length ∧ Lib.IsBuilder 106 5 w.heap.size w.heap.size (Lib.byteCells (fatesB (xs.take j))) W ∧ Below w.heap.size w W))
    case atStart => exact ⟨0, rfl, Lib.hid ⟨by omega, Lib.fresh_isBuilder _ _ w, (Below.refl _ _).alloc (Nat.le_refl _) _⟩⟩
    case round =>
      obtain ⟨j, rfl, R⟩ := hrel
      by_cases hj : j < xs.length
      · obtain ⟨ad, rfl, -, hcell⟩ := (H.out.below R.out.2.2).cell_scal hj
        have hx := HS.out j hj
        have hsg := Lib.hid (fates_take xs hj)
        have hlen := fatesB_len (xs.take j)
        rw [List.length_take, Nat.min_eq_left (by omega)] at hlen
        generalize xs[j] = x at hcell hx hsg
        have hx4 : x = 0 ∨ x = 1 ∨ x = 2 ∨ x = 3 := by omega
        clear hx
        rcases hx4 with rfl | rfl | rfl | rfl
        all_goals
          go_wp2_with (go_at_call 53; go_must (refine (writeByte_calls w.heap.size w.heap.size _ _ _ R.out.2.1 (by simp [Lib.byteCells]; omega) R.out.2.2.size).mono ?_; rintro e w' ⟨rfl, hb, hB⟩; have HB := Lib.hid hb; clear hb))
          go_roundg (gk - 1)
          case measure => have := R.out.1; omega
          case rel => exact ⟨j + 1, by go_num, Lib.hid ⟨by have := R.out.1; omega, Or.inr (by rw [hsg.out, byteCells_snoc _ _ _ rfl]; exact HB.out), R.out.2.2.trans hB⟩⟩
      · have hlen := fatesB_len xs
        have ht' : xs.take j = xs := List.take_of_length_le (by omega)
        have R' := Lib.hid R.out
        rw [ht'] at R'
        have hb0 := bString_calls w.heap.size w.heap.size (fatesB xs) _ R'.out.2.1 R'.out.2.2.size
        go_wp2_with (go_at_call 54; go_must (refine hb0.mono ?_; rintro e w' ⟨rfl, hB⟩))
        go_ret2
        refine ⟨?_, R.out.2.2.trans hB⟩
        have e1 : textF xs = (⟨(fatesB xs).toArray⟩ : ByteArray) ++ ⟨#[10]⟩ := by rw [ht.out, str_add]; rfl
        rw [e1, H0.out]
        rfl
  · have ht := Lib.hid (show textF xs = ByteArray.empty from if_neg h0)
    have hne : (fatesF xs == 0) = false := by simpa using h0
    go_enter Tryd.func21, Tryd.ntmps21
    go_wp2_with (go_at_call 18; go_must (refine hc.mono ?_; rintro e w' ⟨rfl, rfl⟩))
    go_ret2
    exact ⟨by rw [ht.out]; rfl, Below.refl _ _⟩

set_option maxHeartbeats 2000000 in
/-- pbref1.FatesText, of right fates. -/
theorem fatesText_calls (A : Option Addr) (xs : List Int) (c : Nat) (w : World) (h : Row kInt w (fun _ => True) A xs) (h0 : fatesF xs = 0) :
    Calls Tryd.prog 22 #[.slice A xs.length c] w fun e w' => e = .returned (.string (fatesT xs)) ∧ w' = w := by
  have hl := h.1
  have H := Lib.hid h
  clear h
  have hs := fates_short h0
  have HS := Lib.hid (fun j (hj : j < xs.length) => fates_right h0 hj)
  clear h0
  go_enter Tryd.func22, Tryd.ntmps22
  go_wp2_with fail
  go_loopg [3, 5, 8] xs.length (fun kq s v i W => ∃ j : Nat, s = .string ⟨(fatesB (xs.take j)).toArray⟩ ∧ i = .int .i64 j ∧ Hid (kq + j = xs.length ∧ W = w))
  case atStart => exact ⟨0, rfl, rfl, Lib.hid ⟨by omega, rfl⟩⟩
  case round =>
    obtain ⟨j, rfl, rfl, R⟩ := hrel
    obtain rfl := R.out.2
    by_cases hj : j < xs.length
    · obtain ⟨ad, rfl, -, hcell⟩ := H.out.cell_scal hj
      have hx := HS.out j hj
      have hsg := Lib.hid (fates_take xs hj)
      have hlen := fatesB_len (xs.take j)
      rw [List.length_take, Nat.min_eq_left (by omega)] at hlen
      generalize xs[j] = x at hcell hx hsg
      have hx4 : x = 0 ∨ x = 1 ∨ x = 2 ∨ x = 3 := by omega
      clear hx
      rcases hx4 with rfl | rfl | rfl | rfl
      all_goals
        go_wp2_with fail
        go_roundg (gk - 1)
        case measure => have := R.out.1; omega
        case rel => exact ⟨j + 1, by rw [hsg.out]; exact congrArg Value.string (by first | rw [ext0, str_cat] | rw [ext1, str_cat] | rw [ext2, str_cat] | rw [ext3, str_cat]), by go_num, Lib.hid ⟨by have := R.out.1; omega, rfl⟩⟩
    · have hlen := fatesB_len xs
      have ht' : xs.take j = xs := List.take_of_length_le (by omega)
      rw [ht']
      go_wp2_with fail
      go_ret
      refine ⟨?_, rfl⟩
      have e1 : fatesT xs = (⟨(fatesB xs).toArray⟩ : ByteArray) ++ ⟨#[10]⟩ := by rw [str_add]; rfl
      rw [e1]
      rfl
end Go.Proofs.YtlkklaahnkcnkaaDoor.X
