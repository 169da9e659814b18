/- Texts of fates are made: RightFates, Changed, FateString. -/
import Derived.Test.YtlkklaahnkcnkaaDoorZA
import Derived.Test.YtlkklaahnkcnkaaDoorB
import Derived.Laws.Cover4
namespace Go.Proofs.YtlkklaahnkcnkaaDoor.X
open Go.RowKit

theorem rightFates_calls (g m : Nat) (hm : m < 4611686018427387000) (w0 w : World) (h : St w0 w g m) (hB : Below w0.heap.size w0 w) :
    Calls Tryd.prog 55 #[.pointer (some ⟨g, 0, none⟩)] w fun e w' => ∃ v xs, e = .returned v ∧ Own kInt 3 w' w.heap.size (· ≠ g) v xs ∧ xs.length ≤ 14 ∧ fatesF xs = 0 ∧ St w0 w' g (m + 20) ∧ But g w w' := by
  go_enter Tryd.func55, Tryd.ntmps55
  go_wp2_with (go_at_call 7; go_must (refine (fateList_calls g m hm w0 w h hB).mono ?_; rintro e w1 ⟨v, xs, rfl, hO, hx, hs1, hk1⟩))
  obtain ⟨A, c, rfl, hc, hrow⟩ := hO.row
  have hf := fatesFault_calls A xs c w1 (hrow.mono fun _ _ => trivial)
  have HO := Lib.hid hO
  clear hO
  by_cases h0 : fatesF xs = 0
  · rw [h0] at hf
    have H0 := Lib.hid h0
    clear h0
    go_wp2_with (go_at_call 10; go_must (refine hf.mono ?_; rintro e w' ⟨rfl, rfl⟩))
    go_ret
    exact ⟨_, xs, rfl, HO.out, hx, H0.out, hs1, hk1⟩
  · have hne : (fatesF xs == 0) = false := by simpa using h0
    go_wp2_with (go_at_call 10; go_must (refine hf.mono ?_; rintro e w' ⟨rfl, rfl⟩))
    go_ret
    exact ⟨_, [], rfl, Own.nil _ _, by simp, rfl, hs1, hk1⟩

set_option maxHeartbeats 2000000 in
theorem changed_calls (t s : ByteArray) (ht : t.size ≤ 1000) (hs : s.size ≤ 1000) (g m : Nat) (hm : m < 4611686018427387000) (w0 w : World) (h : St w0 w g m) (hB : Below w0.heap.size w0 w) :
    Calls Tryd.prog 56 #[.pointer (some ⟨g, 0, none⟩), .string t, .string s] w fun e w' => ∃ r : ByteArray, e = .returned (.string r) ∧ r.size ≤ t.size + s.size + 4 ∧ St w0 w' g (m + 3) ∧ But g w w' := by
  by_cases h0 : t.size = 0
  · have e0 : t.toList = [] := by rw [ByteArray.toList_eq]; exact List.eq_nil_of_length_eq_zero h0
    clear h0
    go_enter Tryd.func56, Tryd.ntmps56
    go_wp2_with fail
    go_ret
    exact ⟨s, rfl, by omega, h.more (by omega), But.refl _ _⟩
  · have e0 : ¬ t.toList = [] := by rw [ByteArray.toList_eq]; intro e; exact h0 (by have := congrArg List.length e; simpa using this)
    by_cases h1 : s.size = 0
    · have e1 : s.toList = [] := by rw [ByteArray.toList_eq]; exact List.eq_nil_of_length_eq_zero h1
      clear h0 h1
      go_enter Tryd.func56, Tryd.ntmps56
      go_wp2_with fail
      go_ret
      exact ⟨s, rfl, by omega, h.more (by omega), But.refl _ _⟩
    · have e1 : ¬ s.toList = [] := by rw [ByteArray.toList_eq]; intro e; exact h1 (by have := congrArg List.length e; simpa using this)
      have p0 : 0 < t.size := by omega
      have p1 : 0 < s.size := by omega
      clear h0 h1
      go_enter Tryd.func56, Tryd.ntmps56
      go_wp2_with (first
        | (go_at_call 42; refine (next_calls _ (by omega) g m (by omega) w0 w h hB).mono ?_; rintro e w1 ⟨r, rfl, hr, hs1, hk1⟩; obtain ⟨i, rfl⟩ := Int.eq_ofNat_of_zero_le hr.1; have hi : i < t.size := (by omega))
        | (go_at_call 42; refine (next_calls _ (by omega) g (m + 1) (by omega) w0 w1 hs1 (h.keep hB hk1)).mono ?_; rintro e w2 ⟨r, rfl, hr, hs2, hk2⟩; obtain ⟨k, rfl⟩ := Int.eq_ofNat_of_zero_le hr.1; have hk : k < s.size := (by omega))
        | (go_at_call 42; refine (next_calls _ (by omega) g (m + 2) (by omega) w0 w2 hs2 (h.keep hB (hk1.trans hk2))).mono ?_; rintro e w3 ⟨r, rfl, hr, hs3, hk3⟩; have H3 := Lib.hid hr; clear hr))
      · exfalso
        rename_i h
        rcases h with h | h
        · exact e0 (List.isEmpty_iff.1 h)
        · exact e1 (List.isEmpty_iff.1 h)
      all_goals
        have he := encode_size_le (wrap32 (s[k].toNat : Int))
        have hx : i ≤ t.size := by omega
        have hy : i + 1 ≤ t.size := by omega
      · go_region
        all_goals
          go_wp2_with fail
          go_ret
          exact ⟨_, rfl, by simp only [ByteArray.size_append, ByteArray.size_extract]; omega, hs3, (hk1.trans (hk2.trans hk3)).drewN _⟩
      · go_region
        all_goals
          go_wp2_with fail
          go_ret
          exact ⟨_, rfl, by simp only [ByteArray.size_append, ByteArray.size_extract]; omega, hs3, (hk1.trans (hk2.trans hk3)).drewN _⟩
      · go_quiet (fail)
        go_wp2_with fail
        go_ret
        exact ⟨_, rfl, by simp only [ByteArray.size_append, ByteArray.size_extract]; omega, hs3, (hk1.trans (hk2.trans hk3)).drewN _⟩

theorem fateString_calls (g m : Nat) (hm : m < 4611686018427386000) (w0 w : World) (h : St w0 w g m) (hB : Below w0.heap.size w0 w) :
    Calls Tryd.prog 23 #[.pointer (some ⟨g, 0, none⟩)] w fun e w' => ∃ r : ByteArray, e = .returned (.string r) ∧ r.size ≤ 1000 ∧ St w0 w' g (m + 100) ∧ But g w w' := by
  go_enter Tryd.func23, Tryd.ntmps23
  go_wp2_with (first
    | (go_at_call 55; go_must (refine (rightFates_calls g m (by omega) w0 w h hB).mono ?_; rintro e w1 ⟨v, xs, rfl, hO, hx, hf, hs1, hk1⟩; obtain ⟨A, c, rfl, hc, hrow⟩ := hO.row; have hft := fatesText_calls A xs c w1 (hrow.mono fun _ _ => trivial) hf; have HF := Lib.hid hf; clear hf hO))
    | (go_at_call 22; go_must (refine hft.mono ?_; rintro e w' ⟨rfl, rfl⟩; clear hft))
    | (go_at_call 27; go_must (refine (pick_calls _ [0, 0, 1, 2] 4 (by simp) g (m + 20) (by omega) w0 _ (hs1.alloc _) (below_al (h.keep hB hk1) _) (Row.lit_scal _ (Blk.new _ _ _) rfl (by have := hs1.lt; simp; omega) (by simp))).mono ?_; rintro e w2 ⟨r, rfl, hr, hs2, hk2⟩)))
  have hn : ∃ n : Nat, r = n ∧ n ≤ 2 := by
    have : r = 0 ∨ r = 1 ∨ r = 2 := by simpa using hr
    rcases this with rfl | rfl | rfl
    · exact ⟨0, rfl, by omega⟩
    · exact ⟨1, rfl, by omega⟩
    · exact ⟨2, rfl, by omega⟩
  obtain ⟨n, rfl, hn2⟩ := hn
  have hk : But g w w2 := (hk1.alloc _).trans hk2
  have hts : (fatesT xs).size ≤ 15 := by
    have : (fatesT xs).size = (fatesB xs).length + 1 := by simp [fatesT, ByteArray.size]
    have := fatesB_len xs
    omega
  clear hr
  go_loopg [3, 10] n (fun kq s i W => ∃ j : Nat, ∃ t : ByteArray, s = .string t ∧ i = .int .i64 j ∧ Hid (kq + j = n ∧ t.size ≤ 15 + 11 * j ∧ St w0 W g (m + 21 + 3 * j) ∧ But g w W))
  case atStart => exact ⟨0, _, rfl, rfl, Lib.hid ⟨by omega, hts, hs2, hk⟩⟩
  case round =>
    obtain ⟨j, t, rfl, rfl, R⟩ := hrel
    by_cases hj : j < n
    · go_wp2_with (go_at_call 56; go_must (refine (changed_calls t ⟨#[46, 120, 50, 126, 10, 32, 51]⟩ (by have := R.out.2.1; omega) (by decide) g (m + 21 + 3 * j) (by omega) w0 _ R.out.2.2.1 (h.keep hB R.out.2.2.2)).mono ?_; rintro e w3 ⟨r, rfl, hr3, hs3, hk3⟩))
      go_roundg (gk - 1)
      case measure => have := R.out.1; omega
      case rel => exact ⟨j + 1, r, rfl, by go_num, Lib.hid ⟨by have := R.out.1; omega, by have := R.out.2.1; have e7 : (⟨#[46, 120, 50, 126, 10, 32, 51]⟩ : ByteArray).size = 7 := rfl; omega, hs3, R.out.2.2.2.trans hk3⟩⟩
    · go_wp2_with fail
      go_ret
      exact ⟨t, rfl, by have := R.out; omega, R.out.2.2.1.more (by have := R.out.1; omega), R.out.2.2.2⟩
end Go.Proofs.YtlkklaahnkcnkaaDoor.X
