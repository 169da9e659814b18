/- Fates are read: lossy.Read, pbref1.FatesIn. -/
import Derived.Test.YtlkklaahnkcnkaaDoorZA
import Derived.Test.YtlkklaahnkcnkaaDoorC
namespace Go.Proofs.YtlkklaahnkcnkaaDoor.X
open Go.RowKit

theorem cutSuffix_calls (s : ByteArray) (w : World) (hs : s.size ≤ 9223372036854775807) :
    Calls Tryd.prog 57 #[.string s, .string ⟨#[10]⟩] w fun e w' => ∃ t : ByteArray, ∃ q : Bool, e = .returned (.tuple #[.string t, .bool q]) ∧ t.data.toList = Lib.trimSuffix s.data.toList [10] ∧ q = Lib.hasSuffix s.data.toList [10] ∧ w' = w := by
  refine (Tryd.strings_CutSuffix s ⟨#[10]⟩ w hs).mono ?_
  rintro e w' ⟨rfl, rfl⟩
  exact ⟨_, _, rfl, rfl, rfl, rfl⟩
theorem textFault_calls (s : ByteArray) (w : World) : Calls Tryd.prog 59 #[.string s] w fun e w' => e = .returned (.int .i64 (if 200000 < s.size then 2 else 0)) ∧ w' = w := by
  by_cases h : 200000 < s.size
  · rw [if_pos h]
    go_enter Tryd.func59, Tryd.ntmps59
    go_wp2_with fail
    go_ret
    exact ⟨rfl, rfl⟩
  · rw [if_neg h]
    go_enter Tryd.func59, Tryd.ntmps59
    go_wp2_with fail
    go_ret
    exact ⟨rfl, rfl⟩
/-- What was read. -/
def ReadR (w : World) (r : List Int × Int) (e : Ending) (w' : World) : Prop := ∃ v, e = .returned (.tuple #[v, .int .i64 r.2]) ∧ Own kInt 3 w' w.heap.size (fun _ => True) v r.1 ∧ Below w.heap.size w w'
theorem fatesOf_snoc (l : List UInt8) {j : Nat} (hj : j < l.length) : fatesOf (l.take (j + 1)) = fatesOf (l.take j) ++ [Lib.indexByte signsL l[j]] := by
  unfold fatesOf; rw [List.take_succ_eq_append_getElem hj, List.map_append]; rfl
theorem fatesOf_len (l : List UInt8) : (fatesOf l).length = l.length := by simp [fatesOf]
theorem take_all_snocL {p : UInt8 → Bool} (l : List UInt8) {j : Nat} (hj : j < l.length) : (l.take (j + 1)).all p = ((l.take j).all p && p l[j]) := by
  rw [List.take_succ_eq_append_getElem hj, List.all_append, List.all_cons, List.all_nil, Bool.and_true]
set_option maxHeartbeats 2000000 in
theorem read_calls (s : ByteArray) (w : World) (hs : s.size ≤ 140737488355328) : Calls Tryd.prog 24 #[.string s] w (ReadR w (readF s.data.toList)) := by
  have hsz : s.data.toList.length = s.size := rfl
  by_cases h0 : 200000 < s.size
  · have hr := readF_large (l := s.data.toList) (by omega)
    rw [hr]
    go_enter Tryd.func24, Tryd.ntmps24
    go_wp2_with fail
    go_ret2
    exact ⟨_, rfl, Own.nil _ _, Below.refl _ _⟩
  · cases hq : Lib.hasSuffix s.data.toList [10]
    · have hr := readF_open (l := s.data.toList) (by omega) hq
      rw [hr]
      go_enter Tryd.func24, Tryd.ntmps24
      go_wp2_with (go_at_call 57; go_must (refine (cutSuffix_calls s w (by omega)).mono ?_; rintro e w' ⟨t, q, rfl, ht, hq', rfl⟩; rw [hq] at hq'; subst hq'))
      go_ret2
      exact ⟨_, rfl, Own.nil _ _, Below.refl _ _⟩
    · have HQ := Lib.hid hq
      have hle := trimSuffix_le s.data.toList [10]
      have HL := Lib.hid (show ¬ 200000 < s.data.toList.length by omega)
      go_enter Tryd.func24, Tryd.ntmps24
      go_wp2_with (go_at_call 57; go_must (refine (cutSuffix_calls s w (by omega)).mono ?_; rintro e w' ⟨t, q, rfl, ht, hq', rfl⟩; rw [hq] at hq'; subst hq'; rw [← ht] at hle; have HT := Lib.hid ht; clear ht; have hl : t.size ≤ 200000 := (by have : t.data.toList.length = t.size := rfl; omega)))
      clear hq hle
      go_loopg [6, 7, 8, 22] t.size (fun kq v i1 k1 i W => ∃ j : Nat, i = .int .i64 j ∧ Hid (kq + j = t.size ∧ Own kInt 3 W w'.heap.size (fun _ => True) v (fatesOf (t.data.toList.take j)) ∧ (t.data.toList.take j).all (signsL.contains ·) = true ∧ Below w'.heap.size w' W))
      case atStart => exact ⟨0, rfl, Lib.hid ⟨by omega, Own.nil _ _, rfl, Below.refl _ _⟩⟩
      case round =>
        obtain ⟨j, rfl, R⟩ := hrel
        by_cases hj : j < t.size
        · have hsn := Lib.hid (fatesOf_snoc t.data.toList hj)
          have hal := Lib.hid (take_all_snocL (p := (signsL.contains ·)) t.data.toList hj)
          have hln := fatesOf_len (t.data.toList.take j)
          rw [List.length_take, Nat.min_eq_left (by exact Nat.le_of_lt hj)] at hln
          by_cases hb : signsL.contains t[j] = true
          · have Hb := Lib.hid hb
            clear hb
            go_wp2_with (first
              | (go_at_call 58; go_must (refine (ixb_calls _ _ _).mono ?_; rintro e w2 ⟨k2, rfl, hk2, rfl⟩; have hk2' := (sign_iff hk2).2 Hb.out; have HK := Lib.hid hk2; clear hk2))
              | (at_builtin; go_must (refine own_append R.out.2.1 k2 [.int .i64 k2] rfl (fun _ _ => trivial) R.out.2.2.2.size Tryd.underlying22 infoInt rfl (by decide) (by omega) rfl rfl rfl rfl ?_; intro v3 w3 hO3 hg3 _; have H3 := Lib.hid (show _ ∧ _ from ⟨hO3, R.out.2.2.2.grown hg3 R.out.2.2.2.size R.out.2.1.base⟩); clear hO3 hg3)))
            go_roundg (gk - 1)
            case measure => have := R.out.1; omega
            case rel => exact ⟨j + 1, by go_num, Lib.hid ⟨by have := R.out.1; omega, by rw [hsn.out, ← show k2 = Lib.indexByte signsL t.data.toList[j] from HK.out]; exact H3.out.1, by rw [hal.out, R.out.2.2.1]; exact Hb.out, H3.out.2⟩⟩
          · have Hb := Lib.hid hb
            clear hb
            go_wp2_with (go_at_call 58; go_must (refine (ixb_calls _ _ _).mono ?_; rintro e w2 ⟨k2, rfl, hk2, rfl⟩; have hk2' : k2 < 0 := Int.not_le.1 (fun h => Hb.out ((sign_iff hk2).1 h)); clear hk2))
            go_ret2
            have hna : (Lib.trimSuffix s.data.toList [10]).all (signsL.contains ·) = false := by
              rw [← HT.out, ← Bool.not_eq_true]
              intro h
              exact Hb.out (List.all_eq_true.1 h _ (by exact Array.getElem_mem_toList _))
            rw [readF_alien HL.out HQ.out hna]
            exact ⟨_, rfl, Own.nil _ _, R.out.2.2.2⟩
        · have ht' : t.data.toList.take j = t.data.toList := List.take_of_length_le (by have : t.data.toList.length = t.size := rfl; omega)
          have R' := Lib.hid R.out
          rw [ht'] at R'
          have hal : (Lib.trimSuffix s.data.toList [10]).all (signsL.contains ·) = true := by rw [← HT.out]; exact R'.out.2.2.1
          obtain ⟨A, c, rfl, hc, hrow⟩ := R'.out.2.1.row
          have hcf := checkFates_calls A _ c _ (hrow.mono fun _ _ => trivial)
          by_cases hf : fatesF (fatesOf t.data.toList) = 0
          · have e1 : readF s.data.toList = (fatesOf t.data.toList, 0) := by rw [HT.out] at hf ⊢; exact readF_right HL.out HQ.out hal hf
            rw [hf] at hcf
            clear hf
            go_wp2_with (go_at_call 18; go_must (refine hcf.mono ?_; rintro e w' ⟨rfl, rfl⟩))
            go_ret2
            rw [e1]
            exact ⟨_, rfl, R'.out.2.1, R.out.2.2.2⟩
          · have e1 : readF s.data.toList = ([], fatesF (fatesOf t.data.toList)) := by rw [HT.out] at hf ⊢; exact readF_wrong HL.out HQ.out hal hf
            have hne : (fatesF (fatesOf t.data.toList) == 0) = false := by simpa using hf
            go_wp2_with (go_at_call 18; go_must (refine hcf.mono ?_; rintro e w' ⟨rfl, rfl⟩))
            go_ret2
            rw [e1]
            exact ⟨_, rfl, Own.nil _ _, R.out.2.2.2⟩
set_option maxHeartbeats 2000000 in
theorem fatesIn_calls (s : ByteArray) (w : World) (hs : s.size ≤ 140737488355328) : Calls Tryd.prog 25 #[.string s] w (ReadR w (readF s.data.toList)) := by
  have hsz : s.data.toList.length = s.size := rfl
  have ht0 := textFault_calls s w
  by_cases h0 : 200000 < s.size
  · rw [if_pos h0] at ht0
    have hr := readF_large (l := s.data.toList) (by omega)
    rw [hr]
    go_enter Tryd.func25, Tryd.ntmps25
    go_wp2_with (go_at_call 59; go_must (refine ht0.mono ?_; rintro e w' ⟨rfl, rfl⟩))
    go_ret2
    exact ⟨_, rfl, Own.nil _ _, Below.refl _ _⟩
  · rw [if_neg h0] at ht0
    cases hq : Lib.hasSuffix s.data.toList [10]
    · have hr := readF_open (l := s.data.toList) (by omega) hq
      rw [hr]
      go_enter Tryd.func25, Tryd.ntmps25
      go_wp2_with (first
        | (go_at_call 59; go_must (refine ht0.mono ?_; rintro e w' ⟨rfl, rfl⟩; clear ht0))
        | (go_at_call 57; go_must (refine (cutSuffix_calls s _ (by omega)).mono ?_; rintro e w' ⟨t, q, rfl, ht, hq', rfl⟩; rw [hq] at hq'; subst hq')))
      go_ret2
      exact ⟨_, rfl, Own.nil _ _, Below.refl _ _⟩
    · have HQ := Lib.hid hq
      have hle := trimSuffix_le s.data.toList [10]
      have HL := Lib.hid (show ¬ 200000 < s.data.toList.length by omega)
      obtain ⟨t, HT⟩ : ∃ t : ByteArray, Hid (t.data.toList = Lib.trimSuffix s.data.toList [10]) := ⟨⟨(Lib.trimSuffix s.data.toList [10]).toArray⟩, Lib.hid rfl⟩
      rw [← HT.out] at hle
      have hl : t.size ≤ 200000 := by have : t.data.toList.length = t.size := rfl; omega
      clear hle hsz
      by_cases hal : t.data.toList.all (signsL.contains ·) = true
      · have Hal := Lib.hid hal
        clear hal
        go_enter Tryd.func25, Tryd.ntmps25
        go_wp2_with (first
          | (go_at_call 59; go_must (refine ht0.mono ?_; rintro e w' ⟨rfl, rfl⟩; clear ht0))
          | (go_at_call 57; go_must (refine (cutSuffix_calls s _ (by omega)).mono ?_; rintro e w' ⟨t', q, rfl, ht, hq', rfl⟩; rw [hq] at hq'; subst hq'; obtain rfl : t = t' := ByteArray.ext (Array.toList_inj.1 (HT.out.trans ht.symm)); clear ht))
          | (go_at_call 60; go_must (refine (trim_calls t ⟨#[46, 120, 50, 126]⟩ _ (by omega) (by decide) (by decide)).mono ?_; rintro e w2 ⟨rfl, hb2⟩; rw [show Lib.trimS t.data.toList (⟨#[46, 120, 50, 126]⟩ : ByteArray).data.toList = [] from (trimS_nil _ _).2 Hal.out])))
        go_loopg [7, 8, 29] t.size (fun kq v i1 i W => ∃ j : Nat, i = .int .i64 j ∧ Hid (kq + j = t.size ∧ Own kInt 3 W w'.heap.size (fun _ => True) v (fatesOf (t.data.toList.take j)) ∧ Below w'.heap.size w' W))
        case atStart => exact ⟨0, rfl, Lib.hid ⟨by omega, Own.nil _ _, hb2⟩⟩
        case round =>
          obtain ⟨j, rfl, R⟩ := hrel
          by_cases hj : j < t.size
          · have hsn := Lib.hid (fatesOf_snoc t.data.toList hj)
            have hln := fatesOf_len (t.data.toList.take j)
            rw [List.length_take, Nat.min_eq_left (by exact Nat.le_of_lt hj)] at hln
            go_wp2_with (first
              | (go_at_call 58; go_must (refine (ixb_calls _ _ _).mono ?_; rintro e w3 ⟨k2, rfl, hk2, rfl⟩; have HK := Lib.hid hk2; clear hk2))
              | (at_builtin; go_must (refine own_append R.out.2.1 k2 [.int .i64 k2] rfl (fun _ _ => trivial) R.out.2.2.size Tryd.underlying22 infoInt rfl (by decide) (by omega) rfl rfl rfl rfl ?_; intro v3 w3 hO3 hg3 _; have H3 := Lib.hid (show _ ∧ _ from ⟨hO3, R.out.2.2.grown hg3 R.out.2.2.size R.out.2.1.base⟩); clear hO3 hg3)))
            go_roundg (gk - 1)
            case measure => have := R.out.1; omega
            case rel => exact ⟨j + 1, by go_num, Lib.hid ⟨by have := R.out.1; omega, by rw [hsn.out, ← show k2 = Lib.indexByte signsL t.data.toList[j] from HK.out]; exact H3.out.1, H3.out.2⟩⟩
          · have ht' : t.data.toList.take j = t.data.toList := List.take_of_length_le (by have : t.data.toList.length = t.size := rfl; omega)
            have R' := Lib.hid R.out
            rw [ht'] at R'
            have hal : (Lib.trimSuffix s.data.toList [10]).all (signsL.contains ·) = true := by rw [← HT.out]; exact Hal.out
            obtain ⟨A, c, rfl, hc, hrow⟩ := R'.out.2.1.row
            have hcf := fatesFault_calls A _ c _ (hrow.mono fun _ _ => trivial)
            by_cases hf : fatesF (fatesOf t.data.toList) = 0
            · have e1 : readF s.data.toList = (fatesOf t.data.toList, 0) := by rw [HT.out] at hf ⊢; exact readF_right HL.out HQ.out hal hf
              rw [hf] at hcf
              clear hf
              go_wp2_with (go_at_call 10; go_must (refine hcf.mono ?_; rintro e w4 ⟨rfl, rfl⟩))
              go_ret2
              rw [e1]
              exact ⟨_, rfl, R'.out.2.1, R.out.2.2⟩
            · have e1 : readF s.data.toList = ([], fatesF (fatesOf t.data.toList)) := by rw [HT.out] at hf ⊢; exact readF_wrong HL.out HQ.out hal hf
              have hne : (fatesF (fatesOf t.data.toList) == 0) = false := by simpa using hf
              go_wp2_with (go_at_call 10; go_must (refine hcf.mono ?_; rintro e w4 ⟨rfl, rfl⟩))
              go_ret2
              rw [e1]
              exact ⟨_, rfl, Own.nil _ _, R.out.2.2⟩
      · have hna : (Lib.trimSuffix s.data.toList [10]).all (signsL.contains ·) = false := by rw [← HT.out]; exact Bool.eq_false_iff.2 hal
        have e1 := readF_alien HL.out HQ.out hna
        have hnt : Lib.trimS t.data.toList signsL ≠ [] := fun h => hal ((trimS_nil _ _).1 h)
        obtain ⟨u, hu⟩ : ∃ u : ByteArray, u = ⟨(Lib.trimS t.data.toList signsL).toArray⟩ := ⟨_, rfl⟩
        have hu0 : ¬ u.toList = [] := by rw [ByteArray.toList_eq, hu]; simpa using hnt
        rw [e1]
        have Hnt := Lib.hid hnt
        clear hal hnt hna
        go_enter Tryd.func25, Tryd.ntmps25
        go_wp2_with (first
          | (go_at_call 59; go_must (refine ht0.mono ?_; rintro e w' ⟨rfl, rfl⟩; clear ht0))
          | (go_at_call 57; go_must (refine (cutSuffix_calls s _ (by omega)).mono ?_; rintro e w' ⟨t', q, rfl, ht, hq', rfl⟩; rw [hq] at hq'; subst hq'; obtain rfl : t = t' := ByteArray.ext (Array.toList_inj.1 (HT.out.trans ht.symm)); clear ht))
          | (go_at_call 60; go_must (refine (trim_calls t ⟨#[46, 120, 50, 126]⟩ _ (by omega) (by decide) (by decide)).mono ?_; rintro e w2 ⟨rfl, hb2⟩; rw [show (⟨(Lib.trimS t.data.toList (⟨#[46, 120, 50, 126]⟩ : ByteArray).data.toList).toArray⟩ : ByteArray) = u from hu.symm])))
        · go_ret2
          exact ⟨_, rfl, Own.nil _ _, hb2⟩
        · exfalso
          have h : (!(Lib.trimS t.data.toList signsL).isEmpty) = false := by assumption
          exact Hnt.out (by simpa using h)
end Go.Proofs.YtlkklaahnkcnkaaDoor.X
