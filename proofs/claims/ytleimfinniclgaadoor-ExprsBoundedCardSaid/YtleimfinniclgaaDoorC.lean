/- Checks of names and numbers, walked. -/
import Derived.Test.YtleimfinniclgaaDoorLib
import Derived.Test.YtleimfinniclgaaDoorPure
import Derived.Test.YtleimfinniclgaaDoorShelf
import Derived.Lib.SlicesS
namespace Go.Proofs.YtleimfinniclgaaDoor.X
open Go.RowKit

theorem ixb_calls (s : ByteArray) (c : UInt8) (w : World) : Calls Tryd.prog 44 #[.string s, .int .u8 c.toNat] w fun e w' => ∃ k : Int, e = .returned (.int .i64 k) ∧ k = Lib.indexByte s.data.toList c ∧ w = w' := by
  refine (Tryd.strings_IndexByte s c.toNat w).mono ?_
  rintro e w' ⟨rfl, rfl⟩
  exact ⟨_, rfl, by simp, rfl⟩
theorem trim_calls (s c : ByteArray) (w : World) (hs : s.size ≤ 140737488355328) (hc : c.size < 4294967281) (ha : c.data.toList.all (fun b => decide (b.toNat < 128)) = true) :
    Calls Tryd.prog 61 #[.string s, .string c] w fun e w' => e = .returned (.string ⟨(Lib.trimS s.data.toList c.data.toList).toArray⟩) ∧ Below w.heap.size w w' :=
  Any.strings_Trim_laid Tryd.lays160 (by kernel_rfl) s c w (by omega) hc (fun j b hb => by
    have := List.all_eq_true.1 ha b (List.mem_of_getElem? hb)
    simpa using this)
theorem in_calls (n a b : Int) (w : World) : Calls Tryd.prog 43 #[.int .i64 n, .int .i64 a, .int .i64 b] w fun e w' => e = .returned (.bool (decide (a ≤ n ∧ n ≤ b))) ∧ w = w' := by
  by_cases h1 : a ≤ n <;> by_cases h2 : n ≤ b
  all_goals
    go_enter Tryd.func43, Tryd.ntmps43
    go_wp2
    go_ret
    exact ⟨by simp [h1, h2], rfl⟩
theorem in1_calls (n a b : Int) (w : World) : Calls Tryd.prog 25 #[.int .i64 n, .int .i64 a, .int .i64 b] w fun e w' => e = .returned (.bool (decide (a ≤ n ∧ n ≤ b))) ∧ w = w' := by
  by_cases h1 : a ≤ n <;> by_cases h2 : n ≤ b
  all_goals
    go_enter Tryd.func25, Tryd.ntmps25
    go_wp2
    go_ret
    exact ⟨by simp [h1, h2], rfl⟩
theorem outside_calls (n a b : Int) (w : World) : Calls Tryd.prog 39 #[.int .i64 n, .int .i64 a, .int .i64 b] w fun e w' => e = .returned (.bool (!decide (a ≤ n ∧ n ≤ b))) ∧ w = w' := by
  by_cases h1 : a ≤ n <;> by_cases h2 : n ≤ b
  all_goals
    go_enter Tryd.func39, Tryd.ntmps39
    go_wp2
    go_ret
    exact ⟨ret_bool (by simp [h1, h2]), rfl⟩
theorem isWord_calls (s : ByteArray) (w : World) : Calls Tryd.prog 60 #[.string s] w fun e w' => e = .returned (.bool (isWordL s.data.toList)) ∧ w = w' := by
  go_enter Tryd.func60, Tryd.ntmps60
  go_wp2
  all_goals
    go_ret
    refine ⟨ret_bool ?_, rfl⟩
    simp only [ByteArray.toList_eq] at *
    unfold isWordL
    simp [*]

theorem nameB_size {s : ByteArray} (h : ¬ (1 ≤ s.size ∧ s.size ≤ 40)) : nameB s = false := by
  have : s.data.toList.length = s.size := rfl
  unfold nameB nameL; rw [this, decide_eq_false h]; rfl
set_option maxHeartbeats 1000000 in
theorem isName_calls (s : ByteArray) (w : World) : Calls Tryd.prog 38 #[.string s] w fun e w' => e = .returned (.bool (nameB s)) ∧ Below w.heap.size w w' := by
  by_cases h0 : s.size = 0
  · have e0 : s.toList = [] := by rw [ByteArray.toList_eq]; exact List.eq_nil_of_length_eq_zero h0
    have hn := Lib.hid (nameB_size (s := s) (by omega))
    clear h0
    go_enter Tryd.func38, Tryd.ntmps38
    go_wp2_with fail
    go_ret
    exact ⟨ret_bool hn.out.symm, Below.refl _ _⟩
  · have e0 : ¬ s.toList = [] := by rw [ByteArray.toList_eq]; intro e; exact h0 (by have := congrArg List.length e; simpa using this)
    have hp : 0 < s.size := by omega
    clear h0
    go_enter Tryd.func38, Tryd.ntmps38
    go_wp2_with (first
      | (go_at_call 60; go_must (refine (isWord_calls _ _).mono ?_; rintro e w' ⟨rfl, rfl⟩))
      | (go_at_call 44; go_must (refine (ixb_calls _ _ _).mono ?_; rintro e w' ⟨k, rfl, hk, rfl⟩; have Hk := Lib.hid hk; clear hk))
      | (go_at_call 61; go_must (refine (trim_calls _ _ _ (by omega) (by decide) (by decide)).mono ?_; rintro e w' ⟨rfl, hb⟩)))
    · go_ret
      exact ⟨ret_bool (by rw [nameB_eq _ hp]; simp [*]), Below.refl _ _⟩
    · go_ret
      have h1 := (small_iff Hk.out).1 ‹_›
      have h2 : s.toList.isEmpty = false := by simpa using e0
      refine ⟨ret_bool ?_, hb⟩
      rw [nameB_eq _ hp, h1, h2, decide_eq_true (by omega), Bool.eq_false_iff.2 ‹¬isWordL s.data.toList = true›]
      rfl
    · go_ret
      have h1 : smalls.contains s[0] = false := Bool.eq_false_iff.2 (mt (small_iff Hk.out).2 (by omega))
      refine ⟨ret_bool ?_, Below.refl _ _⟩
      rw [nameB_eq _ hp, h1]; simp
    · go_ret
      refine ⟨ret_bool ?_, Below.refl _ _⟩
      rw [nameB_eq _ hp, decide_eq_false (by omega)]; rfl

theorem contains_calls (A : Option Addr) (xs : List ByteArray) (c : Nat) (x : ByteArray) (w : World) (h : Row kStr w (fun _ => True) A xs) :
    Calls Tryd.prog 45 #[.slice A xs.length c, .string x] w fun e w' => e = .returned (.bool (Lib.containsS xs x)) ∧ w = w' := by
  rcases Nat.eq_zero_or_pos xs.length with h0 | h0
  · have : xs = [] := List.eq_nil_of_length_eq_zero h0
    subst this
    refine (Tryd.slices_Contains_string_empty A c x w).mono ?_
    rintro e w' ⟨rfl, rfl⟩
    exact ⟨ret_bool (by simp [Lib.containsS, Lib.idxOfS, Lib.idxFromS]), rfl⟩
  · obtain ⟨b, off, rfl, -, hc⟩ := h.plain h0 ByteArray.empty
    refine (Tryd.slices_Contains_string b off xs.length c xs x w (Nat.le_refl _) (by have := h.1; omega) hc).mono ?_
    rintro e w' ⟨rfl, rfl⟩
    exact ⟨by rw [List.take_length], rfl⟩
def notName : List ByteArray := [⟨#[112, 114, 111, 99]⟩, ⟨#[109, 97, 105, 110]⟩, ⟨#[105, 102]⟩, ⟨#[101, 108, 115, 101]⟩]
theorem notName_iff (s : ByteArray) : Lib.containsS notName s = isWordL s.data.toList := by
  rw [Bool.eq_iff_iff, Lib.containsS_iff]
  have e : ∀ l : List UInt8, s = ⟨l.toArray⟩ ↔ s.data.toList = l := fun l => ⟨fun h => by rw [h], fun h => by rw [← h]⟩
  simp only [notName, List.mem_cons, List.not_mem_nil, or_false]
  rw [show (#[112, 114, 111, 99] : Array UInt8) = [112, 114, 111, 99].toArray from rfl, show (#[109, 97, 105, 110] : Array UInt8) = [109, 97, 105, 110].toArray from rfl, show (#[105, 102] : Array UInt8) = [105, 102].toArray from rfl, show (#[101, 108, 115, 101] : Array UInt8) = [101, 108, 115, 101].toArray from rfl, e, e, e, e]
  simp [isWordL, or_assoc]
theorem notName_calls (b t : Nat) (s : ByteArray) (w : World) (h : Blk w b #[.string ⟨#[112, 114, 111, 99]⟩, .string ⟨#[109, 97, 105, 110]⟩, .string ⟨#[105, 102]⟩, .string ⟨#[101, 108, 115, 101]⟩] t) :
    Calls Tryd.prog 45 #[.slice (some ⟨b, 0, none⟩) 4 4, .string s] w fun e w' => e = .returned (.bool (isWordL s.data.toList)) ∧ w = w' := by
  refine (contains_calls _ notName 4 s w (Row.lit_scal _ h rfl trivial (by decide))).mono ?_
  rintro e w' ⟨rfl, rfl⟩
  exact ⟨by rw [notName_iff], rfl⟩
theorem nameB_small {s : ByteArray} (h1 : 1 ≤ s.size) (h2 : s.size ≤ 40) : nameB s = (!isWordL s.data.toList && smalls.contains (s.data.toList.headD 0) && s.data.toList.all (wordBytes.contains ·)) := by
  have : s.data.toList.length = s.size := rfl
  unfold nameB nameL; rw [this, decide_eq_true ⟨h1, h2⟩]; rfl
theorem head_at (s : ByteArray) (h : 0 < s.size) : s.data.toList.headD 0 = s[0] := by
  have h1 : s.data.toList[0]? = some s[0] := by rw [Array.getElem?_toList]; exact Array.getElem?_eq_getElem _
  cases e : s.data.toList with
  | nil => rw [e] at h1; cases h1
  | cons a l => rw [e] at h1; simpa using h1
theorem take_all_snoc {p : UInt8 → Bool} (s : ByteArray) {j : Nat} (hj : j < s.size) : (s.data.toList.take (j + 1)).all p = ((s.data.toList.take j).all p && p s[j]) := by
  have hj' : j < s.data.toList.length := hj
  rw [List.take_succ_eq_append_getElem hj', List.all_append, List.all_cons, List.all_nil, Bool.and_true]
  rfl
set_option maxHeartbeats 1000000 in
theorem name_calls (s : ByteArray) (w : World) : Calls Tryd.prog 24 #[.string s] w fun e w' => e = .returned (.bool (nameB s)) ∧ Below w.heap.size w w' := by
  by_cases hz : 1 ≤ s.size ∧ s.size ≤ 40
  · have hp : 0 < s.size := hz.1
    have hq : s.size ≤ 40 := hz.2
    have hd : decide ((1 : Int) ≤ s.size ∧ (s.size : Int) ≤ 40) = true := by simp; omega
    have hm := Lib.hid (nameB_small hz.1 hz.2)
    have hh := Lib.hid (head_at s hp)
    clear hz
    by_cases hsm : smalls.contains s[0] = true
    · have Hsm := Lib.hid hsm
      clear hsm
      cases hw : isWordL s.data.toList
      · go_enter Tryd.func24, Tryd.ntmps24
        go_wp2_with (first
          | (go_at_call 43; go_must (refine (in_calls _ _ _ _).mono ?_; rintro e w' ⟨rfl, rfl⟩))
          | (go_at_call 44; go_must (refine (ixb_calls _ _ _).mono ?_; rintro e w' ⟨k, rfl, hk, rfl⟩; have hk' := (small_iff hk).2 Hsm.out; clear hk))
          | (go_at_call 45; go_must (refine (notName_calls _ _ _ _ (Blk.new _ _ _)).mono ?_; rintro e w' ⟨rfl, rfl⟩)))
        go_loopg [3, 21] s.size (fun kq v i W => ∃ j : Nat, i = .int .i64 j ∧ Hid (kq + j = s.size ∧ (s.data.toList.take j).all (wordBytes.contains ·) = true ∧ Below w.heap.size w W))
        case atStart => exact ⟨0, rfl, Lib.hid ⟨by omega, by simp, (Below.refl _ _).alloc (Nat.le_refl _) _⟩⟩
        case round =>
          obtain ⟨j, rfl, H⟩ := hrel
          by_cases hj : j < s.size
          · by_cases hb : wordBytes.contains s[j] = true
            · have Hb := Lib.hid hb
              clear hb
              go_wp2_with (go_at_call 44; go_must (refine (ixb_calls _ _ _).mono ?_; rintro e w' ⟨k2, rfl, hk2, rfl⟩; have hk2' := (word_iff hk2).2 Hb.out; clear hk2))
              go_roundg (gk - 1)
              case measure => have := H.out.1; omega
              case rel => exact ⟨j + 1, by go_num, Lib.hid ⟨by have := H.out.1; omega, by rw [take_all_snoc s hj, H.out.2.1, Hb.out]; rfl, H.out.2.2⟩⟩
            · have Hb := Lib.hid hb
              clear hb
              go_wp2_with (go_at_call 44; go_must (refine (ixb_calls _ _ _).mono ?_; rintro e w' ⟨k2, rfl, hk2, rfl⟩; have hk2' : k2 < 0 := Int.not_le.1 (fun h => Hb.out ((word_iff hk2).1 h)); clear hk2))
              go_ret
              refine ⟨ret_bool ?_, H.out.2.2⟩
              rw [hm.out]
              have : s.data.toList.all (wordBytes.contains ·) = false := by
                rw [← Bool.not_eq_true]
                intro h
                exact Hb.out (List.all_eq_true.1 h _ (by exact Array.getElem_mem_toList _))
              rw [this, Bool.and_false]
          · go_wp2_with fail
            go_ret
            refine ⟨ret_bool ?_, H.out.2.2⟩
            have hj' : j = s.size := by have := H.out.1; omega
            have ha := H.out.2.1
            rw [List.take_of_length_le (by rw [hj']; exact Nat.le_refl _)] at ha
            rw [hm.out, hh.out, ha, Hsm.out, hw]; rfl
      · go_enter Tryd.func24, Tryd.ntmps24
        go_wp2_with (first
          | (go_at_call 43; go_must (refine (in_calls _ _ _ _).mono ?_; rintro e w' ⟨rfl, rfl⟩))
          | (go_at_call 44; go_must (refine (ixb_calls _ _ _).mono ?_; rintro e w' ⟨k, rfl, hk, rfl⟩; have hk' := (small_iff hk).2 Hsm.out; clear hk))
          | (go_at_call 45; go_must (refine (notName_calls _ _ _ _ (Blk.new _ _ _)).mono ?_; rintro e w' ⟨rfl, rfl⟩)))
        go_ret
        exact ⟨ret_bool (by rw [hm.out, hw]; rfl), (Below.refl _ _).alloc (Nat.le_refl _) _⟩
    · have Hsm := Lib.hid hsm
      clear hsm
      go_enter Tryd.func24, Tryd.ntmps24
      go_wp2_with (first
        | (go_at_call 43; go_must (refine (in_calls _ _ _ _).mono ?_; rintro e w' ⟨rfl, rfl⟩))
        | (go_at_call 44; go_must (refine (ixb_calls _ _ _).mono ?_; rintro e w' ⟨k, rfl, hk, rfl⟩; have hk' : k < 0 := Int.not_le.1 (fun h => Hsm.out ((small_iff hk).1 h)); clear hk)))
      go_ret
      exact ⟨ret_bool (by rw [hm.out, hh.out, Bool.eq_false_iff.2 Hsm.out, Bool.and_false, Bool.false_and]), Below.refl _ _⟩
  · have hd : decide ((1 : Int) ≤ s.size ∧ (s.size : Int) ≤ 40) = false := by simp; omega
    have hn := Lib.hid (nameB_size hz)
    clear hz
    go_enter Tryd.func24, Tryd.ntmps24
    go_wp2_with (go_at_call 43; go_must (refine (in_calls _ _ _ _).mono ?_; rintro e w' ⟨rfl, rfl⟩))
    go_ret
    exact ⟨ret_bool hn.out.symm, Below.refl _ _⟩
end Go.Proofs.YtleimfinniclgaaDoor.X
