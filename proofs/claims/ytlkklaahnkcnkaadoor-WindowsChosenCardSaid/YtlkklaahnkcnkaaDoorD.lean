/- Fates and letters, checked. -/
import Derived.Test.YtlkklaahnkcnkaaDoorC
import Derived.Test.YtlkklaahnkcnkaaDoorLt
namespace Go.Proofs.YtlkklaahnkcnkaaDoor.X
open Go.RowKit

theorem spanFault_calls (n a b : Int) (w : World) : Calls Tryd.prog 13 #[.int .i64 n, .int .i64 a, .int .i64 b] w fun e w' => e = .returned (.int .i64 (spanF n a b)) ∧ w = w' := by
  by_cases h : a ≤ n ∧ n ≤ b
  all_goals
    have hd : decide (a ≤ n ∧ n ≤ b) = decide (a ≤ n ∧ n ≤ b) := rfl
    first | (have hd : decide (a ≤ n ∧ n ≤ b) = true := decide_eq_true h) | (have hd : decide (a ≤ n ∧ n ≤ b) = false := decide_eq_false h)
    have hf := Lib.hid (show spanF n a b = if a ≤ n ∧ n ≤ b then 0 else 1 from rfl)
    have H := Lib.hid h
    clear h
    go_enter Tryd.func13, Tryd.ntmps13
    go_wp2_with (go_at_call 44; go_must (refine (in1_calls _ _ _ _).mono ?_; rintro e w' ⟨rfl, rfl⟩))
    go_ret
    first | exact ⟨ret_int (by rw [hf.out, if_pos H.out]), rfl⟩ | exact ⟨ret_int (by rw [hf.out, if_neg H.out]), rfl⟩
set_option maxHeartbeats 1000000 in
theorem fatesFault_calls (A : Option Addr) (xs : List Int) (c : Nat) (w : World) (h : Row kInt w (fun _ => True) A xs) :
    Calls Tryd.prog 10 #[.slice A xs.length c] w fun e w' => e = .returned (.int .i64 (fatesF xs)) ∧ w = w' := by
  have hl := h.1
  have H := Lib.hid h
  clear h
  by_cases h0 : 2000 < xs.length
  · have hf := Lib.hid (show fatesF xs = 2 from if_pos h0)
    go_enter Tryd.func10, Tryd.ntmps10
    go_wp2_with fail
    go_ret
    exact ⟨ret_int hf.out.symm, rfl⟩
  · have hf := Lib.hid (show fatesF xs = errFirst fateF xs from if_neg h0)
    go_enter Tryd.func10, Tryd.ntmps10
    go_wp2_with fail
    go_loopg [4, 10] xs.length (fun kq v i W => ∃ j : Nat, i = .int .i64 j ∧ Hid (kq + j = xs.length ∧ errFirst fateF (xs.take j) = 0 ∧ w = W))
    case atStart => exact ⟨0, rfl, Lib.hid ⟨by omega, rfl, rfl⟩⟩
    case round =>
      obtain ⟨j, rfl, R⟩ := hrel
      obtain rfl := R.out.2.2
      by_cases hj : j < xs.length
      · obtain ⟨ad, rfl, -, hc⟩ := H.out.cell_scal hj
        by_cases hx : 0 ≤ xs[j] ∧ xs[j] ≤ 3
        · have hd : decide (0 ≤ xs[j] ∧ xs[j] ≤ 3) = true := decide_eq_true hx
          have hz := Lib.hid (show fateF xs[j] = 0 from if_pos hx)
          clear hx
          go_wp2_with (go_at_call 44; go_must (refine (in1_calls _ _ _ _).mono ?_; rintro e w' ⟨rfl, rfl⟩))
          go_roundg (gk - 1)
          case measure => have := R.out.1; omega
          case rel => exact ⟨j + 1, by go_num, Lib.hid ⟨by have := R.out.1; omega, errFirst_snoc _ hj R.out.2.1 hz.out, rfl⟩⟩
        · have hd : decide (0 ≤ xs[j] ∧ xs[j] ≤ 3) = false := decide_eq_false hx
          have hz := Lib.hid (show fateF xs[j] = 4 from if_neg hx)
          clear hx
          go_wp2_with (go_at_call 44; go_must (refine (in1_calls _ _ _ _).mono ?_; rintro e w' ⟨rfl, rfl⟩))
          go_ret
          exact ⟨ret_int (by rw [hf.out, errFirst_hit _ hj R.out.2.1 (by rw [hz.out]; decide), hz.out]), rfl⟩
      · go_wp2_with fail
        go_ret
        exact ⟨ret_int (by rw [hf.out, errFirst_all _ (by omega) R.out.2.1]), rfl⟩
set_option maxHeartbeats 1000000 in
theorem checkFates_calls (A : Option Addr) (xs : List Int) (c : Nat) (w : World) (h : Row kInt w (fun _ => True) A xs) :
    Calls Tryd.prog 18 #[.slice A xs.length c] w fun e w' => e = .returned (.int .i64 (fatesF xs)) ∧ w = w' := by
  have hl := h.1
  have H := Lib.hid h
  clear h
  by_cases h0 : 2000 < xs.length
  · have hf := Lib.hid (show fatesF xs = 2 from if_pos h0)
    go_enter Tryd.func18, Tryd.ntmps18
    go_wp2_with fail
    go_ret
    exact ⟨ret_int hf.out.symm, rfl⟩
  · have hf := Lib.hid (show fatesF xs = errFirst fateF xs from if_neg h0)
    go_enter Tryd.func18, Tryd.ntmps18
    go_wp2_with fail
    go_loopg [4, 10] xs.length (fun kq v i W => ∃ j : Nat, i = .int .i64 j ∧ Hid (kq + j = xs.length ∧ errFirst fateF (xs.take j) = 0 ∧ w = W))
    case atStart => exact ⟨0, rfl, Lib.hid ⟨by omega, rfl, rfl⟩⟩
    case round =>
      obtain ⟨j, rfl, R⟩ := hrel
      obtain rfl := R.out.2.2
      by_cases hj : j < xs.length
      · obtain ⟨ad, rfl, -, hc⟩ := H.out.cell_scal hj
        by_cases hx : 0 ≤ xs[j] ∧ xs[j] ≤ 3
        · have hd : decide (0 ≤ xs[j] ∧ xs[j] ≤ 3) = true := decide_eq_true hx
          have hz := Lib.hid (show fateF xs[j] = 0 from if_pos hx)
          clear hx
          go_wp2_with (go_at_call 52; go_must (refine (outside_calls _ _ _ _).mono ?_; rintro e w' ⟨rfl, rfl⟩))
          go_roundg (gk - 1)
          case measure => have := R.out.1; omega
          case rel => exact ⟨j + 1, by go_num, Lib.hid ⟨by have := R.out.1; omega, errFirst_snoc _ hj R.out.2.1 hz.out, rfl⟩⟩
        · have hd : decide (0 ≤ xs[j] ∧ xs[j] ≤ 3) = false := decide_eq_false hx
          have hz := Lib.hid (show fateF xs[j] = 4 from if_neg hx)
          clear hx
          go_wp2_with (go_at_call 52; go_must (refine (outside_calls _ _ _ _).mono ?_; rintro e w' ⟨rfl, rfl⟩))
          go_ret
          exact ⟨ret_int (by rw [hf.out, errFirst_hit _ hj R.out.2.1 (by rw [hz.out]; decide), hz.out]), rfl⟩
      · go_wp2_with fail
        go_ret
        exact ⟨ret_int (by rw [hf.out, errFirst_all _ (by omega) R.out.2.1]), rfl⟩
theorem below_new {w0 w w' : World} {o : Obj} (h : Below w0.heap.size w0 w) (hb : Below (w.alloc o).heap.size (w.alloc o) w') : Below w0.heap.size w0 w' :=
  (below_al h o).trans (hb.mono (by have := h.size; simp; omega))
set_option maxHeartbeats 2000000 in
theorem lettersFault1_calls (A : Option Addr) (xs : List Lt) (c : Nat) (w : World) (h : Row kLt w (fun _ => True) A xs) :
    Calls Tryd.prog 12 #[.slice A xs.length c] w fun e w' => e = .returned (.int .i64 (lettersF xs)) ∧ Below w.heap.size w w' := by
  have hl := h.1
  have H := Lib.hid h
  clear h
  by_cases h0 : 500 < xs.length
  · have hf := Lib.hid (show lettersF xs = 2 from by exact if_pos h0)
    go_enter Tryd.func12, Tryd.ntmps12
    go_wp2_with fail
    go_ret
    exact ⟨ret_int hf.out.symm, Below.refl _ _⟩
  · have hg := Lib.hid (show lettersF xs = errFirst letF xs from if_neg h0)
    have hf0 : ∀ k, errFirst letF xs = k → k ≠ 0 → lettersF xs = k := fun k hk h0 => by rw [hg.out, hk]
    have hf := Lib.hid hf0
    clear hf0
    go_enter Tryd.func12, Tryd.ntmps12
    go_wp2_with fail
    go_loopg [10] xs.length (fun kq i W => ∃ j : Nat, i = .int .i64 j ∧ Hid (kq + j = xs.length ∧ errFirst letF (xs.take j) = 0 ∧ Below w.heap.size w W))
    case atStart => exact ⟨0, rfl, Lib.hid ⟨by omega, rfl, Below.refl _ _⟩⟩
    case round =>
      obtain ⟨j, rfl, R⟩ := hrel
      by_cases hj : j < xs.length
      · obtain ⟨ad, rfl, -, hc0, hc1⟩ := kLt_at (H.out.below R.out.2.2) hj
        have hcl : xs[j].label.toList = xs[j].label.data.toList := ByteArray.toList_eq _
        have Hcl := Lib.hid hcl
        clear hcl
        by_cases e0 : xs[j].label.toList = []
        · have E0 := Lib.hid (show xs[j].label.data.toList = [] from Hcl.out ▸ e0)
          by_cases hr : 0 ≤ xs[j].value ∧ xs[j].value ≤ 999
          · have hd : decide (0 ≤ xs[j].value ∧ xs[j].value ≤ 999) = true := decide_eq_true hr
            have Hr := Lib.hid hr
            clear hr
            have hz := Lib.hid (show letF xs[j] = 0 from by unfold letF; rw [if_neg (by simp [E0.out]), if_neg (by simp; exact Hr.out), if_neg (by simp [E0.out])])
            go_wp2_with (first
              | (go_at_call 45; go_must (refine (name_calls _ _).mono ?_; rintro e w' ⟨rfl, hb⟩; have hB' := (Blk.new wr #[Value.string xs[j].label, .int .i64 xs[j].value] 47).below hb; obtain ⟨c0', f0'⟩ := hB'.c0; obtain ⟨c1', f1'⟩ := hB'.c1; have hbb := Lib.hid (below_new R.out.2.2 hb); clear hb hB'))
              | (go_at_call 44; go_must (refine (in1_calls _ _ _ _).mono ?_; rintro e w' ⟨rfl, rfl⟩)))
            go_roundg (gk - 1)
            case measure => have := R.out.1; omega
            case rel => exact ⟨j + 1, by go_num, Lib.hid ⟨by have := R.out.1; omega, errFirst_snoc _ hj R.out.2.1 hz.out, below_al R.out.2.2 _⟩⟩
          · have hd : decide (0 ≤ xs[j].value ∧ xs[j].value ≤ 999) = false := decide_eq_false hr
            have Hr := Lib.hid hr
            clear hr
            have hz := Lib.hid (show letF xs[j] = 1 from by unfold letF; rw [if_neg (by simp [E0.out]), if_pos Hr.out])
            go_wp2_with (first
              | (go_at_call 45; go_must (refine (name_calls _ _).mono ?_; rintro e w' ⟨rfl, hb⟩; have hB' := (Blk.new wr #[Value.string xs[j].label, .int .i64 xs[j].value] 47).below hb; obtain ⟨c0', f0'⟩ := hB'.c0; obtain ⟨c1', f1'⟩ := hB'.c1; have hbb := Lib.hid (below_new R.out.2.2 hb); clear hb hB'))
              | (go_at_call 44; go_must (refine (in1_calls _ _ _ _).mono ?_; rintro e w' ⟨rfl, rfl⟩)))
            go_ret
            exact ⟨ret_int ((hf.out _ ((errFirst_hit _ hj R.out.2.1 (by rw [hz.out]; decide)).trans hz.out) (by decide)).symm), below_al R.out.2.2 _⟩
        · have E0 := Lib.hid (show ¬ xs[j].label.data.toList = [] from Hcl.out ▸ e0)
          have e1 : (!xs[j].label.toList.isEmpty) = true := by simpa using e0
          cases hn : nameB xs[j].label
          · have hz := Lib.hid (show letF xs[j] = 5 from by unfold letF; rw [if_pos ⟨E0.out, hn⟩])
            go_wp2_with (first
              | (go_at_call 45; go_must (refine (name_calls _ _).mono ?_; rintro e w' ⟨rfl, hb⟩; have hB' := (Blk.new wr #[Value.string xs[j].label, .int .i64 xs[j].value] 47).below hb; obtain ⟨c0', f0'⟩ := hB'.c0; obtain ⟨c1', f1'⟩ := hB'.c1; have hbb := Lib.hid (below_new R.out.2.2 hb); clear hb hB'))
              | (go_at_call 44; go_must (refine (in1_calls _ _ _ _).mono ?_; rintro e w' ⟨rfl, rfl⟩)))
            go_ret
            exact ⟨ret_int ((hf.out _ ((errFirst_hit _ hj R.out.2.1 (by rw [hz.out]; decide)).trans hz.out) (by decide)).symm), hbb.out⟩
          · by_cases hr : 0 ≤ xs[j].value ∧ xs[j].value ≤ 999
            · have hd : decide (0 ≤ xs[j].value ∧ xs[j].value ≤ 999) = true := decide_eq_true hr
              have Hr := Lib.hid hr
              clear hr
              by_cases hv : xs[j].value = 0
              · have hv1 : (xs[j].value != 0) = false := by simp [hv]
                have Hv := Lib.hid hv
                clear hv
                have hz := Lib.hid (show letF xs[j] = 0 from by unfold letF; rw [if_neg (by simp [hn]), if_neg (by simp; exact Hr.out), if_neg (by simp [Hv.out])])
                go_wp2_with (first
                  | (go_at_call 45; go_must (refine (name_calls _ _).mono ?_; rintro e w' ⟨rfl, hb⟩; have hB' := (Blk.new wr #[Value.string xs[j].label, .int .i64 xs[j].value] 47).below hb; obtain ⟨c0', f0'⟩ := hB'.c0; obtain ⟨c1', f1'⟩ := hB'.c1; have hbb := Lib.hid (below_new R.out.2.2 hb); clear hb hB'))
                  | (go_at_call 44; go_must (refine (in1_calls _ _ _ _).mono ?_; rintro e w' ⟨rfl, rfl⟩)))
                go_roundg (gk - 1)
                case measure => have := R.out.1; omega
                case rel => exact ⟨j + 1, by go_num, Lib.hid ⟨by have := R.out.1; omega, errFirst_snoc _ hj R.out.2.1 hz.out, hbb.out⟩⟩
              · have hv1 : (xs[j].value != 0) = true := by simp [hv]
                have Hv := Lib.hid hv
                clear hv
                have hz := Lib.hid (show letF xs[j] = 3 from by unfold letF; rw [if_neg (by simp [hn]), if_neg (by simp; exact Hr.out), if_pos ⟨E0.out, Hv.out⟩])
                go_wp2_with (first
                  | (go_at_call 45; go_must (refine (name_calls _ _).mono ?_; rintro e w' ⟨rfl, hb⟩; have hB' := (Blk.new wr #[Value.string xs[j].label, .int .i64 xs[j].value] 47).below hb; obtain ⟨c0', f0'⟩ := hB'.c0; obtain ⟨c1', f1'⟩ := hB'.c1; have hbb := Lib.hid (below_new R.out.2.2 hb); clear hb hB'))
                  | (go_at_call 44; go_must (refine (in1_calls _ _ _ _).mono ?_; rintro e w' ⟨rfl, rfl⟩)))
                go_ret
                exact ⟨ret_int ((hf.out _ ((errFirst_hit _ hj R.out.2.1 (by rw [hz.out]; decide)).trans hz.out) (by decide)).symm), hbb.out⟩
            · have hd : decide (0 ≤ xs[j].value ∧ xs[j].value ≤ 999) = false := decide_eq_false hr
              have Hr := Lib.hid hr
              clear hr
              have hz := Lib.hid (show letF xs[j] = 1 from by unfold letF; rw [if_neg (by simp [hn]), if_pos Hr.out])
              go_wp2_with (first
                | (go_at_call 45; go_must (refine (name_calls _ _).mono ?_; rintro e w' ⟨rfl, hb⟩; have hB' := (Blk.new wr #[Value.string xs[j].label, .int .i64 xs[j].value] 47).below hb; obtain ⟨c0', f0'⟩ := hB'.c0; obtain ⟨c1', f1'⟩ := hB'.c1; have hbb := Lib.hid (below_new R.out.2.2 hb); clear hb hB'))
                | (go_at_call 44; go_must (refine (in1_calls _ _ _ _).mono ?_; rintro e w' ⟨rfl, rfl⟩)))
              go_ret
              exact ⟨ret_int ((hf.out _ ((errFirst_hit _ hj R.out.2.1 (by rw [hz.out]; decide)).trans hz.out) (by decide)).symm), hbb.out⟩
      · go_wp2_with fail
        go_ret
        exact ⟨ret_int (by rw [hg.out, errFirst_all _ (by omega) R.out.2.1]), R.out.2.2⟩
set_option maxHeartbeats 2000000 in
theorem lettersFault_calls (A : Option Addr) (xs : List Lt) (c : Nat) (B : Option Addr) (ys : List Int) (c2 : Nat) (w : World) (h : Row kLt w (fun _ => True) A xs) (h2 : Row kInt w (fun _ => True) B ys) :
    Calls Tryd.prog 61 #[.slice A xs.length c, .slice B ys.length c2] w fun e w' => e = .returned (.int .i64 (thenF (lettersF xs) (fatesF ys))) ∧ Below w.heap.size w w' := by
  have hl := h.1
  have H := Lib.hid h
  clear h
  have H2 := Lib.hid h2
  clear h2
  by_cases h0 : 500 < xs.length
  · have hf := Lib.hid (show (thenF (lettersF xs) (fatesF ys)) = 2 from by unfold thenF; rw [show lettersF xs = 2 from if_pos h0]; rfl)
    go_enter Tryd.func61, Tryd.ntmps61
    go_wp2_with fail
    go_ret
    exact ⟨ret_int hf.out.symm, Below.refl _ _⟩
  · have hg := Lib.hid (show lettersF xs = errFirst letF xs from if_neg h0)
    have hf0 : ∀ k, errFirst letF xs = k → k ≠ 0 → (thenF (lettersF xs) (fatesF ys)) = k := fun k hk h0 => by unfold thenF; rw [hg.out, hk, if_neg h0]
    have hf := Lib.hid hf0
    clear hf0
    go_enter Tryd.func61, Tryd.ntmps61
    go_wp2_with fail
    go_loopg [12] xs.length (fun kq i W => ∃ j : Nat, i = .int .i64 j ∧ Hid (kq + j = xs.length ∧ errFirst letF (xs.take j) = 0 ∧ Below w.heap.size w W))
    case atStart => exact ⟨0, rfl, Lib.hid ⟨by omega, rfl, Below.refl _ _⟩⟩
    case round =>
      obtain ⟨j, rfl, R⟩ := hrel
      by_cases hj : j < xs.length
      · obtain ⟨ad, rfl, -, hc0, hc1⟩ := kLt_at (H.out.below R.out.2.2) hj
        have hcl : xs[j].label.toList = xs[j].label.data.toList := ByteArray.toList_eq _
        have Hcl := Lib.hid hcl
        clear hcl
        by_cases e0 : xs[j].label.toList = []
        · have E0 := Lib.hid (show xs[j].label.data.toList = [] from Hcl.out ▸ e0)
          by_cases hr : 0 ≤ xs[j].value ∧ xs[j].value ≤ 999
          · have hd : decide (0 ≤ xs[j].value ∧ xs[j].value ≤ 999) = true := decide_eq_true hr
            have Hr := Lib.hid hr
            clear hr
            have hz := Lib.hid (show letF xs[j] = 0 from by unfold letF; rw [if_neg (by simp [E0.out]), if_neg (by simp; exact Hr.out), if_neg (by simp [E0.out])])
            go_wp2_with (first
              | (go_at_call 93; go_must (refine (isName_calls _ _).mono ?_; rintro e w' ⟨rfl, hb⟩; have hB' := (Blk.new wr #[Value.string xs[j].label, .int .i64 xs[j].value] 47).below hb; obtain ⟨c0', f0'⟩ := hB'.c0; obtain ⟨c1', f1'⟩ := hB'.c1; have hbb := Lib.hid (below_new R.out.2.2 hb); clear hb hB'))
              | (go_at_call 52; go_must (refine (outside_calls _ _ _ _).mono ?_; rintro e w' ⟨rfl, rfl⟩)))
            go_roundg (gk - 1)
            case measure => have := R.out.1; omega
            case rel => exact ⟨j + 1, by go_num, Lib.hid ⟨by have := R.out.1; omega, errFirst_snoc _ hj R.out.2.1 hz.out, below_al R.out.2.2 _⟩⟩
          · have hd : decide (0 ≤ xs[j].value ∧ xs[j].value ≤ 999) = false := decide_eq_false hr
            have Hr := Lib.hid hr
            clear hr
            have hz := Lib.hid (show letF xs[j] = 1 from by unfold letF; rw [if_neg (by simp [E0.out]), if_pos Hr.out])
            go_wp2_with (first
              | (go_at_call 93; go_must (refine (isName_calls _ _).mono ?_; rintro e w' ⟨rfl, hb⟩; have hB' := (Blk.new wr #[Value.string xs[j].label, .int .i64 xs[j].value] 47).below hb; obtain ⟨c0', f0'⟩ := hB'.c0; obtain ⟨c1', f1'⟩ := hB'.c1; have hbb := Lib.hid (below_new R.out.2.2 hb); clear hb hB'))
              | (go_at_call 52; go_must (refine (outside_calls _ _ _ _).mono ?_; rintro e w' ⟨rfl, rfl⟩)))
            go_ret
            exact ⟨ret_int ((hf.out _ ((errFirst_hit _ hj R.out.2.1 (by rw [hz.out]; decide)).trans hz.out) (by decide)).symm), below_al R.out.2.2 _⟩
        · have E0 := Lib.hid (show ¬ xs[j].label.data.toList = [] from Hcl.out ▸ e0)
          have e1 : (!xs[j].label.toList.isEmpty) = true := by simpa using e0
          cases hn : nameB xs[j].label
          · have hz := Lib.hid (show letF xs[j] = 5 from by unfold letF; rw [if_pos ⟨E0.out, hn⟩])
            go_wp2_with (first
              | (go_at_call 93; go_must (refine (isName_calls _ _).mono ?_; rintro e w' ⟨rfl, hb⟩; have hB' := (Blk.new wr #[Value.string xs[j].label, .int .i64 xs[j].value] 47).below hb; obtain ⟨c0', f0'⟩ := hB'.c0; obtain ⟨c1', f1'⟩ := hB'.c1; have hbb := Lib.hid (below_new R.out.2.2 hb); clear hb hB'))
              | (go_at_call 52; go_must (refine (outside_calls _ _ _ _).mono ?_; rintro e w' ⟨rfl, rfl⟩)))
            go_ret
            exact ⟨ret_int ((hf.out _ ((errFirst_hit _ hj R.out.2.1 (by rw [hz.out]; decide)).trans hz.out) (by decide)).symm), hbb.out⟩
          · by_cases hr : 0 ≤ xs[j].value ∧ xs[j].value ≤ 999
            · have hd : decide (0 ≤ xs[j].value ∧ xs[j].value ≤ 999) = true := decide_eq_true hr
              have Hr := Lib.hid hr
              clear hr
              by_cases hv : xs[j].value = 0
              · have hv1 : (xs[j].value != 0) = false := by simp [hv]
                have Hv := Lib.hid hv
                clear hv
                have hz := Lib.hid (show letF xs[j] = 0 from by unfold letF; rw [if_neg (by simp [hn]), if_neg (by simp; exact Hr.out), if_neg (by simp [Hv.out])])
                go_wp2_with (first
                  | (go_at_call 93; go_must (refine (isName_calls _ _).mono ?_; rintro e w' ⟨rfl, hb⟩; have hB' := (Blk.new wr #[Value.string xs[j].label, .int .i64 xs[j].value] 47).below hb; obtain ⟨c0', f0'⟩ := hB'.c0; obtain ⟨c1', f1'⟩ := hB'.c1; have hbb := Lib.hid (below_new R.out.2.2 hb); clear hb hB'))
                  | (go_at_call 52; go_must (refine (outside_calls _ _ _ _).mono ?_; rintro e w' ⟨rfl, rfl⟩)))
                go_roundg (gk - 1)
                case measure => have := R.out.1; omega
                case rel => exact ⟨j + 1, by go_num, Lib.hid ⟨by have := R.out.1; omega, errFirst_snoc _ hj R.out.2.1 hz.out, hbb.out⟩⟩
              · have hv1 : (xs[j].value != 0) = true := by simp [hv]
                have Hv := Lib.hid hv
                clear hv
                have hz := Lib.hid (show letF xs[j] = 3 from by unfold letF; rw [if_neg (by simp [hn]), if_neg (by simp; exact Hr.out), if_pos ⟨E0.out, Hv.out⟩])
                go_wp2_with (first
                  | (go_at_call 93; go_must (refine (isName_calls _ _).mono ?_; rintro e w' ⟨rfl, hb⟩; have hB' := (Blk.new wr #[Value.string xs[j].label, .int .i64 xs[j].value] 47).below hb; obtain ⟨c0', f0'⟩ := hB'.c0; obtain ⟨c1', f1'⟩ := hB'.c1; have hbb := Lib.hid (below_new R.out.2.2 hb); clear hb hB'))
                  | (go_at_call 52; go_must (refine (outside_calls _ _ _ _).mono ?_; rintro e w' ⟨rfl, rfl⟩)))
                go_ret
                exact ⟨ret_int ((hf.out _ ((errFirst_hit _ hj R.out.2.1 (by rw [hz.out]; decide)).trans hz.out) (by decide)).symm), hbb.out⟩
            · have hd : decide (0 ≤ xs[j].value ∧ xs[j].value ≤ 999) = false := decide_eq_false hr
              have Hr := Lib.hid hr
              clear hr
              have hz := Lib.hid (show letF xs[j] = 1 from by unfold letF; rw [if_neg (by simp [hn]), if_pos Hr.out])
              go_wp2_with (first
                | (go_at_call 93; go_must (refine (isName_calls _ _).mono ?_; rintro e w' ⟨rfl, hb⟩; have hB' := (Blk.new wr #[Value.string xs[j].label, .int .i64 xs[j].value] 47).below hb; obtain ⟨c0', f0'⟩ := hB'.c0; obtain ⟨c1', f1'⟩ := hB'.c1; have hbb := Lib.hid (below_new R.out.2.2 hb); clear hb hB'))
                | (go_at_call 52; go_must (refine (outside_calls _ _ _ _).mono ?_; rintro e w' ⟨rfl, rfl⟩)))
              go_ret
              exact ⟨ret_int ((hf.out _ ((errFirst_hit _ hj R.out.2.1 (by rw [hz.out]; decide)).trans hz.out) (by decide)).symm), hbb.out⟩
      · go_wp2_with (go_at_call 18; go_must (refine (checkFates_calls _ ys _ _ (H2.out.below R.out.2.2)).mono ?_; rintro e w' ⟨rfl, rfl⟩))
        go_ret
        exact ⟨ret_int (by unfold thenF; rw [hg.out, errFirst_all _ (by omega) R.out.2.1, if_pos rfl]), R.out.2.2⟩
end Go.Proofs.YtlkklaahnkcnkaaDoor.X
