/- More makers of inputs. -/
import Derived.Test.YtlkklaahnkcnkaaDoorB
import Derived.Test.YtlkklaahnkcnkaaDoorPure
import Derived.Test.YtlkklaahnkcnkaaDoorLt
namespace Go.Proofs.YtlkklaahnkcnkaaDoor.X
open Go.RowKit

theorem aWindow_calls (g m : Nat) (hm : m < 4611686018427387000) (w0 w : World) (h : St w0 w g m) (hB : Below w0.heap.size w0 w) :
    Calls Tryd.prog 8 #[.pointer (some ⟨g, 0, none⟩)] w fun e w' => ∃ r : Int, e = .returned (.int .i64 r) ∧ (0 ≤ r ∧ r ≤ 21) ∧ St w0 w' g (m + 2) ∧ But g w w' := by
  go_enter Tryd.func8, Tryd.ntmps8
  go_wp2_with fail
  refine (pick_calls _ [0, 21, 4] 3 (by simp) g m (by omega) w0 _ (h.alloc _) (below_al hB _) (Row.lit_scal _ (Blk.new _ _ _) rfl (by have := h.lt; simp; omega) (by simp))).mono ?_
  rintro e w2 ⟨r, rfl, hr, hs2, hk2⟩
  go_wp2_with fail
  refine (pick_calls _ [1, 1, 2, 3, 5, 20, r] 7 (by simp) g (m + 1) (by omega) w0 _ (hs2.alloc _) (below_al ((h.alloc _).keep (below_al hB _) hk2) _) (Row.lit_scal _ (Blk.new _ _ _) rfl (by have := hs2.lt; simp; omega) (by simp))).mono ?_
  rintro e w3 ⟨q, rfl, hq, hs3, hk3⟩
  go_wp2_with fail
  go_ret
  exact ⟨_, rfl, by simp at hr hq; omega, hs3, ((((But.refl g w).alloc _).trans hk2).alloc _).trans hk3⟩
theorem manyRounds_calls (g m : Nat) (hm : m < 4611686018427387000) (w0 w : World) (h : St w0 w g m) (hB : Below w0.heap.size w0 w) :
    Calls Tryd.prog 9 #[.pointer (some ⟨g, 0, none⟩)] w fun e w' => ∃ r : Int, e = .returned (.int .i64 r) ∧ (0 ≤ r ∧ r ≤ 5001) ∧ St w0 w' g (m + 2) ∧ But g w w' := by
  go_enter Tryd.func9, Tryd.ntmps9
  go_wp2_with fail
  refine (pick_calls _ [0, 5001, 50] 3 (by simp) g m (by omega) w0 _ (h.alloc _) (below_al hB _) (Row.lit_scal _ (Blk.new _ _ _) rfl (by have := h.lt; simp; omega) (by simp))).mono ?_
  rintro e w2 ⟨r, rfl, hr, hs2, hk2⟩
  go_wp2_with fail
  refine (pick_calls _ [100, 100, 100, 8, 3, 1, r] 7 (by simp) g (m + 1) (by omega) w0 _ (hs2.alloc _) (below_al ((h.alloc _).keep (below_al hB _) hk2) _) (Row.lit_scal _ (Blk.new _ _ _) rfl (by have := hs2.lt; simp; omega) (by simp))).mono ?_
  rintro e w3 ⟨q, rfl, hq, hs3, hk3⟩
  go_wp2_with fail
  go_ret
  exact ⟨_, rfl, by simp at hr hq; omega, hs3, ((((But.refl g w).alloc _).trans hk2).alloc _).trans hk3⟩

theorem infoLt : (Tryd.prog.info? 47).map (fun i => (i.zero, i.size, i.bytes)) = some (some (.agg #[.string ByteArray.empty, .int .i64 0]), 2, 24) := by kernel_rfl

set_option maxRecDepth 100000 in
set_option maxHeartbeats 2000000 in
theorem letterList_calls (g m : Nat) (hm : m < 4611686018427387000) (w0 w : World) (h : St w0 w g m) (hB : Below w0.heap.size w0 w) :
    Calls Tryd.prog 6 #[.pointer (some ⟨g, 0, none⟩)] w fun e w' => ∃ v xs, e = .returned v ∧ Own kLt 47 w' w.heap.size (· ≠ g) v xs ∧ xs.length ≤ 8 ∧ St w0 w' g (m + 50) ∧ But g w w' := by
  go_enter Tryd.func6, Tryd.ntmps6
  go_wp2_with (go_at_call 40; go_must (refine (range_calls 0 8 (by omega) (by omega) (by omega) g m (by omega) w0 _ h hB).mono ?_; rintro e w1 ⟨r, rfl, hr, hs1, hk1⟩; obtain ⟨n, rfl⟩ := Int.eq_ofNat_of_zero_le hr.1))
  go_loopg [3, 8] n (fun kq v i W => ∃ j : Nat, ∃ xs : List Lt, i = .int .i64 j ∧ Hid (kq + j = n ∧ xs.length = j ∧ Own kLt 47 W w.heap.size (· ≠ g) v xs ∧ St w0 W g (m + 1 + 3 * j) ∧ But g w W))
  case atStart => exact ⟨0, [], rfl, Lib.hid ⟨by omega, rfl, Own.nil _ _, hs1, hk1⟩⟩
  case round =>
    obtain ⟨j, xs, rfl, H⟩ := hrel
    by_cases hj : j < n
    · have HO := Lib.hid H.out.2.2.1.base_le
      have hs := H.out.2.2.2.1
      have hk := H.out.2.2.2.2
      have hkb := h.keep hB hk
      go_wp2_with fail
      refine (pick_calls _ [0, 1, 7, 999] 4 (by simp) g (m + 1 + 3 * j) (by omega) w0 _ (hs.alloc _) (below_al hkb _) (Row.lit_scal _ (Blk.new _ _ _) rfl (by have := hs.lt; simp; omega) (by simp))).mono ?_
      rintro e w2 ⟨r, rfl, hr, hs2, hk2⟩
      have hb2 := (hs.alloc _).keep (below_al hkb _) hk2
      have hg2 := hs2.lt
      have hz2 : wr.heap.size < w2.heap.size := by have := hk2.size; simp at this; omega
      go_wp2_with fail
      refine (flip_calls _ (by omega) g (m + 1 + 3 * j + 1) (by omega) w0 _ (hs2.alloc _) (below_al hb2 _)).mono ?_
      rintro e w3 ⟨q, rfl, hs3, hk3⟩
      have hb3 := (hs2.alloc _).keep (below_al hb2 _) hk3
      have hl3 := (Blk.new w2 _ _).but hk3 (by omega)
      obtain ⟨a0, f0⟩ := hl3.c0
      obtain ⟨a1, f1⟩ := hl3.c1
      have hz3 : w2.heap.size < w3.heap.size := by have := hk3.size; simp at this; omega
      have hkk3 := Lib.hid (((hk.alloc _).trans hk2).alloc _ |>.trans hk3)
      have HO3 := Lib.hid ((((HO.out.alloc _).but hk2 (by simp)).alloc _).but hk3 (by simp))
      have HO4 := Lib.hid (HO3.out.mono (ok' := (· ≠ g)) (fun _ hk => hk.1))
      go_wp2_with (at_builtin; go_must (refine own_append HO4.out ⟨⟨#[]⟩, r⟩ [.string ⟨#[]⟩, .int .i64 r] (kLt_mk _ _ ⟨⟨#[]⟩, r⟩) (by have := hs3.lt; intro k hk; simp at *; omega) hkk3.out.size Tryd.underlying26 infoLt rfl (by decide) (by have := H.out.2.1; omega) rfl rfl rfl (by first | rfl | (go_simp; done)) ?_; intro v6 w6 hO6 hg6 _; have H6 := Lib.hid (show _ ∧ _ ∧ _ from ⟨hO6, hs3.grown hg6 (ne_own HO4.out), hkk3.out.grown hg6 HO4.out.base⟩); clear hO6 hg6))
      · refine (some_calls _ [⟨#[121, 101, 115]⟩, ⟨#[110, 111]⟩] 2 (by simp) g (m + 1 + 3 * j + 2) (by omega) w0 _ (hs3.alloc _) (below_al hb3 _) (Row.lit_scal _ (Blk.new _ _ _) rfl (by have := hs3.lt; simp; omega) (by simp))).mono ?_
        rintro e w4 ⟨s, rfl, hs', hs4, hk4⟩
        have hl4 := (hl3.alloc _).but hk4 (by omega)
        clear a0 a1 f0 f1
        obtain ⟨a0, f0⟩ := hl4.c0
        obtain ⟨a1, f1⟩ := hl4.c1
        have HO5 := Lib.hid ((((((HO3.out.alloc _).but hk4 (by simp)).far (p := ⟨w2.heap.size, 0, none⟩) (by simp; omega) (.string s)).far (p := ⟨w2.heap.size, 1, none⟩) (by simp; omega) (.int .i64 0))).mono (ok' := (· ≠ g)) (fun _ hk => hk.1))
        have hs5 := (hs4.far (p := ⟨w2.heap.size, 0, none⟩) (by simp; omega) (.string s)).far (p := ⟨w2.heap.size, 1, none⟩) (by simp; omega) (.int .i64 0)
        have hk5 := Lib.hid (((hkk3.out.alloc _).trans hk4).setO (p := ⟨w2.heap.size, 0, none⟩) (by have := hk.size; simp; omega) (.string s) |>.setO (p := ⟨w2.heap.size, 1, none⟩) (by have := hk.size; simp; omega) (.int .i64 0))
        have hl5 := (hl4.set 0 (.string s)).set 1 (.int .i64 0)
        go_wp2_with (at_builtin; go_must (refine own_append HO5.out ⟨s, 0⟩ [.string s, .int .i64 0] (kLt_mk _ _ ⟨s, 0⟩) (by have := hs5.lt; intro k hk; simp at *; omega) hk5.out.size Tryd.underlying26 infoLt rfl (by decide) (by have := H.out.2.1; omega) rfl rfl rfl (by first | rfl | (go_simp; done)) ?_; intro v6 w6 hO6 hg6 _; have H6 := Lib.hid (show _ ∧ _ ∧ _ from ⟨hO6, hs5.grown hg6 (ne_own HO5.out), hk5.out.grown hg6 HO5.out.base⟩); clear hO6 hg6))
        go_roundg (gk - 1)
        case measure => have := H.out.1; omega
        case rel => exact ⟨j + 1, xs ++ [⟨s, 0⟩], by go_num, Lib.hid ⟨by have := H.out.1; omega, by have := H.out.2.1; simp; omega, H6.out.1, H6.out.2.1.more (by omega), H6.out.2.2⟩⟩
      · go_roundg (gk - 1)
        case measure => have := H.out.1; omega
        case rel => exact ⟨j + 1, xs ++ [⟨⟨#[]⟩, r⟩], by go_num, Lib.hid ⟨by have := H.out.1; omega, by have := H.out.2.1; simp; omega, H6.out.1, H6.out.2.1.more (by omega), H6.out.2.2⟩⟩
    · have hj8 : j ≤ 8 := by have := H.out.1; omega
      have hx : xs.length ≤ 8 := by have := H.out; omega
      have hs3 := H.out.2.2.2.1
      have hk3 := H.out.2.2.2.2
      obtain ⟨A, c, rfl, hc, hrow⟩ := H.out.2.2.1.row
      by_cases h0 : 0 < xs.length
      · go_wp2_with (go_at_call 28; go_must (refine (flip_calls _ (by omega) g (m + 1 + 3 * j) (by omega) w0 _ hs3 (h.keep hB hk3)).mono ?_; rintro e w4 ⟨q, rfl, hs4, hk4⟩))
        · obtain ⟨b, c', e1, hb1, hb2, hb3, hb4, hfr, hcl⟩ := H.out.2.2.1.head h0
          obtain ⟨rfl, rfl⟩ : A = some ⟨b, 0, none⟩ ∧ c = c' := by simpa using e1
          have hkb4 := h.keep hB (hk3.trans hk4)
          go_wp2_with fail
          refine (next_calls _ (by omega) g (m + 1 + 3 * j + 1) (by omega) w0 _ hs4 hkb4).mono ?_
          rintro e w5 ⟨r, rfl, hr5, hs5, hk5⟩
          obtain ⟨r, rfl⟩ := Int.eq_ofNat_of_zero_le hr5.1
          have hr' : r < xs.length := by omega
          have hkb5 := hs4.keep hkb4 hk5
          go_wp2_with fail
          refine (some_calls _ [⟨#[]⟩, ⟨#[121, 101, 115]⟩, ⟨#[105, 102]⟩, ⟨#[65]⟩] 4 (by simp) g (m + 1 + 3 * j + 2) (by omega) w0 _ (hs5.alloc _) (below_al hkb5 _) (Row.lit_scal _ (Blk.new _ _ _) rfl (by have := hs5.lt; simp; omega) (by simp))).mono ?_
          rintro e w6 ⟨s, rfl, hs', hs6, hk6⟩
          have hkb6 := (hs5.alloc _).keep (below_al hkb5 _) hk6
          go_wp2_with fail
          refine (odd_calls 0 999 (by omega) (by omega) (by omega) g (m + 1 + 3 * j + 3) (by omega) w0 _ hs6 hkb6).mono ?_
          rintro e w7 ⟨q, rfl, hq, hs7, hk7⟩
          have HO7 := Lib.hid ((((H.out.2.2.1.but hk4 (by simp)).but hk5 (by simp)).alloc (.cells #[Value.string ⟨#[]⟩, .string ⟨#[121, 101, 115]⟩, .string ⟨#[105, 102]⟩, .string ⟨#[65]⟩] 9)).but hk6 (by simp) |>.but hk7 (by simp))
          obtain ⟨⟨u0, hu0⟩, hf0⟩ := HO7.out.at_ (i := r * 2) (by show r * 2 < xs.length * 2; omega)
          obtain ⟨⟨u1, hu1⟩, hf1⟩ := HO7.out.at_ (i := r * 2 + 1) (by show r * 2 + 1 < xs.length * 2; omega)
          have hk7' := Lib.hid ((((hk3.trans hk4).trans hk5).alloc (.cells #[Value.string ⟨#[]⟩, .string ⟨#[121, 101, 115]⟩, .string ⟨#[105, 102]⟩, .string ⟨#[65]⟩] 9)).trans hk6 |>.trans hk7)
          have HO8 := HO7.out.set (j := r) (i := 0) hr' (by decide) (.string s) ⟨s, xs[r].value⟩ (fun cs hv => by rw [kLt_open hv]; exact kLt_mk _ _ _)
          have HO9 := Lib.hid (HO8.set (j := r) (i := 1) (by simpa using hr') (by decide) (.int .i64 q) ⟨s, q⟩ (fun cs hv => by rw [kLt_open hv]; simp only [List.getElem_set_self]; exact kLt_mk _ _ _))
          clear HO8
          go_wp2_with fail
          go_ret
          exact ⟨_, _, rfl, HO9.out, by simpa using hx, ((hs7.far (by intro e; exact hb2 e.symm) _).far (by intro e; exact hb2 e.symm) _).more (by omega), (hk7'.out.setO hb1 _).setO hb1 _⟩
        · go_ret
          exact ⟨_, xs, rfl, H.out.2.2.1.but hk4 (by simp), hx, hs4.more (by omega), hk3.trans hk4⟩
      · go_wp2_with fail
        go_ret
        exact ⟨_, xs, rfl, H.out.2.2.1, hx, hs3.more (by omega), hk3⟩
end Go.Proofs.YtlkklaahnkcnkaaDoor.X
