/- The makers of inputs: they end, and give lists that are not long. -/
import Derived.Test.YtlkklaahnkcnkaaDoorA
namespace Go.Proofs.YtlkklaahnkcnkaaDoor.X
open Go.RowKit

set_option maxHeartbeats 2000000 in
theorem fateList_calls (g m : Nat) (hm : m < 4611686018427387000) (w0 w : World) (h : St w0 w g m) (hB : Below w0.heap.size w0 w) :
    Calls Tryd.prog 7 #[.pointer (some ⟨g, 0, none⟩)] w fun e w' => ∃ v xs, e = .returned v ∧ Own kInt 3 w' w.heap.size (· ≠ g) v xs ∧ xs.length ≤ 14 ∧ St w0 w' g (m + 20) ∧ But g w w' := by
  go_enter Tryd.func7, Tryd.ntmps7
  go_wp2_with (go_at_call 40; go_must (refine (range_calls 0 14 (by omega) (by omega) (by omega) g m (by omega) w0 _ h hB).mono ?_; rintro e w1 ⟨r, rfl, hr, hs1, hk1⟩; obtain ⟨n, rfl⟩ := Int.eq_ofNat_of_zero_le hr.1))
  go_loopg [3, 6] n (fun kq v i W => ∃ j : Nat, ∃ xs : List Int, i = .int .i64 j ∧ Hid (kq + j = n ∧ xs.length = j ∧ Own kInt 3 W w.heap.size (· ≠ g) v xs ∧ St w0 W g (m + 1 + j) ∧ But g w W))
  case atStart => exact ⟨0, [], rfl, Lib.hid ⟨by omega, rfl, Own.nil _ _, hs1, hk1⟩⟩
  case round =>
    obtain ⟨j, xs, rfl, H⟩ := hrel
    by_cases hj : j < n
    · go_wp2_with (first
        | (go_at_call 27; go_must (refine (pick_calls _ [0, 0, 0, 1, 1, 2, 3] 7 (by simp) g (m + 1 + j) (by omega) w0 _ (H.out.2.2.2.1.alloc _) (below_al (h.keep hB H.out.2.2.2.2) _) (Row.lit_scal _ (Blk.new _ _ _) rfl (by have := H.out.2.2.2.1.lt; simp; omega) (by simp))).mono ?_; rintro e w2 ⟨r, rfl, hr, hs2, hk2⟩; have HO := Lib.hid ((H.out.2.2.1.alloc _).but hk2 (by simp))))
        | (at_builtin; go_must (refine own_append HO.out r [.int .i64 r] rfl (by have := hs2.lt; intro k hk; simp; omega) (by have := hk2.size; have := H.out.2.2.2.2.size; simp at *; omega) Tryd.underlying22 infoInt rfl (by decide) (by have := H.out.2.1; omega) rfl rfl rfl rfl ?_; intro v3 w3 hO3 hg3 _; have H3 := Lib.hid (show _ ∧ _ ∧ _ from ⟨hO3, hs2.grown hg3 (ne_own HO.out), ((H.out.2.2.2.2.alloc _).trans hk2).grown hg3 HO.out.base⟩); clear hO3 hg3)))
      go_roundg (gk - 1)
      case measure => have := H.out.1; omega
      case rel => exact ⟨j + 1, xs ++ [r], by go_num, Lib.hid ⟨by have := H.out.1; omega, by have := H.out.2.1; simp; omega, H3.out.1, H3.out.2.1.more (by omega), H3.out.2.2⟩⟩
    · have hj14 : j ≤ 14 := by have := H.out.1; omega
      have hx : xs.length ≤ 14 := by have := H.out; omega
      have hs3 := H.out.2.2.2.1
      obtain ⟨A, c, rfl, hc, hrow⟩ := H.out.2.2.1.row
      by_cases h0 : 0 < xs.length
      · go_wp2_with (go_at_call 28; go_must (refine (flip_calls _ (by omega) g (m + 1 + j) (by omega) w0 _ hs3 (h.keep hB H.out.2.2.2.2)).mono ?_; rintro e w4 ⟨q, rfl, hs4, hk4⟩))
        · obtain ⟨b, c', e1, hb1, hb2, hb3, hb4, hfr, hcl⟩ := H.out.2.2.1.head h0
          obtain ⟨rfl, rfl⟩ : A = some ⟨b, 0, none⟩ ∧ c = c' := by simpa using e1
          go_wp2_with (first
            | (go_at_call 42; go_must (refine (next_calls _ (by omega) g (m + 1 + j + 1) (by omega) w0 _ hs4 (h.keep hB (H.out.2.2.2.2.trans hk4))).mono ?_; rintro e w5 ⟨r, rfl, hr5, hs5, hk5⟩; obtain ⟨r, rfl⟩ := Int.eq_ofNat_of_zero_le hr5.1; have hr' : r < xs.length := (by omega)))
            | (go_at_call 43; go_must (refine (odd_calls 0 3 (by omega) (by omega) (by omega) g (m + 1 + j + 2) (by omega) w0 _ hs5 (h.keep hB ((H.out.2.2.2.2.trans hk4).trans hk5))).mono ?_; rintro e w6 ⟨s, rfl, hs, hs6, hk6⟩; have HO6 := Lib.hid (((H.out.2.2.1.but hk4 (by simp)).but hk5 (by simp)).but hk6 (by simp)); obtain ⟨⟨u, hu⟩, hf⟩ := HO6.out.at_ (i := r) (by simpa [kInt, scal] using hr'))))
          go_ret
          exact ⟨_, xs.set r s, rfl, HO6.out.set1 hr' s, by simpa using hx, (hs6.far (by intro e; exact hb2 e.symm) _).more (by omega), (((H.out.2.2.2.2.trans hk4).trans hk5).trans hk6).setO hb1 _⟩
        · go_ret
          exact ⟨_, xs, rfl, H.out.2.2.1.but hk4 (by simp), hx, hs4.more (by omega), H.out.2.2.2.2.trans hk4⟩
      · go_wp2_with fail
        go_ret
        exact ⟨_, xs, rfl, H.out.2.2.1, hx, hs3.more (by omega), H.out.2.2.2.2⟩
end Go.Proofs.YtlkklaahnkcnkaaDoor.X
