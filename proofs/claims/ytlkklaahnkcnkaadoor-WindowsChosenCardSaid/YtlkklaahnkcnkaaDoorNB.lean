/- The best window: lossy.Best, pbref1.WindowOf. -/
import Derived.Test.YtlkklaahnkcnkaaDoorPure4
import Derived.Test.YtlkklaahnkcnkaaDoorT
import Derived.Test.YtlkklaahnkcnkaaDoorW
namespace Go.Proofs.YtlkklaahnkcnkaaDoor.X
open Go.RowKit

def bestFault (xs : List Lt) (fs : List Int) (most : Int) : Int := thenF (thenF (lettersF xs) (fatesF fs)) (spanF most 1 5000)
def BestR (w : World) (fault : Int) (b : Bw) (e : Ending) (w' : World) : Prop :=
  ((fault ≠ 0 ∧ e = .returned (.tuple #[.int .i64 0, .int .i64 0, .bool false, .int .i64 fault])) ∨ (fault = 0 ∧ e = .returned (.tuple #[.int .i64 b.w, .int .i64 b.n, .bool (decide ((b.w : Int) > 0)), .int .i64 0]))) ∧ Below w.heap.size w w'
set_option maxRecDepth 100000 in
set_option maxHeartbeats 8000000 in
theorem best_calls (A B : Option Addr) (xs : List Lt) (fs : List Int) (c c2 most : Nat) (w : World) (hr : Row kLt w (fun _ => True) A xs) (hf : Row kInt w (fun _ => True) B fs) (hc : fs.length ≤ c2) (hmo : most ≤ 10000) :
    Calls Tryd.prog 29 #[.slice A xs.length c, .slice B fs.length c2, .int .i64 most] w (BestR w (bestFault xs fs most) (bestF fs xs.length most 20 1 ⟨0, 0⟩)) := by
  have HR := Lib.hid hr
  have HF := Lib.hid hf
  clear hr hf
  have hlf := lettersFault_calls A xs c B fs c2 w HR.out HF.out
  by_cases h1 : thenF (lettersF xs) (fatesF fs) = 0
  · rw [h1] at hlf
    have hxs := lettersF_len (thenF_zero h1).1
    by_cases h2 : 1 ≤ (most : Int) ∧ (most : Int) ≤ 5000
    · have d2 : (!decide (1 ≤ (most : Int) ∧ (most : Int) ≤ 5000)) = false := by simp [h2]
      have hfl := Lib.hid (show bestFault xs fs most = 0 by unfold bestFault; rw [h1]; simp [thenF, spanF, h2])
      clear h1 h2
      go_enter Tryd.func29, Tryd.ntmps29
      go_wp2_with (first
        | (go_at_call 61; go_must (refine hlf.mono ?_; rintro e w1 ⟨rfl, hb1⟩))
        | (go_at_call 52; go_must (refine (outside_calls _ _ _ _).mono ?_; rintro e w' ⟨rfl, rfl⟩; rw [d2])))
      go_loopg [11, 12, 13] 20 (fun kq v1 v2 i W => ∃ k : Nat, ∃ b : Bw, v1 = .int .i64 b.w ∧ v2 = .int .i64 b.n ∧ i = .int .i64 k ∧ Hid (kq + k = 21 ∧ bestF fs xs.length most kq k b = bestF fs xs.length most 20 1 ⟨0, 0⟩ ∧ Below w.heap.size w W))
      case atStart => exact ⟨1, ⟨0, 0⟩, rfl, rfl, rfl, Lib.hid ⟨rfl, rfl, by assumption⟩⟩
      case round =>
        obtain ⟨k, b, rfl, rfl, rfl, R⟩ := hrel
        by_cases hk : k ≤ 20
        · have hcar := carry_calls xs.length k most B fs c2 wr (by omega) (by omega) hmo hc (HF.out.below R.out.2.2)
          obtain ⟨rd, s, hs⟩ : ∃ rd s, carryF fs xs.length k most = (rd, s) := ⟨_, _, rfl⟩
          rw [hs] at hcar
          obtain ⟨q, hq⟩ : ∃ q, gk = q + 1 := ⟨gk - 1, by have := R.out.1; omega⟩
          subst hq
          have hn : bestF fs xs.length most q (k + 1) (b.see fs xs.length most k) = bestF fs xs.length most 20 1 ⟨0, 0⟩ := R.out.2.1
          by_cases e1 : xs.length ≤ s.acked
          · have HE := Lib.hid (decide_eq_true e1)
            by_cases e2 : b.w = 0
            · have HN := Lib.hid (show bestF fs xs.length most q (k + 1) ⟨k, rd⟩ = bestF fs xs.length most 20 1 ⟨0, 0⟩ by rw [← hn]; unfold Bw.see; rw [hs, if_pos ⟨e1, .inl e2⟩])
              have e2' : ((b.w : Int) == 0) = true := by simp [e2]
              clear e1 e2 hn hs
              go_wp2_with (go_at_call 62; go_must (refine hcar.mono ?_; rintro e w2 ⟨A0, A1, A2, A3, A4, n0, n1, n2, n3, n4, c0, c1, c2, c3, c4, heard, rfl, -, hb2⟩; rw [HE.out]))
              go_quiet (fail)
              go_wp2_with fail
              go_roundg q
              case measure => omega
              case rel => exact ⟨k + 1, ⟨k, rd⟩, rfl, rfl, by go_num, Lib.hid ⟨by have := R.out.1; omega, HN.out, (below_al (R.out.2.2.trans (hb2.mono R.out.2.2.size)) (.cells #[.int .i64 xs.length, .int .i64 s.acked, .int .i64 s.rc.accepted, .slice A0 n0 c0, .slice A1 n1 c1, .slice A2 n2 c2, .slice A3 n3 c3, .bool heard, .int .i64 s.rc.waste, .int .i64 rd, .int .i64 s.packets, .int .i64 s.acks, .slice A4 n4 c4, .int .i64 s.used, .bool true] 90)).trans ⟨rfl, rfl, rfl, Nat.le_refl _, fun _ _ => rfl⟩⟩⟩
            · have e2' : ((b.w : Int) == 0) = false := by simp [e2]
              by_cases e3 : rd < b.n
              · have HN := Lib.hid (show bestF fs xs.length most q (k + 1) ⟨k, rd⟩ = bestF fs xs.length most 20 1 ⟨0, 0⟩ by rw [← hn]; unfold Bw.see; rw [hs, if_pos ⟨e1, .inr e3⟩])
                clear e1 e2 hn hs
                go_wp2_with (go_at_call 62; go_must (refine hcar.mono ?_; rintro e w2 ⟨A0, A1, A2, A3, A4, n0, n1, n2, n3, n4, c0, c1, c2, c3, c4, heard, rfl, -, hb2⟩; rw [HE.out]))
                go_quiet (fail)
                go_wp2_with fail
                go_roundg q
                case measure => omega
                case rel => exact ⟨k + 1, ⟨k, rd⟩, rfl, rfl, by go_num, Lib.hid ⟨by have := R.out.1; omega, HN.out, (below_al (R.out.2.2.trans (hb2.mono R.out.2.2.size)) (.cells #[.int .i64 xs.length, .int .i64 s.acked, .int .i64 s.rc.accepted, .slice A0 n0 c0, .slice A1 n1 c1, .slice A2 n2 c2, .slice A3 n3 c3, .bool heard, .int .i64 s.rc.waste, .int .i64 rd, .int .i64 s.packets, .int .i64 s.acks, .slice A4 n4 c4, .int .i64 s.used, .bool true] 90)).trans ⟨rfl, rfl, rfl, Nat.le_refl _, fun _ _ => rfl⟩⟩⟩
              · have HN := Lib.hid (show bestF fs xs.length most q (k + 1) b = bestF fs xs.length most 20 1 ⟨0, 0⟩ by rw [← hn]; unfold Bw.see; rw [hs, if_neg (by rintro ⟨_, h | h⟩; exact e2 h; exact e3 h)])
                clear e1 e2 hn hs
                go_wp2_with (go_at_call 62; go_must (refine hcar.mono ?_; rintro e w2 ⟨A0, A1, A2, A3, A4, n0, n1, n2, n3, n4, c0, c1, c2, c3, c4, heard, rfl, -, hb2⟩; rw [HE.out]))
                go_roundg q
                case measure => omega
                case rel => exact ⟨k + 1, b, rfl, rfl, by go_num, Lib.hid ⟨by have := R.out.1; omega, HN.out, (below_al (R.out.2.2.trans (hb2.mono R.out.2.2.size)) (.cells #[.int .i64 xs.length, .int .i64 s.acked, .int .i64 s.rc.accepted, .slice A0 n0 c0, .slice A1 n1 c1, .slice A2 n2 c2, .slice A3 n3 c3, .bool heard, .int .i64 s.rc.waste, .int .i64 rd, .int .i64 s.packets, .int .i64 s.acks, .slice A4 n4 c4, .int .i64 s.used, .bool true] 90))⟩⟩
          · have HN := Lib.hid (show bestF fs xs.length most q (k + 1) b = bestF fs xs.length most 20 1 ⟨0, 0⟩ by rw [← hn]; unfold Bw.see; rw [hs, if_neg (fun h => e1 h.1)])
            have HE := Lib.hid (decide_eq_false e1)
            clear e1 hn hs
            go_wp2_with (go_at_call 62; go_must (refine hcar.mono ?_; rintro e w2 ⟨A0, A1, A2, A3, A4, n0, n1, n2, n3, n4, c0, c1, c2, c3, c4, heard, rfl, -, hb2⟩; rw [HE.out]))
            go_roundg q
            case measure => omega
            case rel => exact ⟨k + 1, b, rfl, rfl, by go_num, Lib.hid ⟨by have := R.out.1; omega, HN.out, (below_al (R.out.2.2.trans (hb2.mono R.out.2.2.size)) (.cells #[.int .i64 xs.length, .int .i64 s.acked, .int .i64 s.rc.accepted, .slice A0 n0 c0, .slice A1 n1 c1, .slice A2 n2 c2, .slice A3 n3 c3, .bool heard, .int .i64 s.rc.waste, .int .i64 rd, .int .i64 s.packets, .int .i64 s.acks, .slice A4 n4 c4, .int .i64 s.used, .bool false] 90))⟩⟩
        · have hq : gk = 0 := by have := R.out.1; omega
          subst hq
          have HB := Lib.hid (show b = bestF fs xs.length most 20 1 ⟨0, 0⟩ from R.out.2.1)
          go_wp2_with fail
          refine bodyPost_ret (v := .tuple #[.int .i64 b.w, .int .i64 b.n, .bool (decide ((b.w : Int) > 0)), .int .i64 0]) ?_ rfl ?_
          · simp [results, Tryd.results29, go_sem]
          · rw [← HB.out]
            exact ⟨.inr ⟨hfl.out, rfl⟩, R.out.2.2⟩
    · have d2 : (!decide (1 ≤ (most : Int) ∧ (most : Int) ≤ 5000)) = true := by simp [h2]
      have hfl := Lib.hid (show bestFault xs fs most = 1 by unfold bestFault; rw [h1]; simp only [thenF, spanF, if_neg h2, if_true])
      clear h1 h2
      go_enter Tryd.func29, Tryd.ntmps29
      go_wp2_with (first
        | (go_at_call 61; go_must (refine hlf.mono ?_; rintro e w1 ⟨rfl, hb1⟩))
        | (go_at_call 52; go_must (refine (outside_calls _ _ _ _).mono ?_; rintro e w' ⟨rfl, rfl⟩; rw [d2])))
      refine bodyPost_ret (v := .tuple #[.int .i64 0, .int .i64 0, .bool false, .int .i64 1]) ?_ rfl ?_
      · simp [results, Tryd.results29, go_sem]
      · rw [hfl.out]
        exact ⟨.inl ⟨by decide, rfl⟩, by assumption⟩
  · have hfl := Lib.hid (show bestFault xs fs most = thenF (lettersF xs) (fatesF fs) from if_neg h1)
    have hne : (thenF (lettersF xs) (fatesF fs) == 0) = false := by simpa using h1
    have H1 := Lib.hid h1
    clear h1
    generalize thenF (lettersF xs) (fatesF fs) = f0 at hlf hfl hne H1
    go_enter Tryd.func29, Tryd.ntmps29
    go_wp2_with (go_at_call 61; go_must (refine hlf.mono ?_; rintro e w1 ⟨rfl, hb1⟩))
    refine bodyPost_ret (v := .tuple #[.int .i64 0, .int .i64 0, .bool false, .int .i64 f0]) ?_ rfl ?_
    · simp [results, Tryd.results29, go_sem]
    · rw [hfl.out]
      exact ⟨.inl ⟨H1.out, rfl⟩, by assumption⟩
set_option maxRecDepth 100000 in
set_option maxHeartbeats 8000000 in
theorem windowOf_calls (A B : Option Addr) (xs : List Lt) (fs : List Int) (c c2 most : Nat) (w : World) (hr : Row kLt w (fun _ => True) A xs) (hA : A = none → c = 0) (hcx : xs.length ≤ c) (hf : Row kInt w (fun _ => True) B fs) (hc : fs.length ≤ c2) (hxs : xs.length ≤ 500) (hmo : most ≤ 10000) :
    Calls Tryd.prog 31 #[.slice A xs.length c, .slice B fs.length c2, .int .i64 most] w fun e w' => e = .returned (.tuple #[.int .i64 (bestF fs xs.length most 20 1 ⟨0, 0⟩).w, .int .i64 (bestF fs xs.length most 20 1 ⟨0, 0⟩).n, .bool (decide (((bestF fs xs.length most 20 1 ⟨0, 0⟩).w : Int) > 0))]) ∧ Below w.heap.size w w' := by
  have HR := Lib.hid hr
  have HF := Lib.hid hf
  clear hr hf
  go_enter Tryd.func31, Tryd.ntmps31
  go_wp2_with fail
  go_loopg [9, 10, 11] 20 (fun kq v1 v2 i W => ∃ k : Nat, ∃ b : Bw, v1 = .int .i64 b.w ∧ v2 = .int .i64 b.n ∧ i = .int .i64 k ∧ Hid (kq + k = 21 ∧ bestF fs xs.length most kq k b = bestF fs xs.length most 20 1 ⟨0, 0⟩ ∧ Below w.heap.size w W))
  case atStart => exact ⟨1, ⟨0, 0⟩, rfl, rfl, rfl, Lib.hid ⟨rfl, rfl, Below.refl _ _⟩⟩
  case round =>
    obtain ⟨k, b, rfl, rfl, rfl, R⟩ := hrel
    by_cases hk : k ≤ 20
    · have hcar := carriedBy_calls A B xs fs c c2 k most wr (HR.out.below R.out.2.2) hA hcx (HF.out.below R.out.2.2) hc (by omega) (by omega) hmo
      obtain ⟨rd, s, hs⟩ : ∃ rd s, carryF fs xs.length k most = (rd, s) := ⟨_, _, rfl⟩
      rw [hs] at hcar
      obtain ⟨q, hq⟩ : ∃ q, gk = q + 1 := ⟨gk - 1, by have := R.out.1; omega⟩
      subst hq
      have hn : bestF fs xs.length most q (k + 1) (b.see fs xs.length most k) = bestF fs xs.length most 20 1 ⟨0, 0⟩ := R.out.2.1
      by_cases e1 : xs.length ≤ s.acked
      · have HE := Lib.hid (decide_eq_true e1)
        by_cases e2 : b.w = 0
        · have HN := Lib.hid (show bestF fs xs.length most q (k + 1) ⟨k, rd⟩ = bestF fs xs.length most 20 1 ⟨0, 0⟩ by rw [← hn]; unfold Bw.see; rw [hs, if_pos ⟨e1, .inl e2⟩])
          have e2' : ((b.w : Int) == 0) = true := by simp [e2]
          clear e1 e2 hn hs
          go_wp2_with (go_at_call 17; go_must (refine hcar.mono ?_; rintro e w2 ⟨v1, v2, rfl, -, -, hb2⟩; rw [HE.out]))
          go_quiet (fail)
          go_wp2_with fail
          go_roundg q
          case measure => omega
          case rel => exact ⟨k + 1, ⟨k, rd⟩, rfl, rfl, by go_num, Lib.hid ⟨by have := R.out.1; omega, HN.out, (below_al (R.out.2.2.trans (hb2.mono R.out.2.2.size)) (.cells #[.int .i64 rd, .int .i64 s.packets, .int .i64 s.acks] 36)).trans ⟨rfl, rfl, rfl, Nat.le_refl _, fun _ _ => rfl⟩⟩⟩
        · have e2' : ((b.w : Int) == 0) = false := by simp [e2]
          by_cases e3 : rd < b.n
          · have HN := Lib.hid (show bestF fs xs.length most q (k + 1) ⟨k, rd⟩ = bestF fs xs.length most 20 1 ⟨0, 0⟩ by rw [← hn]; unfold Bw.see; rw [hs, if_pos ⟨e1, .inr e3⟩])
            clear e1 e2 hn hs
            go_wp2_with (go_at_call 17; go_must (refine hcar.mono ?_; rintro e w2 ⟨v1, v2, rfl, -, -, hb2⟩; rw [HE.out]))
            go_quiet (fail)
            go_wp2_with fail
            go_roundg q
            case measure => omega
            case rel => exact ⟨k + 1, ⟨k, rd⟩, rfl, rfl, by go_num, Lib.hid ⟨by have := R.out.1; omega, HN.out, (below_al (R.out.2.2.trans (hb2.mono R.out.2.2.size)) (.cells #[.int .i64 rd, .int .i64 s.packets, .int .i64 s.acks] 36)).trans ⟨rfl, rfl, rfl, Nat.le_refl _, fun _ _ => rfl⟩⟩⟩
          · have HN := Lib.hid (show bestF fs xs.length most q (k + 1) b = bestF fs xs.length most 20 1 ⟨0, 0⟩ by rw [← hn]; unfold Bw.see; rw [hs, if_neg (by rintro ⟨_, h | h⟩; exact e2 h; exact e3 h)])
            clear e1 e2 hn hs
            go_wp2_with (go_at_call 17; go_must (refine hcar.mono ?_; rintro e w2 ⟨v1, v2, rfl, -, -, hb2⟩; rw [HE.out]))
            go_roundg q
            case measure => omega
            case rel => exact ⟨k + 1, b, rfl, rfl, by go_num, Lib.hid ⟨by have := R.out.1; omega, HN.out, (below_al (R.out.2.2.trans (hb2.mono R.out.2.2.size)) (.cells #[.int .i64 rd, .int .i64 s.packets, .int .i64 s.acks] 36))⟩⟩
      · have HN := Lib.hid (show bestF fs xs.length most q (k + 1) b = bestF fs xs.length most 20 1 ⟨0, 0⟩ by rw [← hn]; unfold Bw.see; rw [hs, if_neg (fun h => e1 h.1)])
        have HE := Lib.hid (decide_eq_false e1)
        clear e1 hn hs
        go_wp2_with (go_at_call 17; go_must (refine hcar.mono ?_; rintro e w2 ⟨v1, v2, rfl, -, -, hb2⟩; rw [HE.out]))
        go_roundg q
        case measure => omega
        case rel => exact ⟨k + 1, b, rfl, rfl, by go_num, Lib.hid ⟨by have := R.out.1; omega, HN.out, (below_al (R.out.2.2.trans (hb2.mono R.out.2.2.size)) (.cells #[.int .i64 rd, .int .i64 s.packets, .int .i64 s.acks] 36))⟩⟩
    · have hq : gk = 0 := by have := R.out.1; omega
      subst hq
      have HB := Lib.hid (show b = bestF fs xs.length most 20 1 ⟨0, 0⟩ from R.out.2.1)
      go_wp2_with fail
      refine bodyPost_ret (v := .tuple #[.int .i64 b.w, .int .i64 b.n, .bool (decide ((b.w : Int) > 0))]) ?_ rfl ?_
      · simp [results, Tryd.results31, go_sem]
      · rw [← HB.out]
        exact ⟨rfl, R.out.2.2⟩
end Go.Proofs.YtlkklaahnkcnkaaDoor.X
