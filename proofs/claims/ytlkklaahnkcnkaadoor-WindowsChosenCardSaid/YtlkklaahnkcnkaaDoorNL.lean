/- The law WindowsChosen, walked. -/
import Derived.Test.YtlkklaahnkcnkaaDoorZD
import Derived.Test.YtlkklaahnkcnkaaDoorY
import Derived.Test.YtlkklaahnkcnkaaDoorB2
import Derived.Test.YtlkklaahnkcnkaaDoorU
import Derived.Test.YtlkklaahnkcnkaaDoorNB
import Derived.Test.YtlkklaahnkcnkaaDoorND
import Derived.Test.YtlkklaahnkcnkaaDoorNH
namespace Go.Proofs.YtlkklaahnkcnkaaDoor.X
open Go.RowKit

theorem below_go {a b c : World} (h : Below a.heap.size a b) (k : Below b.heap.size b c) : Below a.heap.size a c := h.trans (k.mono h.size)
theorem Own.cap0 {α : Type} {d : Kn α} {e : Nat} {w : World} {base : Nat} {ok : Nat → Prop} {n c : Nat} {xs : List α} (h : Own d e w base ok (.slice none n c) xs) : c = 0 := Own.nocap h rfl
theorem or_best (xs : List Lt) (fs : List Int) (b : Int) : orF [lettersF xs, fatesF fs, spanF b 1 5000] = bestFault xs fs b := by
  simp only [orF, errFirst, bestFault, thenF, id]
  by_cases h1 : lettersF xs = 0
  · by_cases h2 : fatesF fs = 0
    · by_cases h3 : spanF b 1 5000 = 0 <;> simp [h1, h2, h3]
    · simp [h1, h2]
  · simp [h1]
theorem or_worst (m l k : Int) : orF [spanF m 0 6, spanF l 0 3, spanF k 1 20] = if worstOk m l k then 0 else 1 := by
  simp only [orF, errFirst, spanF, id, worstOk]
  by_cases h1 : 0 ≤ m ∧ m ≤ 6
  · by_cases h2 : 0 ≤ l ∧ l ≤ 3
    · by_cases h3 : 1 ≤ k ∧ k ≤ 20 <;> simp [h1, h2, h3]
    · simp [h1, h2]
  · simp [h1]
theorem worstOf_int (m l : Int) (window : Nat) (h : worstOk m l window) (w : World) :
    Calls Tryd.prog 32 #[.int .i64 m, .int .i64 l, .int .i64 window] w fun e w' => (∃ A c, e = .returned (.tuple #[.slice A (worst m.toNat window l.toNat [] ⟨[], -1⟩).best.length c, .int .i64 (worst m.toNat window l.toNat [] ⟨[], -1⟩).rounds]) ∧ Row kInt w' (fun _ => True) A (worst m.toNat window l.toNat [] ⟨[], -1⟩).best) ∧ Below w.heap.size w w' := by
  obtain ⟨h1, h2, h3⟩ := h
  have hc := worstOf_calls m.toNat l.toNat window (by omega) (by omega) (by omega) w
  rw [Int.toNat_of_nonneg h1.1, Int.toNat_of_nonneg h2.1] at hc
  exact hc
set_option maxRecDepth 100000 in
set_option maxHeartbeats 100000000 in
theorem windowsChosen_walk (A : Option Addr) (ls : List Int) (c : Nat) (w : World) (hc : ls.length ≤ c) (h : Row kInt w (fun _ => True) A ls) :
    Calls Tryd.prog 4 #[.slice A ls.length c] w fun e w' => e = .returned (.bool true) ∧ Below w.heap.size w w' := by
  have H := Lib.hid h
  clear h
  go_enter Tryd.func4, Tryd.ntmps4
  go_upto_region 6 with (first
    | (go_at_call 6; go_must (have hS : St w (w.alloc (.cells #[.slice A ls.length c, .int .i64 0] 25)) w.heap.size 0 := (by exact ⟨Nat.le_refl _, A, c, ls, 0, Nat.le_refl _, Blk.new _ _ _, hc, H.out⟩); refine (letterList_calls w.heap.size 0 (by decide) w _ hS ((Below.refl _ _).alloc (Nat.le_refl _) _)).mono ?_; rintro e w1 ⟨v1, xs, rfl, hO1, hx1, hs1, hk1⟩; have hB1 := hS.keep ((Below.refl _ _).alloc (Nat.le_refl _) _) hk1))
    | (go_at_call 7; go_must (refine (fateList_calls w.heap.size 50 (by decide) w w1 hs1 hB1).mono ?_; rintro e w2 ⟨v2, fs, rfl, hO2, hx2, hs2, hk2⟩; have hB2 := hs1.keep hB1 hk2; have hO1' := hO1.but hk2 (by simp)))
    | (go_at_call 9; go_must (refine (manyRounds_calls w.heap.size 70 (by decide) w w2 hs2 hB2).mono ?_; rintro e w3 ⟨r3, rfl, hx3, hs3, hk3⟩; have hB3 := hs2.keep hB2 hk3; obtain ⟨most, rfl⟩ := Int.eq_ofNat_of_zero_le hx3.1))
    | (go_at_call 27; (with_reducible show Calls _ _ #[_, .slice _ 7 7] _ _); refine (pick_calls _ [0, 1, 2, 3, 4, -1, 7] 7 (by simp) w.heap.size 72 (by decide) w _ (hs3.alloc _) (below_al hB3 _) (Row.lit_scal _ (Blk.new w3 _ _) rfl (by have := hs3.lt; simp; omega) (by simp))).mono ?_; rintro e w4 ⟨m, rfl, hx4, hs4, hk4⟩; have hB4 := (hs3.alloc _).keep (below_al hB3 _) hk4)
    | (go_at_call 27; (with_reducible show Calls _ _ #[_, .slice _ 6 6] _ _); refine (pick_calls _ [0, 1, 2, 2, -1, 4] 6 (by simp) w.heap.size 73 (by decide) w _ (hs4.alloc _) (below_al hB4 _) (Row.lit_scal _ (Blk.new w4 _ _) rfl (by have := hs4.lt; simp; omega) (by simp))).mono ?_; rintro e w5 ⟨l, rfl, hx5, hs5, hk5⟩; have hB5 := (hs4.alloc _).keep (below_al hB4 _) hk5)
    | (go_at_call 8; go_must (refine (aWindow_calls w.heap.size 74 (by decide) w w5 hs5 hB5).mono ?_; rintro e w6 ⟨r6, rfl, hx6, hs6, hk6⟩; have hB6 := hs5.keep hB5 hk6; obtain ⟨window, rfl⟩ := Int.eq_ofNat_of_zero_le hx6.1))
    | (go_at_call 28; go_must (refine (flip_calls 20 (by decide) w.heap.size 76 (by decide) w w6 hs6 hB6).mono ?_; rintro e w7 ⟨q, rfl, hs7, hk7⟩; have hB7 := hs6.keep hB6 hk7; have HX7 := Lib.hid ((((((hO1'.but hk3 (by simp)).alloc _).but hk4 (by simp)).alloc _).but hk5 (by simp) |>.but hk6 (by simp)).but hk7 (by simp)); have HF7 := Lib.hid ((((((hO2.but hk3 (by simp)).alloc _).but hk4 (by simp)).alloc _).but hk5 (by simp) |>.but hk6 (by simp)).but hk7 (by simp))))
    | (go_at_call 27; (with_reducible show Calls _ _ #[_, .slice _ 2 2] _ _); refine (pick_calls _ [5, 6] 2 (by simp) w.heap.size 77 (by decide) w _ (hs7.alloc _) (below_al hB7 _) (Row.lit_scal _ (Blk.new w7 _ _) rfl (by have := hs7.lt; simp; omega) (by simp))).mono ?_; rintro e w8 ⟨m2, rfl, hx8, hs8, hk8⟩; have hB8 := (hs7.alloc _).keep (below_al hB7 _) hk8))
  · have HX := Lib.hid ((HX7.out.alloc _).but hk8 (by simp))
    have HF := Lib.hid ((HF7.out.alloc _).but hk8 (by simp))
    have HB := Lib.hid hB8
    obtain ⟨A1, c1, rfl, hc1, hr1⟩ := HX.out.row
    obtain ⟨A2, c2, rfl, hc2, hr2⟩ := HF.out.row
    have hA1 : A1 = none → c1 = 0 := by rintro rfl; exact HX.out.cap0
    have HX1 := Lib.hid (hr1.mono (ok' := fun _ => True) fun _ _ => trivial)
    have HF1 := Lib.hid (hr2.mono (ok' := fun _ => True) fun _ _ => trivial)
    clear hr1 hr2 HX7 HF7
    have hor := or_best xs fs most
    have hor2 := or_worst m2 2 window
    have HK1 := Lib.hid (fun W (hW : Below w8.heap.size w8 W) => best_calls A1 A2 xs fs c1 c2 most W (HX1.out.below hW) (HF1.out.below hW) hc2 (by omega))
    have HK2 := Lib.hid (fun W (hW : Below w8.heap.size w8 W) => windowOf_calls A1 A2 xs fs c1 c2 most W (HX1.out.below hW) hA1 hc1 (HF1.out.below hW) hc2 (by omega) (by omega))
    generalize bestF fs xs.length most 20 1 ⟨0, 0⟩ = bw at HK1 HK2
    generalize bestFault xs fs most = f0 at hor HK1
    by_cases hF : f0 = 0
    · subst hF
      by_cases hW' : worstOk m2 2 window
      · rw [if_pos hW'] at hor2
        have hW := Lib.hid hW'
        clear hW'
        go_wp2_with (first
          | (go_at_call 12; go_must (refine (lettersFault1_calls A1 xs c1 _ HX1.out).mono ?_; rintro e u6 ⟨rfl, hb6⟩; have hfx := fatesFault_calls A2 fs c2 _ (HF1.out.below hb6)))
          | (go_at_call 10; go_must (refine hfx.mono ?_; rintro e w' ⟨rfl, rfl⟩; clear hfx))
          | (go_at_call 13; go_must (refine (spanFault_calls _ _ _ _).mono ?_; rintro e w' ⟨rfl, rfl⟩))
          | (go_at_call 11; (with_reducible show Calls _ _ #[.slice (some ⟨u6.heap.size, 0, none⟩) 3 3] _ _); refine (orErrno_calls _ [lettersF xs, fatesF fs, spanF most 1 5000] 3 _ (Row.lit_scal _ (Blk.new _ _ _) rfl trivial (by simp))).mono ?_; rintro e w' ⟨rfl, rfl⟩; rw [hor]; have hb7 := below_al hb6 (.cells #[.int .i64 (lettersF xs), .int .i64 (fatesF fs), .int .i64 (spanF most 1 5000)] 30))
          | (go_at_call 29; go_must (refine (HK1.out _ hb7).mono ?_; rintro e u7 ⟨(⟨hn, _⟩ | ⟨_, rfl⟩), hb7'⟩; exact absurd rfl hn; have hb8 := below_go hb7 hb7'))
          | (go_at_call 30; (refine (worst_calls m2 2 window _).mono ?_; rintro e u8 ⟨(⟨hn, _⟩ | ⟨_, A8, c8, rfl, hr8⟩), hb8'⟩; exact absurd hW.out hn; simp only [Int.toNat_natCast] at hr8 ⊢; have hb9 := below_go hb8 hb8'))
          | (go_at_call 11; (with_reducible show Calls _ _ #[.slice (some ⟨u8.heap.size, 0, none⟩) 3 3] _ _); go_must (refine (orErrno_calls _ [spanF m2 0 6, spanF 2 0 3, spanF window 1 20] 3 _ (Row.lit_scal _ (Blk.new _ _ _) rfl trivial (by simp))).mono ?_; rintro e w' ⟨rfl, rfl⟩; rw [hor2]; have hb10 := below_al hb9 (.cells #[.int .i64 (spanF m2 0 6), .int .i64 (spanF 2 0 3), .int .i64 (spanF window 1 20)] 30); have hr9 := hr8.alloc (.cells #[.int .i64 (spanF m2 0 6), .int .i64 (spanF 2 0 3), .int .i64 (spanF window 1 20)] 30)))
          | (go_at_call 31; (refine (HK2.out _ hb10).mono ?_; rintro e u10 ⟨rfl, hb10'⟩; have hb11 := below_go hb10 hb10'; have hr10 := hr9.below hb10'))
          | (go_at_call 32; go_must (refine (worstOf_int m2 2 window hW.out _).mono ?_; rintro e u11 ⟨⟨A11, c11, rfl, hr11⟩, hb11'⟩; have hb12 := below_go hb11 hb11'; have heq := equalInt_calls A8 A11 _ c8 c11 u11 (hr10.below hb11') hr11))
          | (go_at_call 20; go_must (refine heq.mono ?_; rintro e u13 ⟨rfl, hb13'⟩; have hb13 := below_go hb12 hb13'))
          | (go_at_call 26; go_must (refine (carried_calls _).mono ?_; rintro e u14 ⟨rfl, hb14'⟩; have hb14 := below_go hb13 hb14')))
        go_ret
        exact ⟨rfl, HB.out.trans (hb14.mono HB.out.size)⟩
      · rw [if_neg hW'] at hor2
        have hW := Lib.hid hW'
        clear hW'
        go_wp2_with (first
          | (go_at_call 12; go_must (refine (lettersFault1_calls A1 xs c1 _ HX1.out).mono ?_; rintro e u6 ⟨rfl, hb6⟩; have hfx := fatesFault_calls A2 fs c2 _ (HF1.out.below hb6)))
          | (go_at_call 10; go_must (refine hfx.mono ?_; rintro e w' ⟨rfl, rfl⟩; clear hfx))
          | (go_at_call 13; go_must (refine (spanFault_calls _ _ _ _).mono ?_; rintro e w' ⟨rfl, rfl⟩))
          | (go_at_call 11; (with_reducible show Calls _ _ #[.slice (some ⟨u6.heap.size, 0, none⟩) 3 3] _ _); refine (orErrno_calls _ [lettersF xs, fatesF fs, spanF most 1 5000] 3 _ (Row.lit_scal _ (Blk.new _ _ _) rfl trivial (by simp))).mono ?_; rintro e w' ⟨rfl, rfl⟩; rw [hor]; have hb7 := below_al hb6 (.cells #[.int .i64 (lettersF xs), .int .i64 (fatesF fs), .int .i64 (spanF most 1 5000)] 30))
          | (go_at_call 29; go_must (refine (HK1.out _ hb7).mono ?_; rintro e u7 ⟨(⟨hn, _⟩ | ⟨_, rfl⟩), hb7'⟩; exact absurd rfl hn; have hb8 := below_go hb7 hb7'))
          | (go_at_call 30; (refine (worst_calls m2 2 window _).mono ?_; rintro e u8 ⟨(⟨_, rfl⟩ | ⟨hn, _⟩), hb8'⟩; rotate_left 1; exact absurd hn hW.out; have hb9 := below_go hb8 hb8'))
          | (go_at_call 11; (with_reducible show Calls _ _ #[.slice (some ⟨u8.heap.size, 0, none⟩) 3 3] _ _); go_must (refine (orErrno_calls _ [spanF m2 0 6, spanF 2 0 3, spanF window 1 20] 3 _ (Row.lit_scal _ (Blk.new _ _ _) rfl trivial (by simp))).mono ?_; rintro e w' ⟨rfl, rfl⟩; rw [hor2]; have hb10 := below_al hb9 (.cells #[.int .i64 (spanF m2 0 6), .int .i64 (spanF 2 0 3), .int .i64 (spanF window 1 20)] 30)))
          | (go_at_call 31; (refine (HK2.out _ hb10).mono ?_; rintro e u10 ⟨rfl, hb10'⟩; have hb11 := below_go hb10 hb10'; have hb12 := hb11))
          | (go_at_call 20; go_must (refine (equalInt_calls none none [] 0 0 _ (Row.nil _) (Row.nil _)).mono ?_; rintro e u13 ⟨rfl, hb13'⟩; have hb13 := below_go hb12 hb13'))
          | (go_at_call 26; go_must (refine (carried_calls _).mono ?_; rintro e u14 ⟨rfl, hb14'⟩; have hb14 := below_go hb13 hb14')))
        go_ret
        exact ⟨rfl, HB.out.trans (hb14.mono HB.out.size)⟩
    · have hne : (f0 == 0) = false := by simpa using hF
      by_cases hW' : worstOk m2 2 window
      · rw [if_pos hW'] at hor2
        have hW := Lib.hid hW'
        clear hW'
        go_wp2_with (first
          | (go_at_call 12; go_must (refine (lettersFault1_calls A1 xs c1 _ HX1.out).mono ?_; rintro e u6 ⟨rfl, hb6⟩; have hfx := fatesFault_calls A2 fs c2 _ (HF1.out.below hb6)))
          | (go_at_call 10; go_must (refine hfx.mono ?_; rintro e w' ⟨rfl, rfl⟩; clear hfx))
          | (go_at_call 13; go_must (refine (spanFault_calls _ _ _ _).mono ?_; rintro e w' ⟨rfl, rfl⟩))
          | (go_at_call 11; (with_reducible show Calls _ _ #[.slice (some ⟨u6.heap.size, 0, none⟩) 3 3] _ _); refine (orErrno_calls _ [lettersF xs, fatesF fs, spanF most 1 5000] 3 _ (Row.lit_scal _ (Blk.new _ _ _) rfl trivial (by simp))).mono ?_; rintro e w' ⟨rfl, rfl⟩; rw [hor]; have hb7 := below_al hb6 (.cells #[.int .i64 (lettersF xs), .int .i64 (fatesF fs), .int .i64 (spanF most 1 5000)] 30))
          | (go_at_call 29; go_must (refine (HK1.out _ hb7).mono ?_; rintro e u7 ⟨(⟨_, rfl⟩ | ⟨hn, _⟩), hb7'⟩; rotate_left 1; exact absurd hn hF; have hb8 := below_go hb7 hb7'))
          | (go_at_call 30; (refine (worst_calls m2 2 window _).mono ?_; rintro e u8 ⟨(⟨hn, _⟩ | ⟨_, A8, c8, rfl, hr8⟩), hb8'⟩; exact absurd hW.out hn; simp only [Int.toNat_natCast] at hr8 ⊢; have hb9 := below_go hb8 hb8'))
          | (go_at_call 11; (with_reducible show Calls _ _ #[.slice (some ⟨u8.heap.size, 0, none⟩) 3 3] _ _); go_must (refine (orErrno_calls _ [spanF m2 0 6, spanF 2 0 3, spanF window 1 20] 3 _ (Row.lit_scal _ (Blk.new _ _ _) rfl trivial (by simp))).mono ?_; rintro e w' ⟨rfl, rfl⟩; rw [hor2]; have hb10 := below_al hb9 (.cells #[.int .i64 (spanF m2 0 6), .int .i64 (spanF 2 0 3), .int .i64 (spanF window 1 20)] 30); have hr9 := hr8.alloc (.cells #[.int .i64 (spanF m2 0 6), .int .i64 (spanF 2 0 3), .int .i64 (spanF window 1 20)] 30); have hb11 := hb10; have hr10 := hr9))
          | (go_at_call 32; go_must (refine (worstOf_int m2 2 window hW.out _).mono ?_; rintro e u11 ⟨⟨A11, c11, rfl, hr11⟩, hb11'⟩; have hb12 := below_go hb11 hb11'; have heq := equalInt_calls A8 A11 _ c8 c11 u11 (hr10.below hb11') hr11))
          | (go_at_call 20; go_must (refine heq.mono ?_; rintro e u13 ⟨rfl, hb13'⟩; have hb13 := below_go hb12 hb13'))
          | (go_at_call 26; go_must (refine (carried_calls _).mono ?_; rintro e u14 ⟨rfl, hb14'⟩; have hb14 := below_go hb13 hb14')))
        go_ret
        exact ⟨rfl, HB.out.trans (hb14.mono HB.out.size)⟩
      · rw [if_neg hW'] at hor2
        have hW := Lib.hid hW'
        clear hW'
        go_wp2_with (first
          | (go_at_call 12; go_must (refine (lettersFault1_calls A1 xs c1 _ HX1.out).mono ?_; rintro e u6 ⟨rfl, hb6⟩; have hfx := fatesFault_calls A2 fs c2 _ (HF1.out.below hb6)))
          | (go_at_call 10; go_must (refine hfx.mono ?_; rintro e w' ⟨rfl, rfl⟩; clear hfx))
          | (go_at_call 13; go_must (refine (spanFault_calls _ _ _ _).mono ?_; rintro e w' ⟨rfl, rfl⟩))
          | (go_at_call 11; (with_reducible show Calls _ _ #[.slice (some ⟨u6.heap.size, 0, none⟩) 3 3] _ _); refine (orErrno_calls _ [lettersF xs, fatesF fs, spanF most 1 5000] 3 _ (Row.lit_scal _ (Blk.new _ _ _) rfl trivial (by simp))).mono ?_; rintro e w' ⟨rfl, rfl⟩; rw [hor]; have hb7 := below_al hb6 (.cells #[.int .i64 (lettersF xs), .int .i64 (fatesF fs), .int .i64 (spanF most 1 5000)] 30))
          | (go_at_call 29; go_must (refine (HK1.out _ hb7).mono ?_; rintro e u7 ⟨(⟨_, rfl⟩ | ⟨hn, _⟩), hb7'⟩; rotate_left 1; exact absurd hn hF; have hb8 := below_go hb7 hb7'))
          | (go_at_call 30; (refine (worst_calls m2 2 window _).mono ?_; rintro e u8 ⟨(⟨_, rfl⟩ | ⟨hn, _⟩), hb8'⟩; rotate_left 1; exact absurd hn hW.out; have hb9 := below_go hb8 hb8'))
          | (go_at_call 11; (with_reducible show Calls _ _ #[.slice (some ⟨u8.heap.size, 0, none⟩) 3 3] _ _); go_must (refine (orErrno_calls _ [spanF m2 0 6, spanF 2 0 3, spanF window 1 20] 3 _ (Row.lit_scal _ (Blk.new _ _ _) rfl trivial (by simp))).mono ?_; rintro e w' ⟨rfl, rfl⟩; rw [hor2]; have hb10 := below_al hb9 (.cells #[.int .i64 (spanF m2 0 6), .int .i64 (spanF 2 0 3), .int .i64 (spanF window 1 20)] 30); have hb11 := hb10; have hb12 := hb11))
          | (go_at_call 20; go_must (refine (equalInt_calls none none [] 0 0 _ (Row.nil _) (Row.nil _)).mono ?_; rintro e u13 ⟨rfl, hb13'⟩; have hb13 := below_go hb12 hb13'))
          | (go_at_call 26; go_must (refine (carried_calls _).mono ?_; rintro e u14 ⟨rfl, hb14'⟩; have hb14 := below_go hb13 hb14')))
        go_ret
        exact ⟨rfl, HB.out.trans (hb14.mono HB.out.size)⟩
  · have HX := Lib.hid (HX7.out)
    have HF := Lib.hid (HF7.out)
    have HB := Lib.hid hB7
    obtain ⟨A1, c1, rfl, hc1, hr1⟩ := HX.out.row
    obtain ⟨A2, c2, rfl, hc2, hr2⟩ := HF.out.row
    have hA1 : A1 = none → c1 = 0 := by rintro rfl; exact HX.out.cap0
    have HX1 := Lib.hid (hr1.mono (ok' := fun _ => True) fun _ _ => trivial)
    have HF1 := Lib.hid (hr2.mono (ok' := fun _ => True) fun _ _ => trivial)
    clear hr1 hr2 HX7 HF7
    have hor := or_best xs fs most
    have hor2 := or_worst m l window
    have HK1 := Lib.hid (fun W (hW : Below w7.heap.size w7 W) => best_calls A1 A2 xs fs c1 c2 most W (HX1.out.below hW) (HF1.out.below hW) hc2 (by omega))
    have HK2 := Lib.hid (fun W (hW : Below w7.heap.size w7 W) => windowOf_calls A1 A2 xs fs c1 c2 most W (HX1.out.below hW) hA1 hc1 (HF1.out.below hW) hc2 (by omega) (by omega))
    generalize bestF fs xs.length most 20 1 ⟨0, 0⟩ = bw at HK1 HK2
    generalize bestFault xs fs most = f0 at hor HK1
    by_cases hF : f0 = 0
    · subst hF
      by_cases hW' : worstOk m l window
      · rw [if_pos hW'] at hor2
        have hW := Lib.hid hW'
        clear hW'
        go_wp2_with (first
          | (go_at_call 12; go_must (refine (lettersFault1_calls A1 xs c1 _ HX1.out).mono ?_; rintro e u6 ⟨rfl, hb6⟩; have hfx := fatesFault_calls A2 fs c2 _ (HF1.out.below hb6)))
          | (go_at_call 10; go_must (refine hfx.mono ?_; rintro e w' ⟨rfl, rfl⟩; clear hfx))
          | (go_at_call 13; go_must (refine (spanFault_calls _ _ _ _).mono ?_; rintro e w' ⟨rfl, rfl⟩))
          | (go_at_call 11; (with_reducible show Calls _ _ #[.slice (some ⟨u6.heap.size, 0, none⟩) 3 3] _ _); refine (orErrno_calls _ [lettersF xs, fatesF fs, spanF most 1 5000] 3 _ (Row.lit_scal _ (Blk.new _ _ _) rfl trivial (by simp))).mono ?_; rintro e w' ⟨rfl, rfl⟩; rw [hor]; have hb7 := below_al hb6 (.cells #[.int .i64 (lettersF xs), .int .i64 (fatesF fs), .int .i64 (spanF most 1 5000)] 30))
          | (go_at_call 29; go_must (refine (HK1.out _ hb7).mono ?_; rintro e u7 ⟨(⟨hn, _⟩ | ⟨_, rfl⟩), hb7'⟩; exact absurd rfl hn; have hb8 := below_go hb7 hb7'))
          | (go_at_call 30; (refine (worst_calls m l window _).mono ?_; rintro e u8 ⟨(⟨hn, _⟩ | ⟨_, A8, c8, rfl, hr8⟩), hb8'⟩; exact absurd hW.out hn; simp only [Int.toNat_natCast] at hr8 ⊢; have hb9 := below_go hb8 hb8'))
          | (go_at_call 11; (with_reducible show Calls _ _ #[.slice (some ⟨u8.heap.size, 0, none⟩) 3 3] _ _); go_must (refine (orErrno_calls _ [spanF m 0 6, spanF l 0 3, spanF window 1 20] 3 _ (Row.lit_scal _ (Blk.new _ _ _) rfl trivial (by simp))).mono ?_; rintro e w' ⟨rfl, rfl⟩; rw [hor2]; have hb10 := below_al hb9 (.cells #[.int .i64 (spanF m 0 6), .int .i64 (spanF l 0 3), .int .i64 (spanF window 1 20)] 30); have hr9 := hr8.alloc (.cells #[.int .i64 (spanF m 0 6), .int .i64 (spanF l 0 3), .int .i64 (spanF window 1 20)] 30)))
          | (go_at_call 31; (refine (HK2.out _ hb10).mono ?_; rintro e u10 ⟨rfl, hb10'⟩; have hb11 := below_go hb10 hb10'; have hr10 := hr9.below hb10'))
          | (go_at_call 32; go_must (refine (worstOf_int m l window hW.out _).mono ?_; rintro e u11 ⟨⟨A11, c11, rfl, hr11⟩, hb11'⟩; have hb12 := below_go hb11 hb11'; have heq := equalInt_calls A8 A11 _ c8 c11 u11 (hr10.below hb11') hr11))
          | (go_at_call 20; go_must (refine heq.mono ?_; rintro e u13 ⟨rfl, hb13'⟩; have hb13 := below_go hb12 hb13'))
          | (go_at_call 26; go_must (refine (carried_calls _).mono ?_; rintro e u14 ⟨rfl, hb14'⟩; have hb14 := below_go hb13 hb14')))
        go_ret
        exact ⟨rfl, HB.out.trans (hb14.mono HB.out.size)⟩
      · rw [if_neg hW'] at hor2
        have hW := Lib.hid hW'
        clear hW'
        go_wp2_with (first
          | (go_at_call 12; go_must (refine (lettersFault1_calls A1 xs c1 _ HX1.out).mono ?_; rintro e u6 ⟨rfl, hb6⟩; have hfx := fatesFault_calls A2 fs c2 _ (HF1.out.below hb6)))
          | (go_at_call 10; go_must (refine hfx.mono ?_; rintro e w' ⟨rfl, rfl⟩; clear hfx))
          | (go_at_call 13; go_must (refine (spanFault_calls _ _ _ _).mono ?_; rintro e w' ⟨rfl, rfl⟩))
          | (go_at_call 11; (with_reducible show Calls _ _ #[.slice (some ⟨u6.heap.size, 0, none⟩) 3 3] _ _); refine (orErrno_calls _ [lettersF xs, fatesF fs, spanF most 1 5000] 3 _ (Row.lit_scal _ (Blk.new _ _ _) rfl trivial (by simp))).mono ?_; rintro e w' ⟨rfl, rfl⟩; rw [hor]; have hb7 := below_al hb6 (.cells #[.int .i64 (lettersF xs), .int .i64 (fatesF fs), .int .i64 (spanF most 1 5000)] 30))
          | (go_at_call 29; go_must (refine (HK1.out _ hb7).mono ?_; rintro e u7 ⟨(⟨hn, _⟩ | ⟨_, rfl⟩), hb7'⟩; exact absurd rfl hn; have hb8 := below_go hb7 hb7'))
          | (go_at_call 30; (refine (worst_calls m l window _).mono ?_; rintro e u8 ⟨(⟨_, rfl⟩ | ⟨hn, _⟩), hb8'⟩; rotate_left 1; exact absurd hn hW.out; have hb9 := below_go hb8 hb8'))
          | (go_at_call 11; (with_reducible show Calls _ _ #[.slice (some ⟨u8.heap.size, 0, none⟩) 3 3] _ _); go_must (refine (orErrno_calls _ [spanF m 0 6, spanF l 0 3, spanF window 1 20] 3 _ (Row.lit_scal _ (Blk.new _ _ _) rfl trivial (by simp))).mono ?_; rintro e w' ⟨rfl, rfl⟩; rw [hor2]; have hb10 := below_al hb9 (.cells #[.int .i64 (spanF m 0 6), .int .i64 (spanF l 0 3), .int .i64 (spanF window 1 20)] 30)))
          | (go_at_call 31; (refine (HK2.out _ hb10).mono ?_; rintro e u10 ⟨rfl, hb10'⟩; have hb11 := below_go hb10 hb10'; have hb12 := hb11))
          | (go_at_call 20; go_must (refine (equalInt_calls none none [] 0 0 _ (Row.nil _) (Row.nil _)).mono ?_; rintro e u13 ⟨rfl, hb13'⟩; have hb13 := below_go hb12 hb13'))
          | (go_at_call 26; go_must (refine (carried_calls _).mono ?_; rintro e u14 ⟨rfl, hb14'⟩; have hb14 := below_go hb13 hb14')))
        go_ret
        exact ⟨rfl, HB.out.trans (hb14.mono HB.out.size)⟩
    · have hne : (f0 == 0) = false := by simpa using hF
      by_cases hW' : worstOk m l window
      · rw [if_pos hW'] at hor2
        have hW := Lib.hid hW'
        clear hW'
        go_wp2_with (first
          | (go_at_call 12; go_must (refine (lettersFault1_calls A1 xs c1 _ HX1.out).mono ?_; rintro e u6 ⟨rfl, hb6⟩; have hfx := fatesFault_calls A2 fs c2 _ (HF1.out.below hb6)))
          | (go_at_call 10; go_must (refine hfx.mono ?_; rintro e w' ⟨rfl, rfl⟩; clear hfx))
          | (go_at_call 13; go_must (refine (spanFault_calls _ _ _ _).mono ?_; rintro e w' ⟨rfl, rfl⟩))
          | (go_at_call 11; (with_reducible show Calls _ _ #[.slice (some ⟨u6.heap.size, 0, none⟩) 3 3] _ _); refine (orErrno_calls _ [lettersF xs, fatesF fs, spanF most 1 5000] 3 _ (Row.lit_scal _ (Blk.new _ _ _) rfl trivial (by simp))).mono ?_; rintro e w' ⟨rfl, rfl⟩; rw [hor]; have hb7 := below_al hb6 (.cells #[.int .i64 (lettersF xs), .int .i64 (fatesF fs), .int .i64 (spanF most 1 5000)] 30))
          | (go_at_call 29; go_must (refine (HK1.out _ hb7).mono ?_; rintro e u7 ⟨(⟨_, rfl⟩ | ⟨hn, _⟩), hb7'⟩; rotate_left 1; exact absurd hn hF; have hb8 := below_go hb7 hb7'))
          | (go_at_call 30; (refine (worst_calls m l window _).mono ?_; rintro e u8 ⟨(⟨hn, _⟩ | ⟨_, A8, c8, rfl, hr8⟩), hb8'⟩; exact absurd hW.out hn; simp only [Int.toNat_natCast] at hr8 ⊢; have hb9 := below_go hb8 hb8'))
          | (go_at_call 11; (with_reducible show Calls _ _ #[.slice (some ⟨u8.heap.size, 0, none⟩) 3 3] _ _); go_must (refine (orErrno_calls _ [spanF m 0 6, spanF l 0 3, spanF window 1 20] 3 _ (Row.lit_scal _ (Blk.new _ _ _) rfl trivial (by simp))).mono ?_; rintro e w' ⟨rfl, rfl⟩; rw [hor2]; have hb10 := below_al hb9 (.cells #[.int .i64 (spanF m 0 6), .int .i64 (spanF l 0 3), .int .i64 (spanF window 1 20)] 30); have hr9 := hr8.alloc (.cells #[.int .i64 (spanF m 0 6), .int .i64 (spanF l 0 3), .int .i64 (spanF window 1 20)] 30); have hb11 := hb10; have hr10 := hr9))
          | (go_at_call 32; go_must (refine (worstOf_int m l window hW.out _).mono ?_; rintro e u11 ⟨⟨A11, c11, rfl, hr11⟩, hb11'⟩; have hb12 := below_go hb11 hb11'; have heq := equalInt_calls A8 A11 _ c8 c11 u11 (hr10.below hb11') hr11))
          | (go_at_call 20; go_must (refine heq.mono ?_; rintro e u13 ⟨rfl, hb13'⟩; have hb13 := below_go hb12 hb13'))
          | (go_at_call 26; go_must (refine (carried_calls _).mono ?_; rintro e u14 ⟨rfl, hb14'⟩; have hb14 := below_go hb13 hb14')))
        go_ret
        exact ⟨rfl, HB.out.trans (hb14.mono HB.out.size)⟩
      · rw [if_neg hW'] at hor2
        have hW := Lib.hid hW'
        clear hW'
        go_wp2_with (first
          | (go_at_call 12; go_must (refine (lettersFault1_calls A1 xs c1 _ HX1.out).mono ?_; rintro e u6 ⟨rfl, hb6⟩; have hfx := fatesFault_calls A2 fs c2 _ (HF1.out.below hb6)))
          | (go_at_call 10; go_must (refine hfx.mono ?_; rintro e w' ⟨rfl, rfl⟩; clear hfx))
          | (go_at_call 13; go_must (refine (spanFault_calls _ _ _ _).mono ?_; rintro e w' ⟨rfl, rfl⟩))
          | (go_at_call 11; (with_reducible show Calls _ _ #[.slice (some ⟨u6.heap.size, 0, none⟩) 3 3] _ _); refine (orErrno_calls _ [lettersF xs, fatesF fs, spanF most 1 5000] 3 _ (Row.lit_scal _ (Blk.new _ _ _) rfl trivial (by simp))).mono ?_; rintro e w' ⟨rfl, rfl⟩; rw [hor]; have hb7 := below_al hb6 (.cells #[.int .i64 (lettersF xs), .int .i64 (fatesF fs), .int .i64 (spanF most 1 5000)] 30))
          | (go_at_call 29; go_must (refine (HK1.out _ hb7).mono ?_; rintro e u7 ⟨(⟨_, rfl⟩ | ⟨hn, _⟩), hb7'⟩; rotate_left 1; exact absurd hn hF; have hb8 := below_go hb7 hb7'))
          | (go_at_call 30; (refine (worst_calls m l window _).mono ?_; rintro e u8 ⟨(⟨_, rfl⟩ | ⟨hn, _⟩), hb8'⟩; rotate_left 1; exact absurd hn hW.out; have hb9 := below_go hb8 hb8'))
          | (go_at_call 11; (with_reducible show Calls _ _ #[.slice (some ⟨u8.heap.size, 0, none⟩) 3 3] _ _); go_must (refine (orErrno_calls _ [spanF m 0 6, spanF l 0 3, spanF window 1 20] 3 _ (Row.lit_scal _ (Blk.new _ _ _) rfl trivial (by simp))).mono ?_; rintro e w' ⟨rfl, rfl⟩; rw [hor2]; have hb10 := below_al hb9 (.cells #[.int .i64 (spanF m 0 6), .int .i64 (spanF l 0 3), .int .i64 (spanF window 1 20)] 30); have hb11 := hb10; have hb12 := hb11))
          | (go_at_call 20; go_must (refine (equalInt_calls none none [] 0 0 _ (Row.nil _) (Row.nil _)).mono ?_; rintro e u13 ⟨rfl, hb13'⟩; have hb13 := below_go hb12 hb13'))
          | (go_at_call 26; go_must (refine (carried_calls _).mono ?_; rintro e u14 ⟨rfl, hb14'⟩; have hb14 := below_go hb13 hb14')))
        go_ret
        exact ⟨rfl, HB.out.trans (hb14.mono HB.out.size)⟩
end Go.Proofs.YtlkklaahnkcnkaaDoor.X
