/- The law LettersCarried, walked. -/
import Derived.Test.YtlkklaahnkcnkaaDoorZB
import Derived.Test.YtlkklaahnkcnkaaDoorZC
import Derived.Test.YtlkklaahnkcnkaaDoorZD
import Derived.Test.YtlkklaahnkcnkaaDoorT
import Derived.Test.YtlkklaahnkcnkaaDoorX
import Derived.Test.YtlkklaahnkcnkaaDoorY
import Derived.Test.YtlkklaahnkcnkaaDoorB2
namespace Go.Proofs.YtlkklaahnkcnkaaDoor.X
open Go.RowKit

theorem below_go {a b c : World} (h : Below a.heap.size a b) (k : Below b.heap.size b c) : Below a.heap.size a c := h.trans (k.mono h.size)
theorem or_fault (xs : List Lt) (fs : List Int) (a b : Int) : orF [lettersF xs, fatesF fs, spanF a 1 20, spanF b 1 5000] = faultF xs fs a b := by
  simp only [orF, errFirst, faultF, boundsF, thenF, id]
  by_cases h1 : lettersF xs = 0
  · by_cases h2 : fatesF fs = 0
    · by_cases h3 : spanF a 1 20 = 0
      · by_cases h4 : spanF b 1 5000 = 0 <;> simp [h1, h2, h3, h4]
      · simp [h1, h2, h3]
    · simp [h1, h2]
  · simp [h1]
theorem law_fates {xs : List Lt} {fs : List Int} {a b : Int} (h : faultF xs fs a b = 0) : fatesF fs = 0 := (thenF_zero (thenF_zero h).1).2
/-- A row of natural numbers, read as integers. -/
theorem Row.toInt {w : World} {ok : Nat → Prop} {A : Option Addr} {xs : List Nat} (h : Row kNat w ok A xs) : Row kInt w ok A (xs.map fun n : Nat => (n : Int)) := by
  refine ⟨by rw [List.length_map]; exact h.1, fun hn => ?_⟩
  rw [List.length_map] at hn
  obtain ⟨ad, e, h1, h2⟩ := h.2 hn
  refine ⟨ad, e, h1, fun j p hj => ?_⟩
  rw [List.getElem?_map] at hj
  obtain ⟨q, hq, rfl⟩ := Option.map_eq_some_iff.1 hj
  obtain ⟨cs, h3, h4⟩ := h2 j q hq
  exact ⟨cs, h3, h4⟩
theorem Row.onlyLt {w : World} {ok : Nat → Prop} {A : Option Addr} {xs : List Lt} (h : Row kLt w ok A xs) : Row kLt w (fun k => A.map (·.block) = some k) A xs := by
  refine ⟨h.1, fun hn => ?_⟩
  obtain ⟨ad, rfl, h1, h2⟩ := h.2 hn
  refine ⟨ad, rfl, rfl, fun j p hj => ?_⟩
  obtain ⟨cs, h3, h4⟩ := h2 j p hj
  obtain rfl := kLt_open h3
  exact ⟨_, kLt_mk _ _ _, h4⟩
theorem ownBlock_slice {A : Option Addr} {n c k : Nat} (h : A.map (·.block) = some k) : (Value.slice A n c).ownBlock = some k := by
  cases A with
  | none => cases h
  | some a => exact h
theorem Own.cap0 {α : Type} {d : Kn α} {e : Nat} {w : World} {base : Nat} {ok : Nat → Prop} {n c : Nat} {xs : List α} (h : Own d e w base ok (.slice none n c) xs) : c = 0 := by
  obtain ⟨h1, h2, inner, h3, h4⟩ := h
  rcases h3.2 with ⟨e, _⟩ | ⟨g, cap, cur, e, _⟩
  · injection e
  · cases e
set_option maxRecDepth 100000 in
set_option maxHeartbeats 8000000 in
theorem lettersCarried_walk (A : Option Addr) (ls : List Int) (c : Nat) (w : World) (hc : ls.length ≤ c) (h : Row kInt w (fun _ => True) A ls) :
    Calls Tryd.prog 3 #[.slice A ls.length c] w fun e w' => e = .returned (.bool true) ∧ Below w.heap.size w w' := by
  have H := Lib.hid h
  clear h
  go_enter Tryd.func3, Tryd.ntmps3
  go_wp2_with (first
    | (go_at_call 6; go_must (have hS : St w (w.alloc (.cells #[.slice A ls.length c, .int .i64 0] 25)) w.heap.size 0 := (by exact ⟨Nat.le_refl _, A, c, ls, 0, Nat.le_refl _, Blk.new _ _ _, hc, H.out⟩); refine (letterList_calls w.heap.size 0 (by decide) w _ hS ((Below.refl _ _).alloc (Nat.le_refl _) _)).mono ?_; rintro e w1 ⟨v1, xs, rfl, hO1, hx1, hs1, hk1⟩; have hB1 := hS.keep ((Below.refl _ _).alloc (Nat.le_refl _) _) hk1))
    | (go_at_call 7; go_must (refine (fateList_calls w.heap.size 50 (by decide) w w1 hs1 hB1).mono ?_; rintro e w2 ⟨v2, fs, rfl, hO2, hx2, hs2, hk2⟩; have hB2 := hs1.keep hB1 hk2; have hO1' := hO1.but hk2 (by simp)))
    | (go_at_call 8; go_must (refine (aWindow_calls w.heap.size 70 (by decide) w w2 hs2 hB2).mono ?_; rintro e w3 ⟨r3, rfl, hx3, hs3, hk3⟩; have hB3 := hs2.keep hB2 hk3; obtain ⟨window, rfl⟩ := Int.eq_ofNat_of_zero_le hx3.1))
    | (go_at_call 9; go_must (refine (manyRounds_calls w.heap.size 72 (by decide) w w3 hs3 hB3).mono ?_; rintro e w5 ⟨r4, rfl, hx4, hs4, hk4⟩; have hB4 := hs3.keep hB3 hk4; obtain ⟨most, rfl⟩ := Int.eq_ofNat_of_zero_le hx4.1)))
  have HX := Lib.hid ((hO1'.but hk3 (by simp)).but hk4 (by simp))
  have HF := Lib.hid ((hO2.but hk3 (by simp)).but hk4 (by simp))
  have HS := Lib.hid hs4
  have HB := Lib.hid hB4
  obtain ⟨A1, c1, rfl, hc1, hr1⟩ := HX.out.row
  obtain ⟨A2, c2, rfl, hc2, hr2⟩ := HF.out.row
  clear hs1 hs2 hs3 hs4 hk1 hk2 hk3 hk4 hB1 hB2 hB3 hB4 hO1 hO1' hO2 hS
  have hA1 : A1 = none → c1 = 0 := by rintro rfl; exact HX.out.cap0
  have HX1 := Lib.hid (hr1.mono (ok' := fun _ => True) fun _ _ => trivial)
  have HF1 := Lib.hid (hr2.mono (ok' := fun _ => True) fun _ _ => trivial)
  clear hr1 hr2
  have hor := or_fault xs fs window most
  have hok := (carryF_ok fs xs.length window most).1
  have hfx := fatesFault_calls A2 fs c2 w5 HF1.out
  by_cases hF : faultF xs fs window most = 0
  · have hff := law_fates hF
    rw [hF, hff] at hor
    rw [hff] at hfx
    have HK1 := Lib.hid (fun W (hW : Below w5.heap.size w5 W) => carryR_calls A1 A2 xs fs c1 c2 window most W (HX1.out.below hW) hA1 hc1 (HF1.out.below hW) hc2)
    have HK2 := Lib.hid (fun W (hW : Below w5.heap.size w5 W) => rounds_calls A1 A2 xs fs c1 c2 window most W (HX1.out.below hW) (HF1.out.below hW) hc2)
    have HK3 := Lib.hid (fun W (hW : Below w5.heap.size w5 W) => waste_calls A1 A2 xs fs c1 c2 window most W (HX1.out.below hW) (HF1.out.below hW) hc2)
    have HK4 := Lib.hid (fun W (hW : Below w5.heap.size w5 W) => carriedBy_calls A1 A2 xs fs c1 c2 window most W (HX1.out.below hW) hA1 hc1 (HF1.out.below hW) hc2 (by omega) (by omega) (by omega))
    generalize (carryF fs xs.length window most).1 = rd at hok HK1 HK2 HK3 HK4
    generalize (carryF fs xs.length window most).2 = s at hok HK1 HK2 HK3 HK4
    have hrl : s.rc.rounds.length ≤ 8 := by have := hok.rounds; have := hok.acc; omega
    rw [hF] at HK1 HK2 HK3
    go_wp2_with (first
      | (go_at_call 10; go_must (refine hfx.mono ?_; rintro e w' ⟨rfl, rfl⟩; clear hfx))
      | (go_at_call 12; go_must (refine (lettersFault1_calls A1 xs c1 _ HX1.out).mono ?_; rintro e w6 ⟨rfl, hb6⟩))
      | (go_at_call 13; go_must (refine (spanFault_calls _ _ _ _).mono ?_; rintro e w' ⟨rfl, rfl⟩))
      | (go_at_call 11; go_must (refine (orErrno_calls _ [lettersF xs, 0, spanF window 1 20, spanF most 1 5000] 4 _ (Row.lit_scal _ (Blk.new _ _ _) rfl trivial (by simp))).mono ?_; rintro e w' ⟨rfl, rfl⟩; rw [hor]; have hb7 := below_al hb6 (.cells #[.int .i64 (lettersF xs), .int .i64 0, .int .i64 (spanF window 1 20), .int .i64 (spanF most 1 5000)] 30)))
      | (go_at_call 14; go_must (refine (HK1.out _ hb7).mono ?_; rintro e w7 (⟨hn, _⟩ | ⟨_, v7, rfl, hO7, hb7'⟩); exact absurd rfl hn; have hb8 := below_go hb7 hb7'; obtain ⟨A7, c7, rfl, hcc7, hr7'⟩ := hO7.row; have hr7 := hr7'.bound))
      | (go_at_call 15; go_must (have hb9 := below_al hb8 (.cells #[.int .i64 rd, .int .i64 s.packets, .int .i64 s.acks] 36); refine (HK2.out _ hb9).mono ?_; rintro e w8 (⟨hn, _⟩ | ⟨_, v8, rfl, hO8, hb8'⟩); exact absurd rfl hn; have hb10 := below_go hb9 hb8'; obtain ⟨A8, c8, rfl, hcc8, hr8'⟩ := hO8.row (by omega); have hr8 := hr8'.bound; have hB7 := (Blk.new w7 #[.int .i64 rd, .int .i64 s.packets, .int .i64 s.acks] 36).below hb8'; have hR7 := (hr7.alloc (.cells #[.int .i64 rd, .int .i64 s.packets, .int .i64 s.acks] 36)).below hb8'))
      | (go_at_call 16; go_must (refine (HK3.out _ hb10).mono ?_; rintro e w9 (⟨hn, _⟩ | ⟨_, rfl, hb9'⟩); exact absurd rfl hn; have hb11 := below_go hb10 hb9'; have hB8 := hB7.below hb9'; have hR8 := hR7.below hb9'; have hQ8 := hr8.below hb9'))
      | (go_at_call 17; go_must (have hb12 := below_al hb11 (.cells #[.int .i64 0, .int .i64 0, .int .i64 0] 36); refine (HK4.out _ hb12).mono ?_; rintro e w10 ⟨v10, v11, rfl, hO10, hO11, hb10'⟩; have hb13 := below_go hb12 hb10'; have hN := (Blk.new w9 #[.int .i64 0, .int .i64 0, .int .i64 0] 36).below hb10'; have hB9 := (hB8.alloc (.cells #[.int .i64 0, .int .i64 0, .int .i64 0] 36)).below hb10'; have hR9 := (hR8.alloc (.cells #[.int .i64 0, .int .i64 0, .int .i64 0] 36)).below hb10'; have hQ9 := (hQ8.alloc (.cells #[.int .i64 0, .int .i64 0, .int .i64 0] 36)).below hb10'; obtain ⟨A10, c10, rfl, hcc10, hr10⟩ := hO10.row; obtain ⟨A11, c11, rfl, hcc11, hr11⟩ := hO11.row (by omega); have z0 := hN.c0; have z1 := hN.c1; have z2 := hN.c2)))
    have hst : Blk (setsW w10 w9.heap.size 0 [.int .i64 rd, .int .i64 s.packets, .int .i64 s.acks]) w9.heap.size #[.int .i64 rd, .int .i64 s.packets, .int .i64 s.acks] 36 := hN.stored [.int .i64 rd, .int .i64 s.packets, .int .i64 s.acks] rfl
    have hch : Ch (fun k => k = w9.heap.size) w10 (setsW w10 w9.heap.size 0 [.int .i64 rd, .int .i64 s.packets, .int .i64 s.acks]) := (Ch.refl _ _).setsW _ _ (.inl rfl)
    have l5 := hb11.size
    have l7 := (hB7.lt : w7.heap.size < w8.heap.size)
    have l8 := hb9'.size
    have hb14 := hb13.trans (hch.low hb13.size (fun k hk e => by omega))
    have hBf := hB9.ch hch (by omega)
    have R7 := (hR9.ch hch (fun k hk e => by have := hk.2; omega)).mono (ok' := fun _ => True) fun _ _ => trivial
    have Q8 := (hQ9.ch hch (fun k hk e => by have := hk.2; omega)).mono (ok' := fun _ => True) fun _ _ => trivial
    have R10 := (hr10.onlyLt.ch hch (fun k hk e => by have := hO10.base k (ownBlock_slice hk); simp at this; omega)).mono (ok' := fun _ => True) fun _ _ => trivial
    have Q11 := (hr11.ch hch (fun k hk e => by have := hO11.base k hk; simp at this; omega)).mono (ok' := fun _ => True) fun _ _ => trivial
    simp only [setsW] at hst hch hb14 hBf R7 Q8 R10 Q11
    generalize World.setCell _ ⟨w9.heap.size, 2, none⟩ _ = Wf at hst hch hb14 hBf R7 Q8 R10 Q11 ⊢
    have hcf := checkFates_calls A2 fs c2 Wf (HF1.out.below hb14)
    rw [hff] at hcf
    have heq := equalLt_calls A7 A10 (xs.take s.rc.accepted) c7 c10 Wf R7 R10
    rw [List.length_take] at heq
    have htx : textF fs = fatesT fs := if_pos hff
    go_wp2_with (first
      | (go_at_call 18; go_must (refine hcf.mono ?_; rintro e w' ⟨rfl, rfl⟩; clear hcf))
      | (go_at_call 19; go_must (refine heq.mono ?_; rintro e w11 ⟨rfl, hb11'⟩; have hb15 := below_go hb14 hb11'; have x0 := (hBf.below hb11').c0; have x1 := (hBf.below hb11').c1; have x2 := (hBf.below hb11').c2; have y0 := (hst.below hb11').c0; have y1 := (hst.below hb11').c1; have y2 := (hst.below hb11').c2; have hei := equalInt_calls A8 A11 (s.rc.rounds.map fun n : Nat => (n : Int)) c8 c11 w11 (Q8.toInt.below hb11') (Q11.toInt.below hb11'); rw [List.length_map] at hei))
      | (go_at_call 20; go_must (refine hei.mono ?_; rintro e w12 ⟨rfl, hb12'⟩; have hb16 := below_go hb15 hb12'; have htt := text_calls A2 fs c2 w12 (HF1.out.below hb16); rw [htx, hff] at htt))
      | (go_at_call 21; go_must (refine htt.mono ?_; rintro e w13 ⟨rfl, hb13'⟩; have hb17 := below_go hb16 hb13'))
      | (go_at_call 22; go_must (refine (fatesText_calls A2 fs c2 _ (HF1.out.below hb17) hff).mono ?_; rintro e w' ⟨rfl, rfl⟩; have hs6 := HS.out.below hb17; have hB6 := (HB.out.trans (hb17.mono HB.out.size)))))
    go_wp2_with (first
      | (go_at_call 23; go_must (refine (fateString_calls w.heap.size 74 (by decide) w _ hs6 hB6).mono ?_; rintro e w14 ⟨r, rfl, hr, hs14, hk14⟩; have hB14 := hs6.keep hB6 hk14; have hrd := read_calls r w14 (by omega)))
      | (go_at_call 24; go_must (refine hrd.mono ?_; rintro e w15 ⟨v15, rfl, hO15, hb15'⟩; obtain ⟨A15, c15, rfl, hcc15, hr15⟩ := hO15.row; have hB15 := hB14.trans (hb15'.mono hB14.size); have hfi := fatesIn_calls r w15 (by omega)))
      | (go_at_call 25; go_must (refine hfi.mono ?_; rintro e w16 ⟨v16, rfl, hO16, hb16'⟩; obtain ⟨A16, c16, rfl, hcc16, hr16⟩ := hO16.row; have hB16 := hB15.trans (hb16'.mono hB15.size); have heq2 := equalInt_calls A15 A16 (readF r.data.toList).1 c15 c16 w16 (hr15.below hb16') hr16))
      | (go_at_call 20; go_must (refine heq2.mono ?_; rintro e w17 ⟨rfl, hb17'⟩; have hB17 := hB16.trans (hb17'.mono hB16.size)))
      | (go_at_call 26; go_must (refine (carried_calls _).mono ?_; rintro e w18 ⟨rfl, hb18'⟩; have hB18 := hB17.trans (hb18'.mono hB17.size))))
    go_ret
    exact ⟨rfl, hB18⟩
  · have HK1 := Lib.hid (fun W (hW : Below w5.heap.size w5 W) => carryR_calls A1 A2 xs fs c1 c2 window most W (HX1.out.below hW) hA1 hc1 (HF1.out.below hW) hc2)
    have HK2 := Lib.hid (fun W (hW : Below w5.heap.size w5 W) => rounds_calls A1 A2 xs fs c1 c2 window most W (HX1.out.below hW) (HF1.out.below hW) hc2)
    have HK3 := Lib.hid (fun W (hW : Below w5.heap.size w5 W) => waste_calls A1 A2 xs fs c1 c2 window most W (HX1.out.below hW) (HF1.out.below hW) hc2)
    clear hok
    generalize (carryF fs xs.length window most).1 = rd at HK1 HK2 HK3
    generalize (carryF fs xs.length window most).2 = s at HK1 HK2 HK3
    generalize faultF xs fs window most = f0 at hor hF HK1 HK2 HK3
    have hne : (f0 == 0) = false := by simpa using hF
    by_cases hff : fatesF fs = 0
    · rw [hff] at hor hfx
      have htx : textF fs = fatesT fs := if_pos hff
      go_wp2_with (first
        | (go_at_call 10; go_must (refine hfx.mono ?_; rintro e w' ⟨rfl, rfl⟩; clear hfx))
        | (go_at_call 12; go_must (refine (lettersFault1_calls A1 xs c1 _ HX1.out).mono ?_; rintro e w6 ⟨rfl, hb6⟩))
        | (go_at_call 13; go_must (refine (spanFault_calls _ _ _ _).mono ?_; rintro e w' ⟨rfl, rfl⟩))
        | (go_at_call 11; go_must (refine (orErrno_calls _ [lettersF xs, 0, spanF window 1 20, spanF most 1 5000] 4 _ (Row.lit_scal _ (Blk.new _ _ _) rfl trivial (by simp))).mono ?_; rintro e w' ⟨rfl, rfl⟩; rw [hor]; have hb7 := below_al hb6 (.cells #[.int .i64 (lettersF xs), .int .i64 0, .int .i64 (spanF window 1 20), .int .i64 (spanF most 1 5000)] 30)))
        | (go_at_call 14; go_must (refine (HK1.out _ hb7).mono ?_; rintro e w7 (⟨_, rfl, hb7'⟩ | ⟨hn, _⟩); rotate_left 1; exact absurd hn hF; have hb8 := below_go hb7 hb7'))
        | (go_at_call 15; go_must (have hb9 := below_al hb8 (.cells #[.int .i64 0, .int .i64 0, .int .i64 0] 36); refine (HK2.out _ hb9).mono ?_; rintro e w8 (⟨_, rfl, hb8'⟩ | ⟨hn, _⟩); rotate_left 1; exact absurd hn hF; have hb10 := below_go hb9 hb8'; have hB7 := (Blk.new w7 #[.int .i64 0, .int .i64 0, .int .i64 0] 36).below hb8'))
        | (go_at_call 16; go_must (refine (HK3.out _ hb10).mono ?_; rintro e w9 (⟨_, rfl, hb9'⟩ | ⟨hn, _⟩); rotate_left 1; exact absurd hn hF; have hb11 := below_go hb10 hb9'; have hB8 := (hB7.below hb9').alloc (.cells #[.int .i64 0, .int .i64 0, .int .i64 0] 36); have hb12 := below_al hb11 (.cells #[.int .i64 0, .int .i64 0, .int .i64 0] 36); have hN := Blk.new w9 #[.int .i64 0, .int .i64 0, .int .i64 0] 36; have hcf := checkFates_calls A2 fs c2 _ (HF1.out.below hb12); rw [hff] at hcf))
        | (go_at_call 18; go_must (refine hcf.mono ?_; rintro e w' ⟨rfl, rfl⟩; clear hcf))
        | (go_at_call 19; go_must (refine (equalLt_calls none none [] 0 0 _ (Row.nil _) (Row.nil _)).mono ?_; rintro e w11 ⟨rfl, hb11'⟩; have hb15 := below_go hb12 hb11'; have x0 := (hB8.below hb11').c0; have x1 := (hB8.below hb11').c1; have x2 := (hB8.below hb11').c2; have y0 := (hN.below hb11').c0; have y1 := (hN.below hb11').c1; have y2 := (hN.below hb11').c2))
        | (go_at_call 20; go_must (refine (equalInt_calls none none [] 0 0 _ (Row.nil _) (Row.nil _)).mono ?_; rintro e w12 ⟨rfl, hb12'⟩; have hb16 := below_go hb15 hb12'; have htt := text_calls A2 fs c2 w12 (HF1.out.below hb16); rw [htx, hff] at htt))
        | (go_at_call 21; go_must (refine htt.mono ?_; rintro e w13 ⟨rfl, hb13'⟩; have hb17 := below_go hb16 hb13'))
        | (go_at_call 22; go_must (refine (fatesText_calls A2 fs c2 _ (HF1.out.below hb17) hff).mono ?_; rintro e w' ⟨rfl, rfl⟩; have hs6 := HS.out.below hb17; have hB6 := (HB.out.trans (hb17.mono HB.out.size)))))
      go_wp2_with (first
        | (go_at_call 23; go_must (refine (fateString_calls w.heap.size 74 (by decide) w _ hs6 hB6).mono ?_; rintro e w14 ⟨r, rfl, hr, hs14, hk14⟩; have hB14 := hs6.keep hB6 hk14; have hrd := read_calls r w14 (by omega)))
        | (go_at_call 24; go_must (refine hrd.mono ?_; rintro e w15 ⟨v15, rfl, hO15, hb15'⟩; obtain ⟨A15, c15, rfl, hcc15, hr15⟩ := hO15.row; have hB15 := hB14.trans (hb15'.mono hB14.size); have hfi := fatesIn_calls r w15 (by omega)))
        | (go_at_call 25; go_must (refine hfi.mono ?_; rintro e w16 ⟨v16, rfl, hO16, hb16'⟩; obtain ⟨A16, c16, rfl, hcc16, hr16⟩ := hO16.row; have hB16 := hB15.trans (hb16'.mono hB15.size); have heq2 := equalInt_calls A15 A16 (readF r.data.toList).1 c15 c16 w16 (hr15.below hb16') hr16))
        | (go_at_call 20; go_must (refine heq2.mono ?_; rintro e w17 ⟨rfl, hb17'⟩; have hB17 := hB16.trans (hb17'.mono hB16.size)))
        | (go_at_call 26; go_must (refine (carried_calls _).mono ?_; rintro e w18 ⟨rfl, hb18'⟩; have hB18 := hB17.trans (hb18'.mono hB17.size))))
      go_ret
      exact ⟨rfl, hB18⟩
    · have htx : textF fs = ByteArray.empty := if_neg hff
      have hqn : (fatesF fs == 0) = false := by simpa using hff
      go_wp2_with (first
        | (go_at_call 10; go_must (refine hfx.mono ?_; rintro e w' ⟨rfl, rfl⟩; clear hfx))
        | (go_at_call 12; go_must (refine (lettersFault1_calls A1 xs c1 _ HX1.out).mono ?_; rintro e w6 ⟨rfl, hb6⟩))
        | (go_at_call 13; go_must (refine (spanFault_calls _ _ _ _).mono ?_; rintro e w' ⟨rfl, rfl⟩))
        | (go_at_call 11; go_must (refine (orErrno_calls _ [lettersF xs, fatesF fs, spanF window 1 20, spanF most 1 5000] 4 _ (Row.lit_scal _ (Blk.new _ _ _) rfl trivial (by simp))).mono ?_; rintro e w' ⟨rfl, rfl⟩; rw [hor]; have hb7 := below_al hb6 (.cells #[.int .i64 (lettersF xs), .int .i64 (fatesF fs), .int .i64 (spanF window 1 20), .int .i64 (spanF most 1 5000)] 30)))
        | (go_at_call 14; go_must (refine (HK1.out _ hb7).mono ?_; rintro e w7 (⟨_, rfl, hb7'⟩ | ⟨hn, _⟩); rotate_left 1; exact absurd hn hF; have hb8 := below_go hb7 hb7'))
        | (go_at_call 15; go_must (have hb9 := below_al hb8 (.cells #[.int .i64 0, .int .i64 0, .int .i64 0] 36); refine (HK2.out _ hb9).mono ?_; rintro e w8 (⟨_, rfl, hb8'⟩ | ⟨hn, _⟩); rotate_left 1; exact absurd hn hF; have hb10 := below_go hb9 hb8'; have hB7 := (Blk.new w7 #[.int .i64 0, .int .i64 0, .int .i64 0] 36).below hb8'))
        | (go_at_call 16; go_must (refine (HK3.out _ hb10).mono ?_; rintro e w9 (⟨_, rfl, hb9'⟩ | ⟨hn, _⟩); rotate_left 1; exact absurd hn hF; have hb11 := below_go hb10 hb9'; have hB8 := (hB7.below hb9').alloc (.cells #[.int .i64 0, .int .i64 0, .int .i64 0] 36); have hb12 := below_al hb11 (.cells #[.int .i64 0, .int .i64 0, .int .i64 0] 36); have hN := Blk.new w9 #[.int .i64 0, .int .i64 0, .int .i64 0] 36; have hcf := checkFates_calls A2 fs c2 _ (HF1.out.below hb12)))
        | (go_at_call 18; go_must (refine hcf.mono ?_; rintro e w' ⟨rfl, rfl⟩; clear hcf))
        | (go_at_call 19; go_must (refine (equalLt_calls none none [] 0 0 _ (Row.nil _) (Row.nil _)).mono ?_; rintro e w11 ⟨rfl, hb11'⟩; have hb15 := below_go hb12 hb11'; have x0 := (hB8.below hb11').c0; have x1 := (hB8.below hb11').c1; have x2 := (hB8.below hb11').c2; have y0 := (hN.below hb11').c0; have y1 := (hN.below hb11').c1; have y2 := (hN.below hb11').c2))
        | (go_at_call 20; go_must (refine (equalInt_calls none none [] 0 0 _ (Row.nil _) (Row.nil _)).mono ?_; rintro e w12 ⟨rfl, hb12'⟩; have hb16 := below_go hb15 hb12'; have htt := text_calls A2 fs c2 w12 (HF1.out.below hb16); rw [htx] at htt))
        | (go_at_call 21; go_must (refine htt.mono ?_; rintro e w13 ⟨rfl, hb13'⟩; have hb17 := below_go hb16 hb13'; have hs6 := HS.out.below hb17; have hB6 := HB.out.trans (hb17.mono HB.out.size))))
      go_wp2_with (first
        | (go_at_call 23; go_must (refine (fateString_calls w.heap.size 74 (by decide) w _ hs6 hB6).mono ?_; rintro e w14 ⟨r, rfl, hr, hs14, hk14⟩; have hB14 := hs6.keep hB6 hk14; have hrd := read_calls r w14 (by omega)))
        | (go_at_call 24; go_must (refine hrd.mono ?_; rintro e w15 ⟨v15, rfl, hO15, hb15'⟩; obtain ⟨A15, c15, rfl, hcc15, hr15⟩ := hO15.row; have hB15 := hB14.trans (hb15'.mono hB14.size); have hfi := fatesIn_calls r w15 (by omega)))
        | (go_at_call 25; go_must (refine hfi.mono ?_; rintro e w16 ⟨v16, rfl, hO16, hb16'⟩; obtain ⟨A16, c16, rfl, hcc16, hr16⟩ := hO16.row; have hB16 := hB15.trans (hb16'.mono hB15.size); have heq2 := equalInt_calls A15 A16 (readF r.data.toList).1 c15 c16 w16 (hr15.below hb16') hr16))
        | (go_at_call 20; go_must (refine heq2.mono ?_; rintro e w17 ⟨rfl, hb17'⟩; have hB17 := hB16.trans (hb17'.mono hB16.size)))
        | (go_at_call 26; go_must (refine (carried_calls _).mono ?_; rintro e w18 ⟨rfl, hb18'⟩; have hB18 := hB17.trans (hb18'.mono hB17.size))))
      go_ret
      exact ⟨rfl, hB18⟩
end Go.Proofs.YtlkklaahnkcnkaaDoor.X
