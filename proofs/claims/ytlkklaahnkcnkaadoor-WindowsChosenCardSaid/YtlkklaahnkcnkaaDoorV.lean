/- checked. -/
import Derived.Test.YtlkklaahnkcnkaaDoorU
namespace Go.Proofs.YtlkklaahnkcnkaaDoor.X
open Go.RowKit

def faultF (xs : List Lt) (fs : List Int) (window most : Int) : Int := thenF (thenF (lettersF xs) (fatesF fs)) (boundsF window most)
/-- What checked hands back. -/
def CheckedPost (base : Nat) (w : World) (fault : Int) (many rd : Nat) (s : C9) (e : Ending) (w' : World) : Prop :=
  (fault ≠ 0 ∧ e = .returned (.tuple #[.agg #[.int .i64 0, .int .i64 0, .int .i64 0, .slice none 0 0, .slice none 0 0, .slice none 0 0, .slice none 0 0, .bool false, .int .i64 0, .int .i64 0, .int .i64 0, .int .i64 0, .slice none 0 0, .int .i64 0, .bool false], .int .i64 fault]) ∧ Below base w w') ∨
  (fault = 0 ∧ ∃ (A0 A1 A2 A3 A4 : Option Addr) (n0 n1 n2 n3 n4 c0 c1 c2 c3 c4 : Nat) (heard : Bool), e = .returned (.tuple #[.agg #[.int .i64 many, .int .i64 s.acked, .int .i64 s.rc.accepted, .slice A0 n0 c0, .slice A1 n1 c1, .slice A2 n2 c2, .slice A3 n3 c3, .bool heard, .int .i64 s.rc.waste, .int .i64 rd, .int .i64 s.packets, .int .i64 s.acks, .slice A4 n4 c4, .int .i64 s.used, .bool (decide (many ≤ s.acked))], .int .i64 0]) ∧
    NRow w' base (.slice A4 n4 c4) s.rc.rounds ∧ Below base w w')
theorem spanF_zero {n a b : Int} (h : spanF n a b = 0) : a ≤ n ∧ n ≤ b := by
  unfold spanF at h
  split at h
  · assumption
  · cases h
theorem thenF_zero {a b : Int} (h : thenF a b = 0) : a = 0 ∧ b = 0 := by
  unfold thenF at h
  split at h
  · exact ⟨by assumption, h⟩
  · contradiction
theorem lettersF_len {xs : List Lt} (h : lettersF xs = 0) : xs.length ≤ 500 := by
  unfold lettersF at h
  split at h
  · cases h
  · omega
theorem NRow.mono {w : World} {base base' : Nat} {v : Value} {xs : List Nat} (h : NRow w base v xs) (hb : base' ≤ base) : NRow w base' v xs := by
  obtain ⟨h1, h2⟩ := h
  refine ⟨h1, ?_⟩
  rcases h2 with h2 | ⟨g, cap, cur, e, h3, h4⟩
  · exact .inl h2
  · exact .inr ⟨g, cap, cur, e, by omega, h4⟩
set_option maxRecDepth 100000 in
set_option maxHeartbeats 4000000 in
theorem checked_calls (A B : Option Addr) (xs : List Lt) (fs : List Int) (c c2 window most : Nat) (w : World) (hr : Row kLt w (fun _ => True) A xs) (hf : Row kInt w (fun _ => True) B fs) (hc : fs.length ≤ c2) :
    Calls Tryd.prog 46 #[.slice A xs.length c, .slice B fs.length c2, .int .i64 window, .int .i64 most] w (CheckedPost w.heap.size w (faultF xs fs window most) xs.length (carryF fs xs.length window most).1 (carryF fs xs.length window most).2) := by
  have HR := Lib.hid hr
  have HF := Lib.hid hf
  clear hr hf
  obtain ⟨rd, s, hs⟩ : ∃ rd s, carryF fs xs.length window most = (rd, s) := ⟨_, _, rfl⟩
  have HS := Lib.hid hs
  rw [hs]
  clear hs
  have hZ := Blk.new w #[.int .i64 0, .int .i64 0, .int .i64 0, .slice none 0 0, .slice none 0 0, .slice none 0 0, .slice none 0 0, .bool false, .int .i64 0, .int .i64 0, .int .i64 0, .int .i64 0, .slice none 0 0, .int .i64 0, .bool false] 90
  have HZ := Lib.hid hZ
  clear hZ
  by_cases h1 : thenF (lettersF xs) (fatesF fs) = 0
  · by_cases h2 : boundsF window most = 0
    · have hxs := lettersF_len (thenF_zero h1).1
      have hw := spanF_zero (thenF_zero h2).1
      have hm := spanF_zero (thenF_zero h2).2
      have hfault := Lib.hid (show faultF xs fs window most = 0 by unfold faultF; rw [h1]; exact h2)
      have H1 := Lib.hid h1
      have H2 := Lib.hid h2
      clear h1 h2
      go_enter Tryd.func46, Tryd.ntmps46
      go_wp2_with (first
        | (go_at_call 61; go_must (refine (lettersFault_calls A xs c B fs c2 _ (HR.out.step fun k _ hk => Below.heap_alloc w _ k hk) (HF.out.step fun k _ hk => Below.heap_alloc w _ k hk)).mono ?_; rintro e w1 ⟨rfl, hb1⟩; rw [H1.out]; have HB1 := Lib.hid hb1; clear hb1))
        | (go_at_call 80; go_must (refine (boundsFault_calls _ _ _).mono ?_; rintro e w' ⟨rfl, rfl⟩; rw [H2.out]))
        | (go_at_call 62; go_must (refine (carry_calls xs.length window most B fs c2 _ (by omega) (by omega) (by omega) hc ((HF.out.step fun k _ hk => Below.heap_alloc w _ k hk).below HB1.out)).mono ?_; rw [HS.out]; rintro e w2 ⟨A0, A1, A2, A3, A4, n0, n1, n2, n3, n4, c0, c1, c2', c3, c4, heard, rfl, hn2, hb2⟩; have HN2 := Lib.hid (And.intro hn2 hb2); have hR := (HZ.out.below HB1.out).below hb2; clear hn2 hb2; have zf := hR.free; have HRr := Lib.hid hR; have z0 : w2.cell? ⟨w.heap.size, 0, none⟩ = some (.int .i64 0) := (hR.cell 0).trans rfl; have z1 : w2.cell? ⟨w.heap.size, 1, none⟩ = some (.int .i64 0) := (hR.cell 1).trans rfl; have z2 : w2.cell? ⟨w.heap.size, 2, none⟩ = some (.int .i64 0) := (hR.cell 2).trans rfl; have z3 : w2.cell? ⟨w.heap.size, 3, none⟩ = some (.slice none 0 0) := (hR.cell 3).trans rfl; have z4 : w2.cell? ⟨w.heap.size, 4, none⟩ = some (.slice none 0 0) := (hR.cell 4).trans rfl; have z5 : w2.cell? ⟨w.heap.size, 5, none⟩ = some (.slice none 0 0) := (hR.cell 5).trans rfl; have z6 : w2.cell? ⟨w.heap.size, 6, none⟩ = some (.slice none 0 0) := (hR.cell 6).trans rfl; have z7 : w2.cell? ⟨w.heap.size, 7, none⟩ = some (.bool false) := (hR.cell 7).trans rfl; have z8 : w2.cell? ⟨w.heap.size, 8, none⟩ = some (.int .i64 0) := (hR.cell 8).trans rfl; have z9 : w2.cell? ⟨w.heap.size, 9, none⟩ = some (.int .i64 0) := (hR.cell 9).trans rfl; have z10 : w2.cell? ⟨w.heap.size, 10, none⟩ = some (.int .i64 0) := (hR.cell 10).trans rfl; have z11 : w2.cell? ⟨w.heap.size, 11, none⟩ = some (.int .i64 0) := (hR.cell 11).trans rfl; have z12 : w2.cell? ⟨w.heap.size, 12, none⟩ = some (.slice none 0 0) := (hR.cell 12).trans rfl; have z13 : w2.cell? ⟨w.heap.size, 13, none⟩ = some (.int .i64 0) := (hR.cell 13).trans rfl; have z14 : w2.cell? ⟨w.heap.size, 14, none⟩ = some (.bool false) := (hR.cell 14).trans rfl; clear hR)))
      have hRf := HRr.out.stored [.int .i64 xs.length, .int .i64 s.acked, .int .i64 s.rc.accepted, .slice A0 n0 c0, .slice A1 n1 c1, .slice A2 n2 c2', .slice A3 n3 c3, .bool heard, .int .i64 s.rc.waste, .int .i64 rd, .int .i64 s.packets, .int .i64 s.acks, .slice A4 n4 c4, .int .i64 s.used, .bool (decide (xs.length ≤ s.acked))] rfl
      have hch := Ch.setsW (S := fun k => k = w.heap.size) (b := w.heap.size) [.int .i64 xs.length, .int .i64 s.acked, .int .i64 s.rc.accepted, .slice A0 n0 c0, .slice A1 n1 c1, .slice A2 n2 c2', .slice A3 n3 c3, .bool heard, .int .i64 s.rc.waste, .int .i64 rd, .int .i64 s.packets, .int .i64 s.acks, .slice A4 n4 c4, .int .i64 s.used, .bool (decide (xs.length ≤ s.acked))] 0 (Ch.refl _ w2) (.inl rfl)
      simp only [setsW, Nat.zero_add, Nat.reduceAdd] at hRf hch
      generalize World.setCell _ ⟨w.heap.size, 14, none⟩ _ = Wf at hRf hch ⊢
      have y0 : Wf.cell? ⟨w.heap.size, 0, none⟩ = some (.int .i64 xs.length) := (hRf.cell 0).trans rfl
      have y1 : Wf.cell? ⟨w.heap.size, 1, none⟩ = some (.int .i64 s.acked) := (hRf.cell 1).trans rfl
      have y2 : Wf.cell? ⟨w.heap.size, 2, none⟩ = some (.int .i64 s.rc.accepted) := (hRf.cell 2).trans rfl
      have y3 : Wf.cell? ⟨w.heap.size, 3, none⟩ = some (.slice A0 n0 c0) := (hRf.cell 3).trans rfl
      have y4 : Wf.cell? ⟨w.heap.size, 4, none⟩ = some (.slice A1 n1 c1) := (hRf.cell 4).trans rfl
      have y5 : Wf.cell? ⟨w.heap.size, 5, none⟩ = some (.slice A2 n2 c2') := (hRf.cell 5).trans rfl
      have y6 : Wf.cell? ⟨w.heap.size, 6, none⟩ = some (.slice A3 n3 c3) := (hRf.cell 6).trans rfl
      have y7 : Wf.cell? ⟨w.heap.size, 7, none⟩ = some (.bool heard) := (hRf.cell 7).trans rfl
      have y8 : Wf.cell? ⟨w.heap.size, 8, none⟩ = some (.int .i64 s.rc.waste) := (hRf.cell 8).trans rfl
      have y9 : Wf.cell? ⟨w.heap.size, 9, none⟩ = some (.int .i64 rd) := (hRf.cell 9).trans rfl
      have y10 : Wf.cell? ⟨w.heap.size, 10, none⟩ = some (.int .i64 s.packets) := (hRf.cell 10).trans rfl
      have y11 : Wf.cell? ⟨w.heap.size, 11, none⟩ = some (.int .i64 s.acks) := (hRf.cell 11).trans rfl
      have y12 : Wf.cell? ⟨w.heap.size, 12, none⟩ = some (.slice A4 n4 c4) := (hRf.cell 12).trans rfl
      have y13 : Wf.cell? ⟨w.heap.size, 13, none⟩ = some (.int .i64 s.used) := (hRf.cell 13).trans rfl
      have y14 : Wf.cell? ⟨w.heap.size, 14, none⟩ = some (.bool (decide (xs.length ≤ s.acked))) := (hRf.cell 14).trans rfl
      refine bodyPost_ret (v := .tuple #[.agg #[.int .i64 xs.length, .int .i64 s.acked, .int .i64 s.rc.accepted, .slice A0 n0 c0, .slice A1 n1 c1, .slice A2 n2 c2', .slice A3 n3 c3, .bool heard, .int .i64 s.rc.waste, .int .i64 rd, .int .i64 s.packets, .int .i64 s.acks, .slice A4 n4 c4, .int .i64 s.used, .bool (decide (xs.length ≤ s.acked))], .int .i64 0]) ?_ rfl ?_
      · simp [results, Tryd.results46, go_sem, y0, y1, y2, y3, y4, y5, y6, y7, y8, y9, y10, y11, y12, y13, y14]
      · have hlt := HZ.out.lt
        have hsz := HB1.out.size
        have hlow := ((Below.refl w.heap.size w).alloc (Nat.le_refl _) _).trans ((HB1.out.mono (by simp)).trans ((HN2.out.2.mono (by omega)).trans (hch.low (B := w.heap.size) (by have := HN2.out.2.size; simp at hsz; omega) (fun k hk e => by omega))))
        refine .inr ⟨hfault.out, A0, A1, A2, A3, A4, n0, n1, n2, n3, n4, c0, c1, c2', c3, c4, heard, rfl, ?_, hlow⟩
        exact (HN2.out.1.ch hch fun k hk e => by
          have := HN2.out.1.base k hk
          simp at hsz; omega).mono (by simp at hsz; omega)
    · have hfault := Lib.hid (show faultF xs fs window most = boundsF window most by unfold faultF; rw [h1]; rfl)
      have H1 := Lib.hid h1
      have H2 := Lib.hid h2
      have e2 : (boundsF window most == 0) = false := by simp [h2]
      clear h1 h2
      go_enter Tryd.func46, Tryd.ntmps46
      go_wp2_with (first
        | (go_at_call 61; go_must (refine (lettersFault_calls A xs c B fs c2 _ (HR.out.step fun k _ hk => Below.heap_alloc w _ k hk) (HF.out.step fun k _ hk => Below.heap_alloc w _ k hk)).mono ?_; rintro e w1 ⟨rfl, hb1⟩; rw [H1.out]; have HB1 := Lib.hid hb1; have hR := (HZ.out.below HB1.out); clear hb1; have zf := hR.free; have HRr := Lib.hid hR; have z0 : w1.cell? ⟨w.heap.size, 0, none⟩ = some (.int .i64 0) := (hR.cell 0).trans rfl; have z1 : w1.cell? ⟨w.heap.size, 1, none⟩ = some (.int .i64 0) := (hR.cell 1).trans rfl; have z2 : w1.cell? ⟨w.heap.size, 2, none⟩ = some (.int .i64 0) := (hR.cell 2).trans rfl; have z3 : w1.cell? ⟨w.heap.size, 3, none⟩ = some (.slice none 0 0) := (hR.cell 3).trans rfl; have z4 : w1.cell? ⟨w.heap.size, 4, none⟩ = some (.slice none 0 0) := (hR.cell 4).trans rfl; have z5 : w1.cell? ⟨w.heap.size, 5, none⟩ = some (.slice none 0 0) := (hR.cell 5).trans rfl; have z6 : w1.cell? ⟨w.heap.size, 6, none⟩ = some (.slice none 0 0) := (hR.cell 6).trans rfl; have z7 : w1.cell? ⟨w.heap.size, 7, none⟩ = some (.bool false) := (hR.cell 7).trans rfl; have z8 : w1.cell? ⟨w.heap.size, 8, none⟩ = some (.int .i64 0) := (hR.cell 8).trans rfl; have z9 : w1.cell? ⟨w.heap.size, 9, none⟩ = some (.int .i64 0) := (hR.cell 9).trans rfl; have z10 : w1.cell? ⟨w.heap.size, 10, none⟩ = some (.int .i64 0) := (hR.cell 10).trans rfl; have z11 : w1.cell? ⟨w.heap.size, 11, none⟩ = some (.int .i64 0) := (hR.cell 11).trans rfl; have z12 : w1.cell? ⟨w.heap.size, 12, none⟩ = some (.slice none 0 0) := (hR.cell 12).trans rfl; have z13 : w1.cell? ⟨w.heap.size, 13, none⟩ = some (.int .i64 0) := (hR.cell 13).trans rfl; have z14 : w1.cell? ⟨w.heap.size, 14, none⟩ = some (.bool false) := (hR.cell 14).trans rfl; clear hR))
        | (go_at_call 80; go_must (refine (boundsFault_calls _ _ _).mono ?_; rintro e w' ⟨rfl, rfl⟩)))
      have hRf := HRr.out.stored [.int .i64 0, .int .i64 0, .int .i64 0, .slice none 0 0, .slice none 0 0, .slice none 0 0, .slice none 0 0, .bool false, .int .i64 0, .int .i64 0, .int .i64 0, .int .i64 0, .slice none 0 0, .int .i64 0, .bool false] rfl
      have hch := Ch.setsW (S := fun k => k = w.heap.size) (b := w.heap.size) [.int .i64 0, .int .i64 0, .int .i64 0, .slice none 0 0, .slice none 0 0, .slice none 0 0, .slice none 0 0, .bool false, .int .i64 0, .int .i64 0, .int .i64 0, .int .i64 0, .slice none 0 0, .int .i64 0, .bool false] 0 (Ch.refl _ w1) (.inl rfl)
      simp only [setsW, Nat.zero_add, Nat.reduceAdd] at hRf hch
      generalize World.setCell _ ⟨w.heap.size, 14, none⟩ _ = Wf at hRf hch ⊢
      have y0 : Wf.cell? ⟨w.heap.size, 0, none⟩ = some (.int .i64 0) := (hRf.cell 0).trans rfl
      have y1 : Wf.cell? ⟨w.heap.size, 1, none⟩ = some (.int .i64 0) := (hRf.cell 1).trans rfl
      have y2 : Wf.cell? ⟨w.heap.size, 2, none⟩ = some (.int .i64 0) := (hRf.cell 2).trans rfl
      have y3 : Wf.cell? ⟨w.heap.size, 3, none⟩ = some (.slice none 0 0) := (hRf.cell 3).trans rfl
      have y4 : Wf.cell? ⟨w.heap.size, 4, none⟩ = some (.slice none 0 0) := (hRf.cell 4).trans rfl
      have y5 : Wf.cell? ⟨w.heap.size, 5, none⟩ = some (.slice none 0 0) := (hRf.cell 5).trans rfl
      have y6 : Wf.cell? ⟨w.heap.size, 6, none⟩ = some (.slice none 0 0) := (hRf.cell 6).trans rfl
      have y7 : Wf.cell? ⟨w.heap.size, 7, none⟩ = some (.bool false) := (hRf.cell 7).trans rfl
      have y8 : Wf.cell? ⟨w.heap.size, 8, none⟩ = some (.int .i64 0) := (hRf.cell 8).trans rfl
      have y9 : Wf.cell? ⟨w.heap.size, 9, none⟩ = some (.int .i64 0) := (hRf.cell 9).trans rfl
      have y10 : Wf.cell? ⟨w.heap.size, 10, none⟩ = some (.int .i64 0) := (hRf.cell 10).trans rfl
      have y11 : Wf.cell? ⟨w.heap.size, 11, none⟩ = some (.int .i64 0) := (hRf.cell 11).trans rfl
      have y12 : Wf.cell? ⟨w.heap.size, 12, none⟩ = some (.slice none 0 0) := (hRf.cell 12).trans rfl
      have y13 : Wf.cell? ⟨w.heap.size, 13, none⟩ = some (.int .i64 0) := (hRf.cell 13).trans rfl
      have y14 : Wf.cell? ⟨w.heap.size, 14, none⟩ = some (.bool false) := (hRf.cell 14).trans rfl
      refine bodyPost_ret (v := .tuple #[.agg #[.int .i64 0, .int .i64 0, .int .i64 0, .slice none 0 0, .slice none 0 0, .slice none 0 0, .slice none 0 0, .bool false, .int .i64 0, .int .i64 0, .int .i64 0, .int .i64 0, .slice none 0 0, .int .i64 0, .bool false], .int .i64 (boundsF window most)]) ?_ rfl ?_
      · simp [results, Tryd.results46, go_sem, y0, y1, y2, y3, y4, y5, y6, y7, y8, y9, y10, y11, y12, y13, y14]
      · have hsz := HB1.out.size
        have hlow := ((Below.refl w.heap.size w).alloc (Nat.le_refl _) _).trans ((HB1.out.mono (by simp)).trans (hch.low (B := w.heap.size) (by simp at hsz; omega) (fun k hk e => by omega)))
        rw [hfault.out]
        exact .inl ⟨H2.out, rfl, hlow⟩
  · have hfault := Lib.hid (show faultF xs fs window most = thenF (lettersF xs) (fatesF fs) by unfold faultF; exact if_neg h1)
    obtain ⟨f1, hf1⟩ : ∃ f1, f1 = thenF (lettersF xs) (fatesF fs) := ⟨_, rfl⟩
    rw [← hf1] at h1 hfault
    have H1 := Lib.hid h1
    have Hf1 := Lib.hid hf1
    have e1 : (f1 == 0) = false := by simp [h1]
    clear h1 hf1
    go_enter Tryd.func46, Tryd.ntmps46
    go_wp2_with (go_at_call 61; go_must (refine (lettersFault_calls A xs c B fs c2 _ (HR.out.step fun k _ hk => Below.heap_alloc w _ k hk) (HF.out.step fun k _ hk => Below.heap_alloc w _ k hk)).mono ?_; rintro e w1 ⟨rfl, hb1⟩; rw [← Hf1.out]; have HB1 := Lib.hid hb1; have hR := (HZ.out.below HB1.out); clear hb1; have zf := hR.free; have HRr := Lib.hid hR; have z0 : w1.cell? ⟨w.heap.size, 0, none⟩ = some (.int .i64 0) := (hR.cell 0).trans rfl; have z1 : w1.cell? ⟨w.heap.size, 1, none⟩ = some (.int .i64 0) := (hR.cell 1).trans rfl; have z2 : w1.cell? ⟨w.heap.size, 2, none⟩ = some (.int .i64 0) := (hR.cell 2).trans rfl; have z3 : w1.cell? ⟨w.heap.size, 3, none⟩ = some (.slice none 0 0) := (hR.cell 3).trans rfl; have z4 : w1.cell? ⟨w.heap.size, 4, none⟩ = some (.slice none 0 0) := (hR.cell 4).trans rfl; have z5 : w1.cell? ⟨w.heap.size, 5, none⟩ = some (.slice none 0 0) := (hR.cell 5).trans rfl; have z6 : w1.cell? ⟨w.heap.size, 6, none⟩ = some (.slice none 0 0) := (hR.cell 6).trans rfl; have z7 : w1.cell? ⟨w.heap.size, 7, none⟩ = some (.bool false) := (hR.cell 7).trans rfl; have z8 : w1.cell? ⟨w.heap.size, 8, none⟩ = some (.int .i64 0) := (hR.cell 8).trans rfl; have z9 : w1.cell? ⟨w.heap.size, 9, none⟩ = some (.int .i64 0) := (hR.cell 9).trans rfl; have z10 : w1.cell? ⟨w.heap.size, 10, none⟩ = some (.int .i64 0) := (hR.cell 10).trans rfl; have z11 : w1.cell? ⟨w.heap.size, 11, none⟩ = some (.int .i64 0) := (hR.cell 11).trans rfl; have z12 : w1.cell? ⟨w.heap.size, 12, none⟩ = some (.slice none 0 0) := (hR.cell 12).trans rfl; have z13 : w1.cell? ⟨w.heap.size, 13, none⟩ = some (.int .i64 0) := (hR.cell 13).trans rfl; have z14 : w1.cell? ⟨w.heap.size, 14, none⟩ = some (.bool false) := (hR.cell 14).trans rfl; clear hR))
    have hRf := HRr.out.stored [.int .i64 0, .int .i64 0, .int .i64 0, .slice none 0 0, .slice none 0 0, .slice none 0 0, .slice none 0 0, .bool false, .int .i64 0, .int .i64 0, .int .i64 0, .int .i64 0, .slice none 0 0, .int .i64 0, .bool false] rfl
    have hch := Ch.setsW (S := fun k => k = w.heap.size) (b := w.heap.size) [.int .i64 0, .int .i64 0, .int .i64 0, .slice none 0 0, .slice none 0 0, .slice none 0 0, .slice none 0 0, .bool false, .int .i64 0, .int .i64 0, .int .i64 0, .int .i64 0, .slice none 0 0, .int .i64 0, .bool false] 0 (Ch.refl _ w1) (.inl rfl)
    simp only [setsW, Nat.zero_add, Nat.reduceAdd] at hRf hch
    generalize World.setCell _ ⟨w.heap.size, 14, none⟩ _ = Wf at hRf hch ⊢
    have y0 : Wf.cell? ⟨w.heap.size, 0, none⟩ = some (.int .i64 0) := (hRf.cell 0).trans rfl
    have y1 : Wf.cell? ⟨w.heap.size, 1, none⟩ = some (.int .i64 0) := (hRf.cell 1).trans rfl
    have y2 : Wf.cell? ⟨w.heap.size, 2, none⟩ = some (.int .i64 0) := (hRf.cell 2).trans rfl
    have y3 : Wf.cell? ⟨w.heap.size, 3, none⟩ = some (.slice none 0 0) := (hRf.cell 3).trans rfl
    have y4 : Wf.cell? ⟨w.heap.size, 4, none⟩ = some (.slice none 0 0) := (hRf.cell 4).trans rfl
    have y5 : Wf.cell? ⟨w.heap.size, 5, none⟩ = some (.slice none 0 0) := (hRf.cell 5).trans rfl
    have y6 : Wf.cell? ⟨w.heap.size, 6, none⟩ = some (.slice none 0 0) := (hRf.cell 6).trans rfl
    have y7 : Wf.cell? ⟨w.heap.size, 7, none⟩ = some (.bool false) := (hRf.cell 7).trans rfl
    have y8 : Wf.cell? ⟨w.heap.size, 8, none⟩ = some (.int .i64 0) := (hRf.cell 8).trans rfl
    have y9 : Wf.cell? ⟨w.heap.size, 9, none⟩ = some (.int .i64 0) := (hRf.cell 9).trans rfl
    have y10 : Wf.cell? ⟨w.heap.size, 10, none⟩ = some (.int .i64 0) := (hRf.cell 10).trans rfl
    have y11 : Wf.cell? ⟨w.heap.size, 11, none⟩ = some (.int .i64 0) := (hRf.cell 11).trans rfl
    have y12 : Wf.cell? ⟨w.heap.size, 12, none⟩ = some (.slice none 0 0) := (hRf.cell 12).trans rfl
    have y13 : Wf.cell? ⟨w.heap.size, 13, none⟩ = some (.int .i64 0) := (hRf.cell 13).trans rfl
    have y14 : Wf.cell? ⟨w.heap.size, 14, none⟩ = some (.bool false) := (hRf.cell 14).trans rfl
    refine bodyPost_ret (v := .tuple #[.agg #[.int .i64 0, .int .i64 0, .int .i64 0, .slice none 0 0, .slice none 0 0, .slice none 0 0, .slice none 0 0, .bool false, .int .i64 0, .int .i64 0, .int .i64 0, .int .i64 0, .slice none 0 0, .int .i64 0, .bool false], .int .i64 f1]) ?_ rfl ?_
    · simp [results, Tryd.results46, go_sem, y0, y1, y2, y3, y4, y5, y6, y7, y8, y9, y10, y11, y12, y13, y14]
    · have hsz := HB1.out.size
      have hlow := ((Below.refl w.heap.size w).alloc (Nat.le_refl _) _).trans ((HB1.out.mono (by simp)).trans (hch.low (B := w.heap.size) (by simp at hsz; omega) (fun k hk e => by omega)))
      rw [hfault.out]
      exact .inl ⟨H1.out, rfl, hlow⟩
end Go.Proofs.YtlkklaahnkcnkaaDoor.X
