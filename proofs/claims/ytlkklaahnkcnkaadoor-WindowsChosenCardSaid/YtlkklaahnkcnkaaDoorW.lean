/- Carry, Rounds, Waste. -/
import Derived.Test.YtlkklaahnkcnkaaDoorV
import Derived.Test.YtlkklaahnkcnkaaDoorS
namespace Go.Proofs.YtlkklaahnkcnkaaDoor.X
open Go.RowKit

theorem C9.run_ok (fs : List Int) (many window : Nat) : ∀ (k rd : Nat) (s : C9), s.Ok many window rd → (C9.run fs many window k rd s).2.Ok many window (C9.run fs many window k rd s).1 ∧ (C9.run fs many window k rd s).1 ≤ rd + k
  | 0, rd, s, h => ⟨h, Nat.le_refl _⟩
  | k + 1, rd, s, h => by
    by_cases hk : s.acked < many
    · rw [C9.run_step hk]
      have := C9.run_ok fs many window k (rd + 1) _ (h.round fs)
      exact ⟨this.1, by omega⟩
    · rw [C9.run_end (.inl hk)]
      exact ⟨h, by omega⟩
theorem carryF_ok (fs : List Int) (many window most : Nat) : (carryF fs many window most).2.Ok many window (carryF fs many window most).1 ∧ (carryF fs many window most).1 ≤ most := by
  have := C9.run_ok fs many window most 0 C9.start (C9.start_ok _ _)
  simpa [carryF] using this
theorem Own.lower {α : Type} {d : Kn α} {e : Nat} {w : World} {base base' : Nat} {ok : Nat → Prop} {v : Value} {xs : List α} (h : Own d e w base ok v xs) (hb : base' ≤ base) : Own d e w base' ok v xs := by
  obtain ⟨h1, h2, inner, ⟨h3, h4⟩, h5⟩ := h
  refine ⟨h1, h2, inner, ⟨h3, ?_⟩, h5⟩
  rcases h4 with h4 | ⟨g, cap, cur, e1, h6, h7⟩
  · exact .inl h4
  · exact .inr ⟨g, cap, cur, e1, by omega, h7⟩
/-- What Carry hands back. -/
def CarryR (w : World) (xs : List Lt) (fault : Int) (rd : Nat) (s : C9) (e : Ending) (w' : World) : Prop :=
  (fault ≠ 0 ∧ e = .returned (.tuple #[.slice none 0 0, .agg #[.int .i64 0, .int .i64 0, .int .i64 0], .bool false, .int .i64 fault]) ∧ Below w.heap.size w w') ∨
  (fault = 0 ∧ ∃ v1, e = .returned (.tuple #[v1, .agg #[.int .i64 rd, .int .i64 s.packets, .int .i64 s.acks], .bool (decide (xs.length ≤ s.acked)), .int .i64 0]) ∧ Own kLt 47 w' w.heap.size (fun _ => True) v1 (xs.take s.rc.accepted) ∧ Below w.heap.size w w')
set_option maxRecDepth 100000 in
set_option maxHeartbeats 4000000 in
theorem carryR_calls (A B : Option Addr) (xs : List Lt) (fs : List Int) (c c2 window most : Nat) (w : World) (hr : Row kLt w (fun _ => True) A xs) (hA : A = none → c = 0) (hcx : xs.length ≤ c) (hf : Row kInt w (fun _ => True) B fs) (hc : fs.length ≤ c2) :
    Calls Tryd.prog 14 #[.slice A xs.length c, .slice B fs.length c2, .int .i64 window, .int .i64 most] w (CarryR w xs (faultF xs fs window most) (carryF fs xs.length window most).1 (carryF fs xs.length window most).2) := by
  have HR := Lib.hid hr
  have HF := Lib.hid hf
  clear hr hf
  have hok := carryF_ok fs xs.length window most
  obtain ⟨rd, s, hs⟩ : ∃ rd s, carryF fs xs.length window most = (rd, s) := ⟨_, _, rfl⟩
  have HS := Lib.hid hs
  rw [hs] at hok ⊢
  show Calls _ _ _ _ (CarryR w xs _ rd s)
  clear hs
  have hacc : s.rc.accepted ≤ xs.length := hok.1.acc
  clear hok
  obtain ⟨fl, hfl⟩ : ∃ fl, fl = faultF xs fs window most := ⟨_, rfl⟩
  rw [← hfl]
  have Hfl := Lib.hid hfl
  clear hfl
  have hT := Blk.new w #[.int .i64 0, .int .i64 0, .int .i64 0] 36
  have HT := Lib.hid hT
  clear hT
  by_cases h0 : fl = 0
  · subst h0
    go_enter Tryd.func14, Tryd.ntmps14
    go_wp2_with (go_at_call 46; go_must (refine (checked_calls A B xs fs c c2 window most _ (HR.out.step fun k _ hk => Below.heap_alloc w _ k hk) (HF.out.step fun k _ hk => Below.heap_alloc w _ k hk) hc).mono ?_; rw [HS.out, ← Hfl.out]; rintro e w1 (⟨hne, -, -⟩ | ⟨-, A0, A1, A2, A3, A4, n0, n1, n2, n3, n4, c0, c1, c2', c3, c4, heard, rfl, hn1, hb1⟩); exact absurd rfl hne; have HN := Lib.hid (And.intro hn1 hb1); clear hn1 hb1))
    have hC := Blk.new w1 #[.int .i64 xs.length, .int .i64 s.acked, .int .i64 s.rc.accepted, .slice A0 n0 c0, .slice A1 n1 c1, .slice A2 n2 c2', .slice A3 n3 c3, .bool heard, .int .i64 s.rc.waste, .int .i64 rd, .int .i64 s.packets, .int .i64 s.acks, .slice A4 n4 c4, .int .i64 s.used, .bool (decide (xs.length ≤ s.acked))] 90
    have p2 : (w1.alloc (.cells #[.int .i64 xs.length, .int .i64 s.acked, .int .i64 s.rc.accepted, .slice A0 n0 c0, .slice A1 n1 c1, .slice A2 n2 c2', .slice A3 n3 c3, .bool heard, .int .i64 s.rc.waste, .int .i64 rd, .int .i64 s.packets, .int .i64 s.acks, .slice A4 n4 c4, .int .i64 s.used, .bool (decide (xs.length ≤ s.acked))] 90)).cell? ⟨w1.heap.size, 2, none⟩ = some (.int .i64 s.rc.accepted) := (hC.cell 2).trans rfl
    have p9 : (w1.alloc (.cells #[.int .i64 xs.length, .int .i64 s.acked, .int .i64 s.rc.accepted, .slice A0 n0 c0, .slice A1 n1 c1, .slice A2 n2 c2', .slice A3 n3 c3, .bool heard, .int .i64 s.rc.waste, .int .i64 rd, .int .i64 s.packets, .int .i64 s.acks, .slice A4 n4 c4, .int .i64 s.used, .bool (decide (xs.length ≤ s.acked))] 90)).cell? ⟨w1.heap.size, 9, none⟩ = some (.int .i64 rd) := (hC.cell 9).trans rfl
    have p10 : (w1.alloc (.cells #[.int .i64 xs.length, .int .i64 s.acked, .int .i64 s.rc.accepted, .slice A0 n0 c0, .slice A1 n1 c1, .slice A2 n2 c2', .slice A3 n3 c3, .bool heard, .int .i64 s.rc.waste, .int .i64 rd, .int .i64 s.packets, .int .i64 s.acks, .slice A4 n4 c4, .int .i64 s.used, .bool (decide (xs.length ≤ s.acked))] 90)).cell? ⟨w1.heap.size, 10, none⟩ = some (.int .i64 s.packets) := (hC.cell 10).trans rfl
    have p11 : (w1.alloc (.cells #[.int .i64 xs.length, .int .i64 s.acked, .int .i64 s.rc.accepted, .slice A0 n0 c0, .slice A1 n1 c1, .slice A2 n2 c2', .slice A3 n3 c3, .bool heard, .int .i64 s.rc.waste, .int .i64 rd, .int .i64 s.packets, .int .i64 s.acks, .slice A4 n4 c4, .int .i64 s.used, .bool (decide (xs.length ≤ s.acked))] 90)).cell? ⟨w1.heap.size, 11, none⟩ = some (.int .i64 s.acks) := (hC.cell 11).trans rfl
    have p14 : (w1.alloc (.cells #[.int .i64 xs.length, .int .i64 s.acked, .int .i64 s.rc.accepted, .slice A0 n0 c0, .slice A1 n1 c1, .slice A2 n2 c2', .slice A3 n3 c3, .bool heard, .int .i64 s.rc.waste, .int .i64 rd, .int .i64 s.packets, .int .i64 s.acks, .slice A4 n4 c4, .int .i64 s.used, .bool (decide (xs.length ≤ s.acked))] 90)).cell? ⟨w1.heap.size, 14, none⟩ = some (.bool (decide (xs.length ≤ s.acked))) := (hC.cell 14).trans rfl
    have hlt := HT.out.lt
    have hsz := HN.out.2.size
    have hT1 := HT.out.below HN.out.2
    have hT2 := hT1.alloc (.cells #[.int .i64 xs.length, .int .i64 s.acked, .int .i64 s.rc.accepted, .slice A0 n0 c0, .slice A1 n1 c1, .slice A2 n2 c2', .slice A3 n3 c3, .bool heard, .int .i64 s.rc.waste, .int .i64 rd, .int .i64 s.packets, .int .i64 s.acks, .slice A4 n4 c4, .int .i64 s.used, .bool (decide (xs.length ≤ s.acked))] 90)
    have HT2 := Lib.hid hT2
    have HC := Lib.hid hC
    clear hT1 hT2 hC
    generalize hW : w1.alloc (.cells #[.int .i64 xs.length, .int .i64 s.acked, .int .i64 s.rc.accepted, .slice A0 n0 c0, .slice A1 n1 c1, .slice A2 n2 c2', .slice A3 n3 c3, .bool heard, .int .i64 s.rc.waste, .int .i64 rd, .int .i64 s.packets, .int .i64 s.acks, .slice A4 n4 c4, .int .i64 s.used, .bool (decide (xs.length ≤ s.acked))] 90) = W at *
    have HW := Lib.hid hW
    clear hW
    have hRow := ((HR.out.bound.step fun k _ hk => Below.heap_alloc w _ k hk).below HN.out.2).alloc (.cells #[.int .i64 xs.length, .int .i64 s.acked, .int .i64 s.rc.accepted, .slice A0 n0 c0, .slice A1 n1 c1, .slice A2 n2 c2', .slice A3 n3 c3, .bool heard, .int .i64 s.rc.waste, .int .i64 rd, .int .i64 s.packets, .int .i64 s.acks, .slice A4 n4 c4, .int .i64 s.used, .bool (decide (xs.length ≤ s.acked))] 90)
    rw [HW.out] at hRow
    have HRow := Lib.hid (hRow.take s.rc.accepted)
    clear hRow
    have hx5 := lettersF_len (thenF_zero (thenF_zero Hfl.out.symm).1).1
    have hWs : w.heap.size ≤ W.heap.size := by have h1 := HC.out.lt; simp at hsz; omega
    have hL0 : (xs.take s.rc.accepted).length = s.rc.accepted := by rw [List.length_take]; omega
    have HL0 := Lib.hid hL0
    clear hL0
    have hne : w1.heap.size ≠ w.heap.size := by have h1 := HT.out.lt; simp at hsz; omega
    go_region_held_law (fun w' => w'.cell? ⟨w1.heap.size, 2, none⟩ = some (.int .i64 s.rc.accepted) ∧ w'.cell? ⟨w1.heap.size, 9, none⟩ = some (.int .i64 rd) ∧ w'.cell? ⟨w1.heap.size, 10, none⟩ = some (.int .i64 s.packets) ∧ w'.cell? ⟨w1.heap.size, 11, none⟩ = some (.int .i64 s.acks) ∧ w'.cell? ⟨w1.heap.size, 14, none⟩ = some (.bool (decide (xs.length ≤ s.acked)))) (first | exact ⟨p2, p9, p10, p11, p14⟩ | exact ⟨r2, r9, r10, r11, r14⟩ | exact ⟨((((HX.out.2.1.far (p := ⟨w.heap.size, 0, none⟩) hne _).far (p := ⟨w.heap.size, 1, none⟩) hne _).far (p := ⟨w.heap.size, 2, none⟩) hne _).cell 2).trans rfl, ((((HX.out.2.1.far (p := ⟨w.heap.size, 0, none⟩) hne _).far (p := ⟨w.heap.size, 1, none⟩) hne _).far (p := ⟨w.heap.size, 2, none⟩) hne _).cell 9).trans rfl, ((((HX.out.2.1.far (p := ⟨w.heap.size, 0, none⟩) hne _).far (p := ⟨w.heap.size, 1, none⟩) hne _).far (p := ⟨w.heap.size, 2, none⟩) hne _).cell 10).trans rfl, ((((HX.out.2.1.far (p := ⟨w.heap.size, 0, none⟩) hne _).far (p := ⟨w.heap.size, 1, none⟩) hne _).far (p := ⟨w.heap.size, 2, none⟩) hne _).cell 11).trans rfl, ((((HX.out.2.1.far (p := ⟨w.heap.size, 0, none⟩) hne _).far (p := ⟨w.heap.size, 1, none⟩) hne _).far (p := ⟨w.heap.size, 2, none⟩) hne _).cell 14).trans rfl⟩) ((refine step_row_copy (d := kLt) (base := W.heap.size) (xs := xs.take s.rc.accepted) (ok := fun k => True ∧ k < w.heap.size) (by exact HRow.out) hA HL0.out.symm ⟨by simp, .inl ⟨rfl, rfl⟩⟩ (fun k hk e => by simp [Value.ownBlock] at e) (Nat.le_refl _) Tryd.underlying26 infoLt rfl (by rw [HL0.out]; omega) rfl rfl rfl rfl ?_; intro v1 w2 hO hg; have HO := Lib.hid (And.intro hO hg); have hch : Ch (fun _ => False) W w2 := ⟨hg.os, hg.tape, hg.output, hg.size, fun k hk _ => hg.block k hk (fun e => (by simp [Value.ownBlock] at e))⟩; have hT3 := HT2.out.ch hch (fun e => e); have hC3 := HC.out.ch hch (fun e => e); obtain ⟨t0, tf0⟩ := hT3.c0; obtain ⟨t1, tf1⟩ := hT3.c1; obtain ⟨t2, tf2⟩ := hT3.c2; have r2 : w2.cell? ⟨w1.heap.size, 2, none⟩ = some (.int .i64 s.rc.accepted) := (hC3.cell 2).trans rfl; have r9 : w2.cell? ⟨w1.heap.size, 9, none⟩ = some (.int .i64 rd) := (hC3.cell 9).trans rfl; have r10 : w2.cell? ⟨w1.heap.size, 10, none⟩ = some (.int .i64 s.packets) := (hC3.cell 10).trans rfl; have r11 : w2.cell? ⟨w1.heap.size, 11, none⟩ = some (.int .i64 s.acks) := (hC3.cell 11).trans rfl; have r14 : w2.cell? ⟨w1.heap.size, 14, none⟩ = some (.bool (decide (xs.length ≤ s.acked))) := (hC3.cell 14).trans rfl; have HX := Lib.hid (And.intro hT3 (And.intro hC3 hch)); clear hO hg hT3 hC3 hch))
    go_wp2_with fail
    have y0 : World.cell? (((w2.setCell ⟨w.heap.size, 0, none⟩ (.int .i64 rd)).setCell ⟨w.heap.size, 1, none⟩ (.int .i64 s.packets)).setCell ⟨w.heap.size, 2, none⟩ (.int .i64 s.acks)) ⟨w.heap.size, 0, none⟩ = some (.int .i64 rd) := ((HX.out.1.stored [.int .i64 rd, .int .i64 s.packets, .int .i64 s.acks] rfl).cell 0).trans rfl
    have y1 : World.cell? (((w2.setCell ⟨w.heap.size, 0, none⟩ (.int .i64 rd)).setCell ⟨w.heap.size, 1, none⟩ (.int .i64 s.packets)).setCell ⟨w.heap.size, 2, none⟩ (.int .i64 s.acks)) ⟨w.heap.size, 1, none⟩ = some (.int .i64 s.packets) := ((HX.out.1.stored [.int .i64 rd, .int .i64 s.packets, .int .i64 s.acks] rfl).cell 1).trans rfl
    have y2 : World.cell? (((w2.setCell ⟨w.heap.size, 0, none⟩ (.int .i64 rd)).setCell ⟨w.heap.size, 1, none⟩ (.int .i64 s.packets)).setCell ⟨w.heap.size, 2, none⟩ (.int .i64 s.acks)) ⟨w.heap.size, 2, none⟩ = some (.int .i64 s.acks) := ((HX.out.1.stored [.int .i64 rd, .int .i64 s.packets, .int .i64 s.acks] rfl).cell 2).trans rfl
    have hch3 := Ch.setsW (S := fun k => k = w.heap.size) (b := w.heap.size) [.int .i64 rd, .int .i64 s.packets, .int .i64 s.acks] 0 (Ch.refl _ w2) (.inl rfl)
    simp only [setsW, Nat.zero_add, Nat.reduceAdd] at hch3
    generalize World.setCell _ ⟨w.heap.size, 2, none⟩ _ = Wf at hch3 y0 y1 y2 ⊢
    refine bodyPost_ret (v := .tuple #[v1, .agg #[.int .i64 rd, .int .i64 s.packets, .int .i64 s.acks], .bool (decide (xs.length ≤ s.acked)), .int .i64 0]) ?_ rfl ?_
    · simp [results, Tryd.results14, go_sem, y0, y1, y2]
    · have hO := HO.out.1
      have h1 := (hO.step (w1 := Wf) fun k hk hlt => hch3.block k hlt (by have := HC.out.lt; omega)).mono (ok' := fun _ => True) (fun _ _ => trivial)
      have hW0 : Below w.heap.size w W := by
        rw [← HW.out]
        exact (((Below.refl w.heap.size w).alloc (Nat.le_refl _) _).trans (HN.out.2.mono (by simp))).alloc (by omega) _
      exact .inr ⟨rfl, v1, rfl, h1.lower hWs, hW0.trans ((HX.out.2.2.low hWs fun k hk e => e).trans (hch3.low (by have := HX.out.2.2.size; omega) fun k hk e => by omega))⟩
  · have e1 : (fl == 0) = false := by simp [h0]
    have H0 := Lib.hid h0
    clear h0
    go_enter Tryd.func14, Tryd.ntmps14
    go_wp2_with (go_at_call 46; go_must (refine (checked_calls A B xs fs c c2 window most _ (HR.out.step fun k _ hk => Below.heap_alloc w _ k hk) (HF.out.step fun k _ hk => Below.heap_alloc w _ k hk) hc).mono ?_; rw [HS.out, ← Hfl.out]; rintro e w1 (⟨-, rfl, hb1⟩ | ⟨h0, -⟩); rotate_left 1; exact absurd h0 H0.out; have HB := Lib.hid hb1; have hT3 := (HT.out.below HB.out).alloc (.cells #[.int .i64 0, .int .i64 0, .int .i64 0, .slice none 0 0, .slice none 0 0, .slice none 0 0, .slice none 0 0, .bool false, .int .i64 0, .int .i64 0, .int .i64 0, .int .i64 0, .slice none 0 0, .int .i64 0, .bool false] 90); obtain ⟨t0, tf0⟩ := hT3.c0; obtain ⟨t1, tf1⟩ := hT3.c1; obtain ⟨t2, tf2⟩ := hT3.c2; have HT3 := Lib.hid hT3; clear hb1 hT3))
    have hst := HT3.out.stored [.int .i64 0, .int .i64 0, .int .i64 0] rfl
    have hch3 := Ch.setsW (S := fun k => k = w.heap.size) (b := w.heap.size) [.int .i64 0, .int .i64 0, .int .i64 0] 0 (Ch.refl _ (w1.alloc (.cells #[.int .i64 0, .int .i64 0, .int .i64 0, .slice none 0 0, .slice none 0 0, .slice none 0 0, .slice none 0 0, .bool false, .int .i64 0, .int .i64 0, .int .i64 0, .int .i64 0, .slice none 0 0, .int .i64 0, .bool false] 90))) (.inl rfl)
    simp only [setsW, Nat.zero_add, Nat.reduceAdd] at hch3 hst
    generalize World.setCell _ ⟨w.heap.size, 2, none⟩ _ = Wf at hch3 hst ⊢
    have y0 : Wf.cell? ⟨w.heap.size, 0, none⟩ = some (.int .i64 0) := (hst.cell 0).trans rfl
    have y1 : Wf.cell? ⟨w.heap.size, 1, none⟩ = some (.int .i64 0) := (hst.cell 1).trans rfl
    have y2 : Wf.cell? ⟨w.heap.size, 2, none⟩ = some (.int .i64 0) := (hst.cell 2).trans rfl
    refine bodyPost_ret (v := .tuple #[.slice none 0 0, .agg #[.int .i64 0, .int .i64 0, .int .i64 0], .bool false, .int .i64 fl]) ?_ rfl ?_
    · simp [results, Tryd.results14, go_sem, y0, y1, y2]
    · have hsz := HB.out.size
      have h1 : w.heap.size ≤ w1.heap.size := by simp at hsz; omega
      exact .inl ⟨H0.out, rfl, ((((Below.refl w.heap.size w).alloc (Nat.le_refl _) _).trans (HB.out.mono (by simp))).alloc h1 _).trans (hch3.low (by simp; omega) fun k hk e => by omega)⟩
end Go.Proofs.YtlkklaahnkcnkaaDoor.X
