/- Channels of the program: answers. -/
import Derived.Test.YtlkklaahnkcnkaaDoorG
import Derived.StillTailTactics
namespace Go.Proofs.YtlkklaahnkcnkaaDoor.X
open Go.RowKit

set_option maxRecDepth 100000 in
set_option maxHeartbeats 2000000 in
/-- Step 3 of a round. -/
theorem answer_calls (b t a base u many acked acc waste : Nat) (heard : Bool) (cs : Array Value) (vn vl : Value) (f : Fl) (fs : List Int) (hC : ChanC cs many acked acc heard waste) (hu : u < 4611686018427287904) (hf1 : f.now.length < 100000) (hf2 : f.late.length < 100000) (w : World) (hF : FlSt base w b t 5 cs vn vl f) (hA : AirSt base w a 154 fs u) (hab : a ≠ b) :
    Calls Tryd.prog 97 #[.pointer (some ⟨b, 0, none⟩), .pointer (some ⟨a, 0, none⟩)] w fun e w' => e = .returned (.int .i64 (one? heard : Nat)) ∧ SendPost base w b t 5 a 154 fs (u + one? heard) cs vn vl (if heard then f.send acc (fateAt fs u) else f) w' := by
  have g2 := (hF.blk.cell 2).trans hC.acc
  have g7 := (hF.blk.cell 7).trans hC.heard
  have HF := Lib.hid hF
  have HA := Lib.hid hA
  have Hab := Lib.hid hab
  clear hF hA hC hab
  cases heard
  · go_enter Tryd.func97, Tryd.ntmps97
    go_wp2
    go_ret
    exact ⟨rfl, SendPost.refl HF.out HA.out⟩
  · go_enter Tryd.func97, Tryd.ntmps97
    go_wp2
    go_still_tail 8, (by kernel_rfl)
    change wpList _ _ _ _ _ w.drew
    have HF1 := Lib.hid (HF.out.ch (S := fun _ => False) (Ch.of_below ((Below.refl _ w).drew)) id (fun _ _ => id) (fun _ _ => id))
    have HA1 := Lib.hid (HA.out.ch (S := fun _ => False) (Ch.of_below ((Below.refl _ w).drew)) id (fun _ _ => id))
    go_wp2_with (go_at_call 128; go_must (refine (flightSend_calls b t 5 a base acc u cs vn vl f fs (by omega) (by omega) (by omega) _ HF1.out HA1.out Hab.out).mono ?_; rintro e w2 ⟨rfl, h2⟩; have H2 := Lib.hid h2; clear h2))
    go_ret
    exact ⟨rfl, SendPost.step (SameBut.refl _ _) (Nx.refl _ _) (Nx.refl _ _) (Ch.of_below ((Below.refl _ w).drew)) H2.out⟩

theorem FlSt.set {base b t o i : Nat} {w : World} {cs : Array Value} {vn vl : Value} {f : Fl} (h : FlSt base w b t o cs vn vl f) (h1 : i ≠ o) (h2 : i ≠ o + 1) (v : Value) : FlSt base (w.setCell ⟨b, i, none⟩ v) b t o (cs.setIfInBounds i v) vn vl f := by
  have hc : Ch (fun k => k = b) w (w.setCell ⟨b, i, none⟩ v) := (Ch.refl (fun k => k = b) w).set (p := ⟨b, i, none⟩) (.inl rfl) v
  exact ⟨h.blk.set i v, h.lo, h.ty, (set_other h1 v).trans h.now, (set_other h2 v).trans h.late, h.rnow.ch hc (fun k hk e => h.rnow.ne h.blk h.ty k hk e), h.rlate.ch hc (fun k hk e => h.rlate.ne h.blk h.ty k hk e), h.apart⟩
set_option maxRecDepth 100000 in
set_option maxHeartbeats 2000000 in
/-- Step 4 of a round. -/
theorem hear_calls (b t base many acked acc waste : Nat) (heard : Bool) (cs : Array Value) (vn vl : Value) (f : Fl) (hC : ChanC cs many acked acc heard waste) (hl : f.now.length < 1000000) (w : World) (hF : FlSt base w b t 5 cs vn vl f) :
    Calls Tryd.prog 98 #[.pointer (some ⟨b, 0, none⟩)] w fun e w' => e = .returned (.tuple #[]) ∧ FlSt base w' b t 5 (((cs.setIfInBounds 5 vl).setIfInBounds 6 (.slice none 0 0)).setIfInBounds 1 (.int .i64 (maxAll acked f.now : Nat))) vl (.slice none 0 0) ⟨f.late, []⟩ ∧ But b w w' := by
  have HF := Lib.hid hF
  have HC := Lib.hid hC
  obtain ⟨A0, k0, e0, -⟩ := hF.rnow.slice
  subst e0
  clear hF hC
  go_enter Tryd.func98, Tryd.ntmps98
  go_wp2_with (go_at_call 129; go_must (refine (arrive_calls b _ 5 base cs _ vl f _ HF.out).mono ?_; rintro e w1 ⟨rfl, hF1, hB1, hn1⟩; have HF1 := Lib.hid (And.intro hF1 (And.intro hB1 hn1)); clear hF1 hB1 hn1))
  go_loopg [3, 9] f.now.length (fun kq x i W => ∃ j : Nat, i = .int .i64 j ∧ Hid (kq + j = f.now.length ∧ ∃ cs1, FlSt base W b t 5 cs1 vl (.slice none 0 0) ⟨f.late, []⟩ ∧ cs1 = ((cs.setIfInBounds 5 vl).setIfInBounds 6 (.slice none 0 0)).setIfInBounds 1 (.int .i64 (maxAll acked (f.now.take j) : Nat)) ∧ But b w W ∧ NRow W base (.slice A0 f.now.length k0) f.now))
  case atStart =>
    refine ⟨0, rfl, Lib.hid ⟨by omega, _, HF1.out.1, ?_, HF1.out.2.1, HF1.out.2.2⟩⟩
    apply Array.ext_getElem?
    intro i
    by_cases hi : 1 = i
    · subst hi
      rw [set_same (u := .int .i64 acked) (by rw [set_other (by decide), set_other (by decide)]; exact HC.out.acked), set_other (by decide), set_other (by decide), HC.out.acked]
      rfl
    · rw [set_other hi]
  case round =>
    obtain ⟨j, rfl, R⟩ := hrel
    obtain ⟨hkq, cs1, hF2, hcs, hB2, hn2⟩ := R.out
    have q1 : wr.cell? ⟨b, 1, none⟩ = some (.int .i64 (maxAll acked (f.now.take j) : Nat)) := (hF2.blk.cell 1).trans (by rw [hcs]; exact set_same (u := .int .i64 acked) (by rw [set_other (by decide), set_other (by decide)]; exact HC.out.acked) _)
    have q1' := hF2.blk.free 1
    have HX := Lib.hid (And.intro hF2 (And.intro hcs (And.intro hB2 hn2)))
    clear hkq hF2 hcs hB2
    by_cases hj : j < f.now.length
    · obtain ⟨A', k', e', -, hrow⟩ := hn2.row (by omega)
      obtain ⟨ad, e2, -, hcell⟩ := hrow.cell_scal hj
      obtain ⟨rfl, rfl⟩ : A0 = some ad ∧ k0 = k' := by simpa [e2] using e'
      clear e' e2 hrow hn2
      have hsn : maxAll acked (f.now.take (j + 1)) = max (maxAll acked (f.now.take j)) f.now[j] := by rw [List.take_succ_eq_append_getElem hj, maxAll_snoc]
      have Hsn := Lib.hid hsn
      clear hsn
      go_wp2_with fail
      all_goals
        go_roundg (gk - 1)
        case measure => have := R.out.1; omega
        case rel =>
          obtain ⟨hF2, hcs, hB2, hn2⟩ := HX.out
          refine ⟨j + 1, by go_num, Lib.hid ⟨by have := R.out.1; omega, _, hF2.set (by decide) (by decide) _, ?_, hB2.set _ _, hn2.ch ((Ch.refl (fun k => k = b) wr).set (p := ⟨b, 1, none⟩) (.inl rfl) _) (fun k hk e => hn2.ne hF2.blk hF2.ty k hk e)⟩⟩
          rw [hcs, Array.setIfInBounds_setIfInBounds, Hsn.out]
          congr 2
          omega
    · go_wp2_with fail
      go_end0
      have hj' : f.now.take j = f.now := List.take_of_length_le (by omega)
      obtain ⟨hF2, hcs, hB2, -⟩ := HX.out
      rw [hj'] at hcs
      subst hcs
      exact ⟨rfl, hF2, hB2⟩
theorem NRow.slice3 {w : World} {base : Nat} {v : Value} {xs : List Nat} (h : NRow w base v xs) : ∃ A n c, v = .slice A n c := by
  obtain ⟨A, c, e, _⟩ := h.slice
  exact ⟨A, _, c, e⟩
end Go.Proofs.YtlkklaahnkcnkaaDoor.X
