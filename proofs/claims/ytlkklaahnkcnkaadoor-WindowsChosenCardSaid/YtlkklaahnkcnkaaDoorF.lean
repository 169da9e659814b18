/- Channels of the program: a round, step by step. -/
import Derived.Test.YtlkklaahnkcnkaaDoorE
namespace Go.Proofs.YtlkklaahnkcnkaaDoor.X
open Go.RowKit

theorem SendPost.refl {base b t o a ta u : Nat} {fs : List Int} {w : World} {cs : Array Value} {vn vl : Value} {f : Fl} (hF : FlSt base w b t o cs vn vl f) (hA : AirSt base w a ta fs u) : SendPost base w b t o a ta fs u cs vn vl f w :=
  ⟨cs, vn, vl, hF, SameBut.refl _ _, Nx.refl _ _, Nx.refl _ _, hA, Ch.refl _ _⟩
theorem SendPost.drewN {base b t o a ta u : Nat} {fs : List Int} {w W : World} {cs : Array Value} {vn vl : Value} {f : Fl} (h : SendPost base w b t o a ta fs u cs vn vl f W) (q : Nat) : SendPost base w b t o a ta fs u cs vn vl f (W.drewN q) := by
  obtain ⟨cs', vn', vl', hF, hS, hn, hl, hA, hc⟩ := h
  have hd : Ch (fun _ => False) W (W.drewN q) := (Ch.refl _ _).drewN q
  exact ⟨cs', vn', vl', hF.ch hd id (fun _ _ => id) (fun _ _ => id), hS, hn, hl, hA.ch hd id (fun _ _ => id), hc.drewN q⟩
theorem SendPost.step {base b t o a ta u : Nat} {fs : List Int} {w W w2 : World} {cs cs' : Array Value} {vn vl vn' vl' : Value} {f2 : Fl}
    (hb : SameBut cs cs' o) (hn : Nx w vn vn') (hl : Nx w vl vl') (hc : Ch (fun k => k = b ∨ k = a ∨ vn.ownBlock = some k ∨ vl.ownBlock = some k) w W) (h : SendPost base W b t o a ta fs u cs' vn' vl' f2 w2) : SendPost base w b t o a ta fs u cs vn vl f2 w2 := by
  obtain ⟨cs2, vn2, vl2, hF2, hb2, hn2, hl2, hA2, hc2⟩ := h
  have key : ∀ {v v' : Value} {i : Nat}, Nx w v v' → i < w.heap.size → v'.ownBlock = some i → v.ownBlock = some i := by
    intro v v' i hx hi e
    rcases hx with hx | ⟨c, hc, hle⟩
    · rw [← hx]; exact e
    · rw [hc] at e
      injection e with e
      omega
  refine ⟨cs2, vn2, vl2, hF2, hb.trans hb2, hn.trans hn2 hc.size, hl.trans hl2 hc.size, hA2, hc.trans' hc2 fun i hi e => ?_⟩
  rcases e with e | e | e | e
  · exact .inl e
  · exact .inr (.inl e)
  · exact .inr (.inr (.inl (key hn hi e)))
  · exact .inr (.inr (.inr (key hl hi e)))
/-- The numbers of a channel. -/
structure ChanC (cs : Array Value) (many acked acc : Nat) (heard : Bool) (waste : Nat) : Prop where
  many : cs[0]? = some (.int .i64 many)
  acked : cs[1]? = some (.int .i64 acked)
  acc : cs[2]? = some (.int .i64 acc)
  heard : cs[7]? = some (.bool heard)
  waste : cs[8]? = some (.int .i64 waste)
theorem ChanC.same {cs cs' : Array Value} {many acked acc waste o : Nat} {heard : Bool} (h : ChanC cs many acked acc heard waste) (hs : SameBut cs cs' o) (ho : o = 3 ∨ o = 5) : ChanC cs' many acked acc heard waste :=
  ⟨(hs.2 0 (by omega) (by omega)).trans h.many, (hs.2 1 (by omega) (by omega)).trans h.acked, (hs.2 2 (by omega) (by omega)).trans h.acc, (hs.2 7 (by omega) (by omega)).trans h.heard, (hs.2 8 (by omega) (by omega)).trans h.waste⟩

set_option maxHeartbeats 1000000 in
/-- What arrives; what was late comes next. -/
theorem arrive_calls (b t o base : Nat) (cs : Array Value) (vn vl : Value) (f : Fl) (w : World) (hF : FlSt base w b t o cs vn vl f) :
    Calls Tryd.prog 129 #[.pointer (some ⟨b, o, none⟩)] w fun e w' => e = .returned vn ∧ FlSt base w' b t o ((cs.setIfInBounds o vl).setIfInBounds (o + 1) (.slice none 0 0)) vl (.slice none 0 0) ⟨f.late, []⟩ ∧ But b w w' ∧ NRow w' base vn f.now := by
  have HF := Lib.hid hF
  obtain ⟨A0, k0, e0, -⟩ := hF.rnow.slice
  obtain ⟨A1, k1, e1, -⟩ := hF.rlate.slice
  subst e0 e1
  have g0 := (hF.blk.cell o).trans hF.now
  have g1 := (hF.blk.cell (o + 1)).trans hF.late
  have g2 := hF.blk.free o
  have g3 := hF.blk.free (o + 1)
  have ho : o + 1 < cs.size := (Array.getElem?_eq_some_iff.1 hF.late).1
  clear hF
  go_enter Tryd.func129, Tryd.ntmps129
  go_wp2
  go_ret
  have hF := HF.out
  have hB : But b w ((w.setCell ⟨b, o, none⟩ (.slice A1 f.late.length k1)).setCell ⟨b, o + 1, none⟩ (.slice none 0 0)) := ((But.refl _ _).set _ _).set _ _
  have hc := Ch.of_but (S := fun k => k = b) hB rfl
  refine ⟨rfl, ⟨(hF.blk.set _ _).set _ _, hF.lo, hF.ty, ?_, ?_, hF.rlate.ch hc (fun k hk e => hF.rlate.ne hF.blk hF.ty k hk e), NRow.nil _ _, fun k hk e => by simp [Value.ownBlock] at e⟩, hB, hF.rnow.ch hc (fun k hk e => hF.rnow.ne hF.blk hF.ty k hk e)⟩
  · rw [Array.getElem?_setIfInBounds, if_neg (by omega), Array.getElem?_setIfInBounds]
    simp; omega
  · rw [Array.getElem?_setIfInBounds]
    simp [ho]

set_option maxRecDepth 100000 in
set_option maxHeartbeats 2000000 in
/-- Step 1 of a round. -/
theorem chanSend_calls (b t a base u many acked acc waste window : Nat) (heard : Bool) (cs : Array Value) (vn vl : Value) (f : Fl) (fs : List Int) (hC : ChanC cs many acked acc heard waste) (hm : many < 100000) (hk : acked ≤ many) (hw : window < 100000) (hu : u < 4611686018427287904) (hf1 : f.now.length < 100000) (hf2 : f.late.length < 100000) (w : World) (hF : FlSt base w b t 3 cs vn vl f) (hA : AirSt base w a 154 fs u) (hab : a ≠ b) :
    Calls Tryd.prog 94 #[.pointer (some ⟨b, 0, none⟩), .int .i64 window, .pointer (some ⟨a, 0, none⟩)] w fun e w' => e = .returned (.int .i64 ((min many (acked + window) - acked : Nat) : Int)) ∧ SendPost base w b t 3 a 154 fs (u + (min many (acked + window) - acked)) cs vn vl (sends fs (min many (acked + window) - acked) acked u f) w' := by
  have g0 := (hF.blk.cell 0).trans hC.many
  have g1 := (hF.blk.cell 1).trans hC.acked
  have HF := Lib.hid hF
  have HA := Lib.hid hA
  have HC := Lib.hid hC
  have Hab := Lib.hid hab
  clear hF hA hC hab
  by_cases hmn : many ≤ acked + window
  · have hcnt := Lib.hid (show min many (acked + window) - acked = (many - acked) by omega)
    go_enter Tryd.func94, Tryd.ntmps94
    go_wp2
    go_quiet (fail)
    go_wp2
    go_loopg [8] (many - acked) (fun kq i W => ∃ j : Nat, i = .int .i64 (acked + j : Nat) ∧ Hid (kq + j = (many - acked) ∧ SendPost base w b t 3 a 154 fs (u + j) cs vn vl (sends fs j acked u f) W))
    case atStart => exact ⟨0, rfl, Lib.hid ⟨by omega, (SendPost.refl HF.out HA.out : SendPost base w b t 3 a 154 fs u cs vn vl f w).drewN _⟩⟩
    case round =>
      obtain ⟨j, rfl, R⟩ := hrel
      obtain ⟨cs', vn', vl', hF1, hS1, hn1, hl1, hA1, hc1⟩ := R.out.2
      have hC1 := HC.out.same hS1 (.inl rfl)
      have q1 := (hF1.blk.cell 1).trans hC1.acked
      have HF1 := Lib.hid hF1
      have HA1 := Lib.hid hA1
      have HS1 := Lib.hid (And.intro hS1 (And.intro hn1 (And.intro hl1 hc1)))
      clear hF1 hA1 hS1 hC1 hn1 hl1 hc1
      by_cases hj : j < (many - acked)
      · have hl := sends_len fs j acked u f
        go_wp2_with (go_at_call 128; go_must (refine (flightSend_calls b t 3 a base (acked + j) (u + j) cs' vn' vl' (sends fs j acked u f) fs (by omega) (by omega) (by omega) _ HF1.out HA1.out Hab.out).mono ?_; rintro e w2 ⟨rfl, h2⟩; have H2 := Lib.hid h2; clear h2))
        go_roundg (gk - 1)
        case measure => have := R.out.1; omega
        case rel => exact ⟨j + 1, by go_num, Lib.hid ⟨by have := R.out.1; omega, by rw [sends_snoc]; exact SendPost.step HS1.out.1 HS1.out.2.1 HS1.out.2.2.1 HS1.out.2.2.2 H2.out⟩⟩
      · go_wp2_with fail
        go_ret
        have hj' : j = (many - acked) := by have := R.out.1; omega
        have hR := R.out.2
        rw [hj'] at hR
        rw [hcnt.out]
        exact ⟨ret_int (by omega), hR⟩
  · have hcnt := Lib.hid (show min many (acked + window) - acked = window by omega)
    go_enter Tryd.func94, Tryd.ntmps94
    go_wp2
    go_quiet (fail)
    go_wp2
    go_loopg [8] window (fun kq i W => ∃ j : Nat, i = .int .i64 (acked + j : Nat) ∧ Hid (kq + j = window ∧ SendPost base w b t 3 a 154 fs (u + j) cs vn vl (sends fs j acked u f) W))
    case atStart => exact ⟨0, rfl, Lib.hid ⟨by omega, (SendPost.refl HF.out HA.out : SendPost base w b t 3 a 154 fs u cs vn vl f w).drewN _⟩⟩
    case round =>
      obtain ⟨j, rfl, R⟩ := hrel
      obtain ⟨cs', vn', vl', hF1, hS1, hn1, hl1, hA1, hc1⟩ := R.out.2
      have hC1 := HC.out.same hS1 (.inl rfl)
      have q1 := (hF1.blk.cell 1).trans hC1.acked
      have HF1 := Lib.hid hF1
      have HA1 := Lib.hid hA1
      have HS1 := Lib.hid (And.intro hS1 (And.intro hn1 (And.intro hl1 hc1)))
      clear hF1 hA1 hS1 hC1 hn1 hl1 hc1
      by_cases hj : j < window
      · have hl := sends_len fs j acked u f
        go_wp2_with (go_at_call 128; go_must (refine (flightSend_calls b t 3 a base (acked + j) (u + j) cs' vn' vl' (sends fs j acked u f) fs (by omega) (by omega) (by omega) _ HF1.out HA1.out Hab.out).mono ?_; rintro e w2 ⟨rfl, h2⟩; have H2 := Lib.hid h2; clear h2))
        go_roundg (gk - 1)
        case measure => have := R.out.1; omega
        case rel => exact ⟨j + 1, by go_num, Lib.hid ⟨by have := R.out.1; omega, by rw [sends_snoc]; exact SendPost.step HS1.out.1 HS1.out.2.1 HS1.out.2.2.1 HS1.out.2.2.2 H2.out⟩⟩
      · go_wp2_with fail
        go_ret
        have hj' : j = window := by have := R.out.1; omega
        have hR := R.out.2
        rw [hj'] at hR
        rw [hcnt.out]
        exact ⟨ret_int (by omega), hR⟩
end Go.Proofs.YtlkklaahnkcnkaaDoor.X
