/- Channels of the reference: send, walked. -/
import Derived.Test.YtlkklaahnkcnkaaDoorL
namespace Go.Proofs.YtlkklaahnkcnkaaDoor.X
open Go.RowKit

section
variable {base b a many kA : Nat} {A : Option Addr} {w w' w1 w2 w3 : World} {fs : List Int} {cs cs3 : Array Value} {vp va vn vr : Value} {acked : Nat} {rc : Rc} {lateP lateA now : List Nat} {arrived : Bool} {packets acks used : Nat}
theorem Nx.lt {w w2 : World} {base : Nat} {v v1 : Value} {xs : List Nat} (_h : Nx w v v1) (hr : NRow w2 base v1 xs) (k : Nat) (hk : v1.ownBlock = some k) : k < w2.heap.size := hr.lt k hk
/-- Two rows have gone through sent, and are stored. -/
theorem RefC.sentP (h : RefC base w b a many A kA fs cs vp va vn vr acked rc lateP lateA now arrived packets acks used) {v1 v2 : Value} {f' : Fl} (r1 : NRow w2 base v1 f'.now) (r2 : NRow w2 base v2 f'.late) (ha : Apart v1 v2) (x1 : Nx w vn v1) (x2 : Nx w vp v2) (hc : Ch (fun k => vn.ownBlock = some k ∨ vp.ownBlock = some k) w w2)
    (hc3 : Ch (fun k => k = b) w2 w3) (hb3 : Blk w3 b cs3 95) (he : cs3 = (cs.setIfInBounds 5 v1).setIfInBounds 3 v2 ∨ cs3 = (cs.setIfInBounds 3 v2).setIfInBounds 5 v1) :
    RefC base w3 b a many A kA fs cs3 v2 va v1 vr acked rc f'.late lateA f'.now arrived packets acks used ∧ Below base w w3 := by
  have hb2 : Blk w2 b cs 95 := h.blk.ch hc fun e => by
    rcases e with e | e
    · exact h.rn.ne h.blk (by decide) b e rfl
    · exact h.rp.ne h.blk (by decide) b e rfl
  have ne : ∀ {v : Value} {xs : List Nat}, NRow w2 base v xs → NRow w3 base v xs := fun hv => hv.ch hc3 fun k hk e => hv.ne hb2 (by decide) k hk e
  have g : ∀ (i : Nat) (u : Value), cs[i]? = some u → i ≠ 5 → i ≠ 3 → cs3[i]? = some u := by
    intro i u hu h5 h3
    rcases he with he | he <;> rw [he, set_other (by omega), set_other (by omega)] <;> exact hu
  have g5 : cs3[5]? = some v1 := by
    rcases he with he | he <;> rw [he]
    · rw [set_other (by decide)]; exact set_same h.c5 _
    · exact set_same (by rw [set_other (by decide)]; exact h.c5) _
  have g3 : cs3[3]? = some v2 := by
    rcases he with he | he <;> rw [he]
    · exact set_same (by rw [set_other (by decide)]; exact h.c3) _
    · rw [set_other (by decide)]; exact set_same h.c3 _
  have hs : cs3.size = 11 := by rcases he with he | he <;> rw [he] <;> simpa using h.sz
  have keep : ∀ {v : Value} {xs : List Nat}, NRow w base v xs → Apart v vn → Apart v vp → NRow w3 base v xs := fun hv h1 h2 => ne (hv.ch hc fun k hk e => by
    rcases e with e | e
    · exact h1 k hk e
    · exact h2 k hk e)
  refine ⟨⟨hs, hb3, h.lo, g 0 _ h.c0 (by decide) (by decide), g 1 _ h.c1 (by decide) (by decide), g 2 _ h.c2 (by decide) (by decide), g3, g 4 _ h.c4 (by decide) (by decide), g5, g 6 _ h.c6 (by decide) (by decide), g 7 _ h.c7 (by decide) (by decide), g 8 _ h.c8 (by decide) (by decide), g 9 _ h.c9 (by decide) (by decide), g 10 _ h.c10 (by decide) (by decide), ne r2, keep h.ra h.an h.pa.symm, ne r1, keep h.rr h.nr.symm h.pr.symm, (h.air.ch hc ?_ ?_).ch hc3 h.ab (fun k hk e => by have := h.lo; omega), h.ab, x2.apart h.pa h.ra.lt, ha.symm, x2.apart h.pr h.rr.lt, (x1.apart h.an.symm h.ra.lt).symm, h.ar, x1.apart h.nr h.rr.lt⟩, ?_⟩
  · rintro (e | e) <;> obtain ⟨_, _, _, hb, _⟩ := h.air
    · exact h.rn.ne hb (by decide) a e rfl
    · exact h.rp.ne hb (by decide) a e rfl
  · rintro k hk (e | e)
    · have := h.rn.base k e; omega
    · have := h.rp.base k e; omega
  · have hsz := hc.size
    have hbb := h.hb
    exact (hc.low h.hb fun k hk e => by
      rcases e with e | e
      · have := h.rn.base k e; omega
      · have := h.rp.base k e; omega).trans (hc3.low (by omega) fun k hk e => by have := h.lo; omega)
end
set_option maxRecDepth 100000 in
set_option maxHeartbeats 8000000 in
theorem refSend_calls (base b a many kA window : Nat) (A : Option Addr) (w : World) (fs : List Int) (cs : Array Value) (vp va vn vr : Value) (acked : Nat) (rc : Rc) (lateP lateA now : List Nat) (arrived : Bool) (packets acks used : Nat)
    (h : RefC base w b a many A kA fs cs vp va vn vr acked rc lateP lateA now arrived packets acks used) (hm : many ≤ 10000) (hk : acked ≤ many) (hw : window ≤ 1000) (hu : used ≤ 20000000) (hp : packets ≤ 20000000) (hl : lateP.length ≤ 10000) :
    Calls Tryd.prog 47 #[.pointer (some ⟨b, 0, none⟩), .pointer (some ⟨a, 0, none⟩), .int .i64 window] w fun e w' => e = .returned (.tuple #[]) ∧ (∃ cs' vp' vn', RefC base w' b a many A kA fs cs' vp' va vn' vr acked rc (sends fs (min many (acked + window) - acked) acked used ⟨lateP, []⟩).late lateA (sends fs (min many (acked + window) - acked) acked used ⟨lateP, []⟩).now arrived (packets + (min many (acked + window) - acked)) acks (used + (min many (acked + window) - acked))) ∧ Below base w w' := by
  obtain ⟨cnt, hcnt⟩ : ∃ cnt, cnt = min many (acked + window) - acked := ⟨_, rfl⟩
  have Hcnt := Lib.hid hcnt
  have hc1 : cnt ≤ window := by omega
  have hc2 : acked + cnt ≤ many := by omega
  rw [← hcnt]
  clear hcnt
  have H := Lib.hid h
  obtain ⟨A0, n0, k0, e0⟩ := h.rp.slice3
  subst e0
  have g0 := (h.blk.cell 0).trans h.c0
  have g1 := (h.blk.cell 1).trans h.c1
  have g3 := (h.blk.cell 3).trans h.c3
  have g5 := (h.blk.cell 5).trans h.c5
  have gf := h.blk.free
  clear h
  go_enter Tryd.func47, Tryd.ntmps47
  go_wp2
  clear g0 g1 g3 g5 gf
  go_loopg [6] cnt (fun kq i W => ∃ (j : Nat) (cs : Array Value) (vp vn : Value), i = .int .i64 (acked + j : Nat) ∧ Hid (kq + j = cnt ∧ RefC base W b a many A kA fs cs vp va vn vr acked rc (sends fs j acked used ⟨lateP, []⟩).late lateA (sends fs j acked used ⟨lateP, []⟩).now arrived (packets + j) acks (used + j) ∧ Below base w W))
  case atStart => exact ⟨0, _, _, _, rfl, Lib.hid ⟨by omega, H.out.turn, (H.out.base' 5 _).trans (Ch.low (chset _ b 3 _) (by have := H.out.hb; simp; omega) fun k hk e => by have := H.out.lo; omega)⟩⟩
  case round =>
    obtain ⟨j, cs1, vp1, vn1, rfl, R⟩ := hrel
    have hC := R.out.2.1
    have g0 := (hC.blk.cell 0).trans hC.c0
    have g1 := (hC.blk.cell 1).trans hC.c1
    have HC := Lib.hid hC
    clear hC
    by_cases hj : j < cnt
    · have hlen := sends_len fs j acked used ⟨lateP, []⟩
      simp only [List.length_nil] at hlen
      go_upto_region 4 with (fail)
      go_cut [] (fun W => ∃ (cs : Array Value) (vp vn : Value), Hid (RefC base W b a many A kA fs cs vp va vn vr acked rc (sends fs (j + 1) acked used ⟨lateP, []⟩).late lateA (sends fs (j + 1) acked used ⟨lateP, []⟩).now arrived (packets + j) acks (used + (j + 1)) ∧ Below base w W))
      case first =>
        obtain ⟨A1, n1, k1, e1⟩ := HC.out.rp.slice3
        obtain ⟨A2, n2, k2, e2⟩ := HC.out.rn.slice3
        subst e1 e2
        have g3 := (HC.out.blk.cell 3).trans HC.out.c3
        have g5 := (HC.out.blk.cell 5).trans HC.out.c5
        go_region_with (first
          | (go_at_call 82; refine (fatesNext_calls a (used + j) base fs (by omega) _ HC.out.drew.air).mono ?_; rintro e w1 ⟨rfl, hA1, hB1⟩; have hC1 := HC.out.drew.air' hA1 hB1; have p3 := (hC1.blk.cell 3).trans hC1.c3; have p5 := (hC1.blk.cell 5).trans hC1.c5; have HC1 := Lib.hid hC1; have HB1 := Lib.hid hB1; clear hC1 hA1 hB1)
          | (go_at_call 81; refine (sent_calls base (acked + j) (fateAt fs (used + j)) _ _ (sends fs j acked used ⟨lateP, []⟩) _ HC1.out.hb HC1.out.rn HC1.out.rp HC1.out.pn.symm (by omega) (by omega)).mono ?_; rintro e w2 ⟨B1, B2, m1, m2, d1, d2, rfl, hr1, hr2, hap, hx1, hx2, hc12⟩; have hb2 := HC1.out.blk.ch hc12 (fun e => (by rcases e with e | e; exact HC1.out.rn.ne HC1.out.blk (by decide) b e rfl; exact HC1.out.rp.ne HC1.out.blk (by decide) b e rfl)); have t3 := (hb2.cell 3).trans HC1.out.c3; have t5 := (hb2.cell 5).trans HC1.out.c5; have tf := hb2.free; have HS := Lib.hid (And.intro hr1 (And.intro hr2 (And.intro hap (And.intro hx1 (And.intro hx2 (And.intro hc12 hb2)))))); clear hr1 hr2 hap hx1 hx2 hc12 hb2))
        all_goals go_wp2_with fail
        all_goals go_meet
        all_goals
          obtain ⟨hr1, hr2, hap, hx1, hx2, hc12, hb2⟩ := HS.out
          have h := HC1.out.sentP hr1 hr2 hap hx1 hx2 hc12 ((chset _ _ _ _).trans (chset _ _ _ _)) ((hb2.set _ _).set _ _) (.inl rfl)
          have hlow : Below base wr w1 := (Below.drew (Below.refl _ _)).trans ((Ch.of_but (S := fun k => k = a) HB1.out rfl).low HC.out.drew.hb fun k hk e => by have := HC.out.air.1; omega)
          rw [sends_snoc]
          exact ⟨_, _, _, Lib.hid ⟨h.1, R.out.2.2.trans (hlow.trans h.2)⟩⟩
      case rest =>
        obtain ⟨cs2, vp2, vn2, R2⟩ := hcut
        have HC2 := Lib.hid R2.out.1
        have p8 := (HC2.out.blk.cell 8).trans HC2.out.c8
        have p8' := HC2.out.blk.free 8
        go_wp2_with fail
        go_roundg (gk - 1)
        case measure => have := R.out.1; omega
        case rel =>
          have h := HC2.out.packets' (packets + j + 1)
          exact ⟨j + 1, _, _, _, by go_num, Lib.hid ⟨by have := R.out.1; omega, h, R2.out.2.trans (HC2.out.base' 8 _)⟩⟩
    · have hj' : j = cnt := by have := R.out.1; omega
      have hstop : ¬ (acked + j < many ∧ acked + j < acked + window) := by have := Hcnt.out; omega
      rcases Nat.lt_or_ge (acked + j) many with h1 | h1
      all_goals
        go_wp2_with fail
        go_end0
        subst hj'
        exact ⟨rfl, ⟨_, _, _, R.out.2.1⟩, R.out.2.2⟩
end Go.Proofs.YtlkklaahnkcnkaaDoor.X
