/- Channels of the reference: arrive, reply, hear. -/
import Derived.Test.YtlkklaahnkcnkaaDoorM
import Derived.StillTailTactics
namespace Go.Proofs.YtlkklaahnkcnkaaDoor.X
open Go.RowKit

section
variable {base b a many kA : Nat} {A : Option Addr} {w w' w1 w2 w3 : World} {fs : List Int} {cs cs3 : Array Value} {vp va vn vr : Value} {acked : Nat} {rc : Rc} {lateP lateA now : List Nat} {arrived : Bool} {packets acks used : Nat}
theorem RefC.noted (h : RefC base w b a many A kA fs cs vp va vn vr acked rc lateP lateA now arrived packets acks used) {v1 : Value} {ys : List Nat} (hO : NRow w2 base v1 ys) (hg : w.grownBy w2 vr.ownBlock) (hx : Nx w vr v1) :
    RefC base (w2.setCell ⟨b, 7, none⟩ v1) b a many A kA fs (cs.setIfInBounds 7 v1) vp va vn v1 acked ⟨rc.accepted, rc.waste, ys⟩ lateP lateA now arrived packets acks used ∧ Below base w (w2.setCell ⟨b, 7, none⟩ v1) := by
  have hc : Ch (fun k => vr.ownBlock = some k) w w2 := (Ch.refl _ _).grown hg fun k hk => .inl hk
  have hb2 : Blk w2 b cs 95 := h.blk.ch hc fun e => h.rr.ne h.blk (by decide) b e rfl
  have hc3 := chset w2 b 7 v1
  have ne : ∀ {v : Value} {xs : List Nat}, NRow w2 base v xs → NRow (w2.setCell ⟨b, 7, none⟩ v1) base v xs := fun hv => hv.ch hc3 fun k hk e => hv.ne hb2 (by decide) k hk e
  have keep : ∀ {v : Value} {xs : List Nat}, NRow w base v xs → Apart v vr → NRow (w2.setCell ⟨b, 7, none⟩ v1) base v xs := fun hv h1 => ne (hv.ch hc fun k hk e => h1 k hk e)
  have g : ∀ (i : Nat) (u : Value), cs[i]? = some u → i ≠ 7 → (cs.setIfInBounds 7 v1)[i]? = some u := fun i u hu hi => (set_other (Ne.symm hi) _).trans hu
  refine ⟨⟨by simpa using h.sz, hb2.set _ _, h.lo, g 0 _ h.c0 (by decide), g 1 _ h.c1 (by decide), g 2 _ h.c2 (by decide), g 3 _ h.c3 (by decide), g 4 _ h.c4 (by decide), g 5 _ h.c5 (by decide), g 6 _ h.c6 (by decide), set_same h.c7 _, g 8 _ h.c8 (by decide), g 9 _ h.c9 (by decide), g 10 _ h.c10 (by decide), keep h.rp h.pr, keep h.ra h.ar, keep h.rn h.nr, ne hO, (h.air.ch hc ?_ ?_).ch hc3 h.ab (fun k hk e => by have := h.lo; omega), h.ab, h.pa, h.pn, (hx.apart h.pr.symm h.rp.lt).symm, h.an, (hx.apart h.ar.symm h.ra.lt).symm, (hx.apart h.nr.symm h.rn.lt).symm⟩, ?_⟩
  · intro e
    obtain ⟨_, _, _, hb, _⟩ := h.air
    exact h.rr.ne hb (by decide) a e rfl
  · intro k hk e
    have := h.rr.base k e; omega
  · have := hc.size
    have := h.hb
    exact (hc.low h.hb fun k hk e => by have := h.rr.base k e; omega).trans (hc3.low (by omega) fun k hk e => by have := h.lo; omega)
/-- Packets go through sent for the acknowledgements. -/
theorem RefC.sentA (h : RefC base w b a many A kA fs cs vp va vn vr acked rc lateP lateA now arrived packets acks used) {v1 v2 : Value} {f' : Fl} (r1 : NRow w2 base v1 f'.now) (r2 : NRow w2 base v2 f'.late) (ha : Apart v1 v2) (x1 : Nx w vn v1) (x2 : Nx w va v2) (hc : Ch (fun k => vn.ownBlock = some k ∨ va.ownBlock = some k) w w2)
    (hc3 : Ch (fun k => k = b) w2 w3) (hb3 : Blk w3 b cs3 95) (he : cs3 = (cs.setIfInBounds 5 v1).setIfInBounds 4 v2) :
    RefC base w3 b a many A kA fs cs3 vp v2 v1 vr acked rc lateP f'.late f'.now arrived packets acks used ∧ Below base w w3 := by
  have hb2 : Blk w2 b cs 95 := h.blk.ch hc fun e => by
    rcases e with e | e
    · exact h.rn.ne h.blk (by decide) b e rfl
    · exact h.ra.ne h.blk (by decide) b e rfl
  have ne : ∀ {v : Value} {xs : List Nat}, NRow w2 base v xs → NRow w3 base v xs := fun hv => hv.ch hc3 fun k hk e => hv.ne hb2 (by decide) k hk e
  have g : ∀ (i : Nat) (u : Value), cs[i]? = some u → i ≠ 5 → i ≠ 4 → cs3[i]? = some u := by
    intro i u hu h5 h3
    rw [he, set_other (by omega), set_other (by omega)]; exact hu
  have g5 : cs3[5]? = some v1 := by rw [he, set_other (by decide)]; exact set_same h.c5 _
  have g4 : cs3[4]? = some v2 := by rw [he]; exact set_same (by rw [set_other (by decide)]; exact h.c4) _
  have keep : ∀ {v : Value} {xs : List Nat}, NRow w base v xs → Apart v vn → Apart v va → NRow w3 base v xs := fun hv h1 h2 => ne (hv.ch hc fun k hk e => by
    rcases e with e | e
    · exact h1 k hk e
    · exact h2 k hk e)
  refine ⟨⟨by rw [he]; simpa using h.sz, hb3, h.lo, g 0 _ h.c0 (by decide) (by decide), g 1 _ h.c1 (by decide) (by decide), g 2 _ h.c2 (by decide) (by decide), g 3 _ h.c3 (by decide) (by decide), g4, g5, g 6 _ h.c6 (by decide) (by decide), g 7 _ h.c7 (by decide) (by decide), g 8 _ h.c8 (by decide) (by decide), g 9 _ h.c9 (by decide) (by decide), g 10 _ h.c10 (by decide) (by decide), keep h.rp h.pn h.pa, ne r2, ne r1, keep h.rr h.nr.symm h.ar.symm, (h.air.ch hc ?_ ?_).ch hc3 h.ab (fun k hk e => by have := h.lo; omega), h.ab, (x2.apart h.pa.symm h.rp.lt).symm, (x1.apart h.pn.symm h.rp.lt).symm, h.pr, ha.symm, x2.apart h.ar h.rr.lt, x1.apart h.nr h.rr.lt⟩, ?_⟩
  · rintro (e | e) <;> obtain ⟨_, _, _, hb, _⟩ := h.air
    · exact h.rn.ne hb (by decide) a e rfl
    · exact h.ra.ne hb (by decide) a e rfl
  · rintro k hk (e | e)
    · have := h.rn.base k e; omega
    · have := h.ra.base k e; omega
  · have hsz := hc.size
    have hbb := h.hb
    exact (hc.low h.hb fun k hk e => by
      rcases e with e | e
      · have := h.rn.base k e; omega
      · have := h.ra.base k e; omega).trans (hc3.low (by omega) fun k hk e => by have := h.lo; omega)
end
set_option maxRecDepth 100000 in
set_option maxHeartbeats 8000000 in
theorem refArrive_calls (base b a many kA rd : Nat) (A : Option Addr) (w : World) (fs : List Int) (cs : Array Value) (vp va vn vr : Value) (acked : Nat) (rc : Rc) (lateP lateA now : List Nat) (arrived : Bool) (packets acks used : Nat)
    (h : RefC base w b a many A kA fs cs vp va vn vr acked rc lateP lateA now arrived packets acks used) (hl : now.length < 1000000) (hl2 : rc.rounds.length + now.length < 1000000) (hacc : rc.accepted + rc.waste + now.length < 4611686018427387904) :
    Calls Tryd.prog 48 #[.pointer (some ⟨b, 0, none⟩), .int .i64 rd] w fun e w' => e = .returned (.tuple #[]) ∧ (∃ cs' vr', RefC base w' b a many A kA fs cs' vp va vn vr' acked (rc.all rd now) lateP lateA now (decide (0 < now.length)) packets acks used) ∧ Below base w w' := by
  have H := Lib.hid h
  obtain ⟨A0, k0, e0, -⟩ := h.rn.slice
  subst e0
  have g5 := (h.blk.cell 5).trans h.c5
  have g6 := (h.blk.cell 6).trans h.c6
  have g6' := h.blk.free 6
  clear h
  go_enter Tryd.func48, Tryd.ntmps48
  go_wp2
  clear g5 g6 g6'
  go_loopg [5, 20] now.length (fun kq x i W => ∃ (j : Nat) (cs : Array Value) (vr : Value), i = .int .i64 j ∧ Hid (kq + j = now.length ∧ RefC base W b a many A kA fs cs vp va (.slice A0 now.length k0) vr acked (rc.all rd (now.take j)) lateP lateA now (decide (0 < now.length)) packets acks used ∧ Below base w W))
  case atStart => exact ⟨0, _, _, rfl, Lib.hid ⟨by omega, H.out.arrived' _, H.out.base' 6 _⟩⟩
  case round =>
    obtain ⟨j, cs1, vr1, rfl, R⟩ := hrel
    have HC := Lib.hid R.out.2.1
    by_cases hj : j < now.length
    · have hok := rc.all_ok rd (now.take j)
      rw [List.length_take] at hok
      have hacc' : (rc.all rd (now.take j)).accepted + (rc.all rd (now.take j)).waste < 4611686018427387904 := by omega
      have hrl' : (rc.all rd (now.take j)).rounds.length < 1000000 := by omega
      clear hok
      have q2 := (HC.out.blk.cell 2).trans HC.out.c2
      have q2' := HC.out.blk.free 2
      have q10 := (HC.out.blk.cell 10).trans HC.out.c10
      have q10' := HC.out.blk.free 10
      obtain ⟨A', k', e', -, hrow⟩ := HC.out.rn.row (by omega)
      obtain ⟨ad, e2, -, hcell⟩ := hrow.cell_scal hj
      obtain ⟨rfl, rfl⟩ : A0 = some ad ∧ k0 = k' := by simpa [e2] using e'
      clear e' e2 hrow
      have hsn : now.take (j + 1) = now.take j ++ [now[j]] := List.take_succ_eq_append_getElem hj
      by_cases he : now[j] = (rc.all rd (now.take j)).accepted
      · have he1 : ((now[j] : Int) == ((rc.all rd (now.take j)).accepted : Int)) = true := by simp [he]
        have Hone := Lib.hid (show rc.all rd (now.take (j + 1)) = ⟨(rc.all rd (now.take j)).accepted + 1, (rc.all rd (now.take j)).waste, (rc.all rd (now.take j)).rounds ++ [rd]⟩ by rw [hsn, Rc.all_snoc, Rc.one, if_pos he])
        clear he hsn
        have HC2 := Lib.hid (HC.out.acc' ((rc.all rd (now.take j)).accepted + 1))
        obtain ⟨Ar, nr, kr, er⟩ := HC.out.rr.slice3
        subst er
        have q7 := (HC.out.blk.cell 7).trans HC.out.c7
        go_wp2_with (at_builtin; go_must (refine nrow_append HC2.out.rr [rd] [.int .i64 rd] rfl rfl HC2.out.hb Tryd.underlying22 infoInt (by simp; omega) rfl rfl rfl (by first | rfl | (go_simp; done)) ?_; intro v1 w2 hO hg hat; obtain ⟨A1, n1, c1, rfl⟩ := hO.slice3; have hnb := HC2.out.blk.grown hg (fun e => HC2.out.rr.ne HC2.out.blk (by decide) b e.symm rfl); have p7 := (hnb.cell 7).trans HC2.out.c7; have p7' := hnb.free 7; have HX := Lib.hid (And.intro hO (And.intro hg hat)); clear hO hg hat hnb))
        go_roundg (gk - 1)
        case measure => have := R.out.1; omega
        case rel =>
          have h := HC2.out.noted HX.out.1 HX.out.2.1 HX.out.2.2
          refine ⟨j + 1, (cs1.setIfInBounds 2 (.int .i64 (((rc.all rd (now.take j)).accepted + 1 : Nat)))).setIfInBounds 7 (.slice A1 n1 c1), .slice A1 n1 c1, by go_num, Lib.hid ⟨by have := R.out.1; omega, ?_, R.out.2.2.trans ((HC.out.base' 2 _).trans h.2)⟩⟩
          rw [Hone.out]
          exact h.1
      · have he1 : ((now[j] : Int) == ((rc.all rd (now.take j)).accepted : Int)) = false := by simp; omega
        have Hone := Lib.hid (show rc.all rd (now.take (j + 1)) = ⟨(rc.all rd (now.take j)).accepted, (rc.all rd (now.take j)).waste + 1, (rc.all rd (now.take j)).rounds⟩ by rw [hsn, Rc.all_snoc, Rc.one, if_neg he])
        clear he hsn
        go_wp2_with fail
        go_roundg (gk - 1)
        case measure => have := R.out.1; omega
        case rel =>
          refine ⟨j + 1, cs1.setIfInBounds 10 (.int .i64 (((rc.all rd (now.take j)).waste + 1 : Nat))), vr1, by go_num, Lib.hid ⟨by have := R.out.1; omega, ?_, R.out.2.2.trans (HC.out.base' 10 _)⟩⟩
          rw [Hone.out]
          exact HC.out.waste' ((rc.all rd (now.take j)).waste + 1)
    · go_wp2_with fail
      go_end0
      have h := R.out.2.1
      rw [List.take_of_length_le (by omega)] at h
      exact ⟨rfl, ⟨_, _, h⟩, R.out.2.2⟩
end Go.Proofs.YtlkklaahnkcnkaaDoor.X
