/- Channels of the reference: reply, hear. -/
import Derived.Test.YtlkklaahnkcnkaaDoorO
namespace Go.Proofs.YtlkklaahnkcnkaaDoor.X
open Go.RowKit

def ackF (fs : List Int) (arrived : Bool) (lateA : List Nat) (acc used : Nat) : Fl := if arrived then (⟨lateA, []⟩ : Fl).send acc (fateAt fs used) else ⟨lateA, []⟩
set_option maxRecDepth 100000 in
set_option maxHeartbeats 8000000 in
theorem refReply_calls (base b a many kA : Nat) (A : Option Addr) (w : World) (fs : List Int) (cs : Array Value) (vp va vn vr : Value) (acked : Nat) (rc : Rc) (lateP lateA now : List Nat) (arrived : Bool) (packets acks used : Nat)
    (h : RefC base w b a many A kA fs cs vp va vn vr acked rc lateP lateA now arrived packets acks used) (hl : lateA.length < 100000) (hu : used ≤ 20000000) (hk : acks ≤ 20000000) :
    Calls Tryd.prog 49 #[.pointer (some ⟨b, 0, none⟩), .pointer (some ⟨a, 0, none⟩)] w fun e w' => e = .returned (.tuple #[]) ∧ (∃ cs' va' vn', RefC base w' b a many A kA fs cs' vp va' vn' vr acked rc lateP (ackF fs arrived lateA rc.accepted used).late (ackF fs arrived lateA rc.accepted used).now arrived packets (acks + one? arrived) (used + one? arrived)) ∧ Below base w w' := by
  have H := Lib.hid h
  obtain ⟨A0, n0, k0, e0⟩ := h.ra.slice3
  subst e0
  have g4 := (h.blk.cell 4).trans h.c4
  have g5 := (h.blk.cell 5).trans h.c5
  have g6 := (h.blk.cell 6).trans h.c6
  have gf := h.blk.free
  clear h
  have HT := Lib.hid H.out.turnA
  have HL := Lib.hid ((H.out.base' 5 (.slice A0 n0 k0)).trans (Ch.low (chset _ b 4 (.slice none 0 0)) (by have := H.out.hb; simp; omega) fun k hk e => by have := H.out.lo; omega))
  cases arrived
  · go_enter Tryd.func49, Tryd.ntmps49
    go_wp2_with fail
    go_end0
    exact ⟨rfl, ⟨_, _, _, HT.out⟩, HL.out⟩
  · go_enter Tryd.func49, Tryd.ntmps49
    go_upto_region 2 with (fail)
    go_cut [] (fun W => ∃ (cs : Array Value) (va vn : Value), Hid (RefC base W b a many A kA fs cs vp va vn vr acked rc lateP (ackF fs true lateA rc.accepted used).late (ackF fs true lateA rc.accepted used).now true packets acks (used + 1) ∧ Below base w W))
    case first =>
      clear g4 g5 g6
      have g2 := (HT.out.blk.cell 2).trans HT.out.c2
      have g4 := (HT.out.blk.cell 4).trans HT.out.c4
      have g5 := (HT.out.blk.cell 5).trans HT.out.c5
      go_region_with (first
          | (go_at_call 82; refine (fatesNext_calls a used base fs (by omega) _ HT.out.drew.air).mono ?_; rintro e w1 ⟨rfl, hA1, hB1⟩; have hC1 := HT.out.drew.air' hA1 hB1; have p2 := (hC1.blk.cell 2).trans hC1.c2; have p4 := (hC1.blk.cell 4).trans hC1.c4; have p5 := (hC1.blk.cell 5).trans hC1.c5; have HC1 := Lib.hid hC1; have HB1 := Lib.hid hB1; clear hC1 hA1 hB1)
          | (go_at_call 81; refine (sent_calls base rc.accepted (fateAt fs used) _ _ ⟨lateA, []⟩ _ HC1.out.hb HC1.out.rn HC1.out.ra HC1.out.an.symm (by simp; omega) (by simp)).mono ?_; rintro e w2 ⟨B1, B2, m1, m2, d1, d2, rfl, hr1, hr2, hap, hx1, hx2, hc12⟩; have hb2 := HC1.out.blk.ch hc12 (fun e => (by rcases e with e | e; exact HC1.out.rn.ne HC1.out.blk (by decide) b e rfl; exact HC1.out.ra.ne HC1.out.blk (by decide) b e rfl)); have t4 := (hb2.cell 4).trans HC1.out.c4; have t5 := (hb2.cell 5).trans HC1.out.c5; have tf := hb2.free; have HS := Lib.hid (And.intro hr1 (And.intro hr2 (And.intro hap (And.intro hx1 (And.intro hx2 (And.intro hc12 hb2)))))); clear hr1 hr2 hap hx1 hx2 hc12 hb2))
      all_goals go_wp2_with fail
      all_goals go_meet
      all_goals
        obtain ⟨hr1, hr2, hap, hx1, hx2, hc12, hb2⟩ := HS.out
        have h := HC1.out.sentA hr1 hr2 hap hx1 hx2 hc12 ((chset _ _ _ _).trans (chset _ _ _ _)) ((hb2.set _ _).set _ _) rfl
        have hlow := HL.out.trans ((Below.drew (Below.refl _ _)).trans ((Ch.of_but (S := fun k => k = a) HB1.out rfl).low HT.out.drew.hb fun k hk e => by have := HT.out.air.1; omega))
        exact ⟨_, _, _, Lib.hid ⟨h.1, hlow.trans h.2⟩⟩
    case rest =>
      obtain ⟨cs2, va2, vn2, R2⟩ := hcut
      have HC2 := Lib.hid R2.out.1
      have p9 := (HC2.out.blk.cell 9).trans HC2.out.c9
      have p9' := HC2.out.blk.free 9
      go_wp2_with fail
      go_end0
      have h := HC2.out.acks' (acks + 1)
      exact ⟨rfl, ⟨_, _, _, h⟩, R2.out.2.trans (HC2.out.base' 9 _)⟩
end Go.Proofs.YtlkklaahnkcnkaaDoor.X
