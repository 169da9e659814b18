/- carry, walked. -/
import Derived.Test.YtlkklaahnkcnkaaDoorI
import Derived.IntWalk
namespace Go.Proofs.YtlkklaahnkcnkaaDoor.X
open Go.RowKit

/-- What carry hands back. -/
def CarryPost (w : World) (many rd : Nat) (s : C9) (e : Ending) (w' : World) : Prop :=
  ∃ (A0 A1 A2 A3 A4 : Option Addr) (n0 n1 n2 n3 n4 c0 c1 c2 c3 c4 : Nat) (heard : Bool), e = .returned (.agg #[.int .i64 many, .int .i64 s.acked, .int .i64 s.rc.accepted, .slice A0 n0 c0, .slice A1 n1 c1, .slice A2 n2 c2, .slice A3 n3 c3, .bool heard, .int .i64 s.rc.waste, .int .i64 rd, .int .i64 s.packets, .int .i64 s.acks, .slice A4 n4 c4, .int .i64 s.used, .bool (decide (many ≤ s.acked))]) ∧
    NRow w' w.heap.size (.slice A4 n4 c4) s.rc.rounds ∧ Below w.heap.size w w'
set_option maxRecDepth 100000 in
set_option maxHeartbeats 8000000 in
theorem carry_calls (many window most : Nat) (A : Option Addr) (fs : List Int) (c : Nat) (w : World) (hm : many ≤ 10000) (hw : window ≤ 1000) (hmo : most ≤ 10000) (hc : fs.length ≤ c) (hr : Row kInt w (fun _ => True) A fs) :
    Calls Tryd.prog 62 #[.int .i64 many, .slice A fs.length c, .int .i64 window, .int .i64 most] w (CarryPost w many (carryF fs many window most).1 (carryF fs many window most).2) := by
  have HR := Lib.hid hr
  have hl := hr.1
  clear hr
  go_enter Tryd.func62, Tryd.ntmps62
  go_upto_block 0 with (fail)
  have hrow : Row kInt (((w.alloc (.cells #[.int .i64 0, .int .i64 0, .int .i64 0, .slice none 0 0, .slice none 0 0, .slice none 0 0, .slice none 0 0, .bool false, .int .i64 0, .int .i64 0, .int .i64 0, .int .i64 0, .slice none 0 0, .int .i64 0, .bool false] 90)).alloc (.cells #[.int .i64 many, .int .i64 0, .int .i64 0, .slice none 0 0, .slice none 0 0, .slice none 0 0, .slice none 0 0, .bool false, .int .i64 0, .int .i64 0, .int .i64 0, .int .i64 0, .slice none 0 0, .int .i64 0, .bool false] 90)).alloc (.cells #[.slice A fs.length c, .int .i64 0] 154)) (· < w.heap.size + 1) A fs := ((((HR.out.bound).mono (ok' := fun k => k < w.heap.size + 1) (fun k hk => by have := hk.2; omega)).alloc _).alloc _).alloc _
  have HRow := Lib.hid hrow
  clear hrow
  go_cut [] (fun W => ∃ (s : C9) (rd : Nat) (cs : Array Value) (pn pl an al vr : Value) (heard : Bool), Hid (carryF fs many window most = (rd, s) ∧ CarC (w.heap.size + 1) W (w.heap.size + 1) (w.heap.size + 1 + 1) many fs cs pn pl an al vr s.acked s.rc ⟨s.lateP, []⟩ ⟨s.lateA, []⟩ heard rd s.packets s.acks s.used ∧ Below (w.heap.size + 1) (w.alloc (.cells #[.int .i64 0, .int .i64 0, .int .i64 0, .slice none 0 0, .slice none 0 0, .slice none 0 0, .slice none 0 0, .bool false, .int .i64 0, .int .i64 0, .int .i64 0, .int .i64 0, .slice none 0 0, .int .i64 0, .bool false] 90)) W))
  case first =>
    go_wp2
    go_loopg [] most (fun kq W => ∃ (s : C9) (rd : Nat) (cs : Array Value) (pn pl an al vr : Value) (heard : Bool), Hid (kq + rd = most ∧ C9.run fs many window kq rd s = carryF fs many window most ∧ s.Ok many window rd ∧ CarC (w.heap.size + 1) W (w.heap.size + 1) (w.heap.size + 1 + 1) many fs cs pn pl an al vr s.acked s.rc ⟨s.lateP, []⟩ ⟨s.lateA, []⟩ heard rd s.packets s.acks s.used ∧ Below (w.heap.size + 1) (w.alloc (.cells #[.int .i64 0, .int .i64 0, .int .i64 0, .slice none 0 0, .slice none 0 0, .slice none 0 0, .slice none 0 0, .bool false, .int .i64 0, .int .i64 0, .int .i64 0, .int .i64 0, .slice none 0 0, .int .i64 0, .bool false] 90)) W))
    case atStart =>
      have hb : Blk (((w.alloc (.cells #[.int .i64 0, .int .i64 0, .int .i64 0, .slice none 0 0, .slice none 0 0, .slice none 0 0, .slice none 0 0, .bool false, .int .i64 0, .int .i64 0, .int .i64 0, .int .i64 0, .slice none 0 0, .int .i64 0, .bool false] 90)).alloc (.cells #[.int .i64 many, .int .i64 0, .int .i64 0, .slice none 0 0, .slice none 0 0, .slice none 0 0, .slice none 0 0, .bool false, .int .i64 0, .int .i64 0, .int .i64 0, .int .i64 0, .slice none 0 0, .int .i64 0, .bool false] 90)).alloc (.cells #[.slice A fs.length c, .int .i64 0] 154)) (w.heap.size + 1) #[.int .i64 many, .int .i64 0, .int .i64 0, .slice none 0 0, .slice none 0 0, .slice none 0 0, .slice none 0 0, .bool false, .int .i64 0, .int .i64 0, .int .i64 0, .int .i64 0, .slice none 0 0, .int .i64 0, .bool false] 90 := by
        have h := (Blk.new (w.alloc (.cells #[.int .i64 0, .int .i64 0, .int .i64 0, .slice none 0 0, .slice none 0 0, .slice none 0 0, .slice none 0 0, .bool false, .int .i64 0, .int .i64 0, .int .i64 0, .int .i64 0, .slice none 0 0, .int .i64 0, .bool false] 90)) #[.int .i64 many, .int .i64 0, .int .i64 0, .slice none 0 0, .slice none 0 0, .slice none 0 0, .slice none 0 0, .bool false, .int .i64 0, .int .i64 0, .int .i64 0, .int .i64 0, .slice none 0 0, .int .i64 0, .bool false] 90).alloc (.cells #[.slice A fs.length c, .int .i64 0] 154)
        simpa using h
      have ha : Blk (((w.alloc (.cells #[.int .i64 0, .int .i64 0, .int .i64 0, .slice none 0 0, .slice none 0 0, .slice none 0 0, .slice none 0 0, .bool false, .int .i64 0, .int .i64 0, .int .i64 0, .int .i64 0, .slice none 0 0, .int .i64 0, .bool false] 90)).alloc (.cells #[.int .i64 many, .int .i64 0, .int .i64 0, .slice none 0 0, .slice none 0 0, .slice none 0 0, .slice none 0 0, .bool false, .int .i64 0, .int .i64 0, .int .i64 0, .int .i64 0, .slice none 0 0, .int .i64 0, .bool false] 90)).alloc (.cells #[.slice A fs.length c, .int .i64 0] 154)) (w.heap.size + 1 + 1) #[.slice A fs.length c, .int .i64 0] 154 := by
        have h := Blk.new ((w.alloc (.cells #[.int .i64 0, .int .i64 0, .int .i64 0, .slice none 0 0, .slice none 0 0, .slice none 0 0, .slice none 0 0, .bool false, .int .i64 0, .int .i64 0, .int .i64 0, .int .i64 0, .slice none 0 0, .int .i64 0, .bool false] 90)).alloc (.cells #[.int .i64 many, .int .i64 0, .int .i64 0, .slice none 0 0, .slice none 0 0, .slice none 0 0, .slice none 0 0, .bool false, .int .i64 0, .int .i64 0, .int .i64 0, .int .i64 0, .slice none 0 0, .int .i64 0, .bool false] 90)) #[.slice A fs.length c, .int .i64 0] 154
        simpa using h
      have none_apart : ∀ u : Value, Apart (.slice none 0 0) u := fun u k hk => by simp [Value.ownBlock] at hk
      refine ⟨C9.start, 0, #[.int .i64 many, .int .i64 0, .int .i64 0, .slice none 0 0, .slice none 0 0, .slice none 0 0, .slice none 0 0, .bool false, .int .i64 0, .int .i64 0, .int .i64 0, .int .i64 0, .slice none 0 0, .int .i64 0, .bool false], .slice none 0 0, .slice none 0 0, .slice none 0 0, .slice none 0 0, .slice none 0 0, false, Lib.hid ⟨by omega, rfl, C9.start_ok _ _, ⟨rfl, ⟨hb, Nat.le_refl _, by decide, rfl, rfl, NRow.nil _ _, NRow.nil _ _, none_apart _⟩, ⟨hb, Nat.le_refl _, by decide, rfl, rfl, NRow.nil _ _, NRow.nil _ _, none_apart _⟩, ⟨rfl, rfl, rfl, rfl, rfl⟩, rfl, rfl, rfl, rfl, rfl, rfl, NRow.nil _ _, ⟨by omega, A, c, ha, hc, HRow.out⟩, by omega, none_apart _, none_apart _, none_apart _, none_apart _, none_apart _, none_apart _, none_apart _, none_apart _⟩, ((Below.refl _ _).alloc (by simp) _).alloc (by simp) _⟩⟩
    case round =>
      obtain ⟨s, rd, cs, pn, pl, an, al, vr, heard, R⟩ := hrel
      have hkq := R.out.1
      have hOk := R.out.2.2.1
      have hC := R.out.2.2.2.1
      have q1 := (hC.fp.blk.cell 1).trans hC.cc.acked
      have q9 := (hC.fp.blk.cell 9).trans hC.c9
      have q10 := (hC.fp.blk.cell 10).trans hC.c10
      have b1 := hOk.acked
      have b3 := hOk.acc
      have b4 := hOk.lenP
      have b5 := hOk.lenA
      have b6 := hOk.rounds
      have HOk := Lib.hid hOk
      have HC := Lib.hid hC
      clear hC hOk
      by_cases hAB : s.acked < many ∧ rd < most
      · obtain ⟨hA, hB⟩ := hAB
        · obtain ⟨b7, b8, b9, b10⟩ := HOk.out.small hw (by omega)
          have bc := s.cnt_le many window
          have hp := HOk.out.pkOk fs
          have bp := hp.2.2.1
          have bl := hp.2.2.2
          go_upto_region 4 with (fail)
          go_cut [] (fun W => ∃ cs pn pl, Hid (CarC (w.heap.size + 1) W (w.heap.size + 1) (w.heap.size + 1 + 1) many fs cs pn pl an al vr s.acked s.rc (s.pk fs many window) ⟨s.lateA, []⟩ heard rd (s.packets + s.cnt many window) s.acks (s.used + s.cnt many window) ∧ Below (w.heap.size + 1) (w.alloc (.cells #[.int .i64 0, .int .i64 0, .int .i64 0, .slice none 0 0, .slice none 0 0, .slice none 0 0, .slice none 0 0, .bool false, .int .i64 0, .int .i64 0, .int .i64 0, .int .i64 0, .slice none 0 0, .int .i64 0, .bool false] 90)) W))
          case first =>
            go_region_with (go_at_call 94; refine (chanSend_calls (w.heap.size + 1) 90 (w.heap.size + 1 + 1) (w.heap.size + 1) s.used many s.acked s.rc.accepted s.rc.waste window heard cs pn pl ⟨s.lateP, []⟩ fs HC.out.cc (by omega) (by omega) (by omega) (by omega) (by simp; omega) (by simp) _ HC.out.drew.fp HC.out.drew.air HC.out.ab).mono ?_; rintro e w2 ⟨rfl, h2⟩; obtain ⟨⟨cs2, pn2, pl2, hC2⟩, hB2⟩ := HC.out.drew.send h2; have p10 := (hC2.fp.blk.cell 10).trans hC2.c10; have p10' := hC2.fp.blk.free 10; have HC2 := Lib.hid hC2; have HB2 := Lib.hid hB2; clear hC2 hB2 h2)
            all_goals
              go_wp2_with fail
              go_meet
              have ew : IntKind.i64.wrap ((s.packets : Int) + ((min many (s.acked + window) - s.acked : Nat) : Int)) = ((s.packets + s.cnt many window : Nat) : Int) := by rw [IntWalk.i64_in _ (by omega)]; unfold C9.cnt; omega
              have h := HC2.out.put (i := 10) (.inr (.inl rfl)) (s.packets + s.cnt many window)
              rw [← ew] at h
              exact ⟨_, _, _, Lib.hid ⟨h.1, (R.out.2.2.2.2.trans (Below.drew (Below.refl _ _))).trans (HB2.out.trans h.2)⟩⟩
          case rest =>
            obtain ⟨cs1, pn1, pl1, R1⟩ := hcut
            have HC1 := Lib.hid R1.out.1
            have hacc1 := Rc.all_le (rd := rd) _ _ hp.1 HOk.out.acc
            have hok1 := s.rc.all_ok rd (s.pk fs many window).now
            have Hok1 := Lib.hid hok1
            clear hok1
            go_wp2_with (go_at_call 95; go_must (refine (receive_calls (w.heap.size + 1) (w.heap.size + 1) rd many s.acked heard cs1 pn1 pl1 vr (s.pk fs many window) s.rc _ HC1.out.fp HC1.out.cc HC1.out.c9 HC1.out.c12 HC1.out.rr (Nat.le_trans HC1.out.air.1 (Nat.le_of_lt HC1.out.air.lt)) HC1.out.rn HC1.out.rl (by omega) (by omega) (by omega)).mono ?_; rintro e w3 ⟨rfl, h3⟩; obtain ⟨⟨cs3, vr3, hC3⟩, hB3⟩ := HC1.out.recv h3; have q11 := (hC3.fp.blk.cell 11).trans hC3.c11; have HC3 := Lib.hid hC3; have HB3 := Lib.hid hB3; clear hC3 hB3 h3))
            go_upto_region 6 with (fail)
            go_cut [] (fun W => ∃ cs an al, Hid (CarC (w.heap.size + 1) W (w.heap.size + 1) (w.heap.size + 1 + 1) many fs cs pl1 (.slice none 0 0) an al vr3 s.acked (s.rc' fs many window rd) ⟨(s.pk fs many window).late, []⟩ (s.ak fs many window rd) (s.heard fs many window) rd (s.packets + s.cnt many window) (s.acks + one? (s.heard fs many window)) (s.used + s.cnt many window + one? (s.heard fs many window)) ∧ Below (w.heap.size + 1) (w.alloc (.cells #[.int .i64 0, .int .i64 0, .int .i64 0, .slice none 0 0, .slice none 0 0, .slice none 0 0, .slice none 0 0, .bool false, .int .i64 0, .int .i64 0, .int .i64 0, .int .i64 0, .slice none 0 0, .int .i64 0, .bool false] 90)) W))
            case first =>
              have ho := one?_le (s.heard fs many window)
              go_region_with (go_at_call 97; refine (answer_calls (w.heap.size + 1) 90 (w.heap.size + 1 + 1) (w.heap.size + 1) (s.used + s.cnt many window) many s.acked (s.rc' fs many window rd).accepted (s.rc' fs many window rd).waste (s.heard fs many window) cs3 an al ⟨s.lateA, []⟩ fs HC3.out.cc (by omega) (by simp; omega) (by simp) _ HC3.out.drew.fa HC3.out.drew.air HC3.out.ab).mono ?_; rintro e w4 ⟨rfl, h4⟩; obtain ⟨⟨cs4, an4, al4, hC4⟩, hB4⟩ := HC3.out.drew.answer h4; have p11 := (hC4.fp.blk.cell 11).trans hC4.c11; have p11' := hC4.fp.blk.free 11; have HC4 := Lib.hid hC4; have HB4 := Lib.hid hB4; clear hC4 hB4 h4)
              all_goals
                go_wp2_with fail
                go_meet
                have ew : IntKind.i64.wrap ((s.acks : Int) + (one? (s.heard fs many window) : Nat)) = ((s.acks + one? (s.heard fs many window) : Nat) : Int) := by rw [IntWalk.i64_in _ (by omega)]; omega
                have h := HC4.out.put (i := 11) (.inr (.inr rfl)) (s.acks + one? (s.heard fs many window))
                rw [← ew] at h
                exact ⟨_, _, _, Lib.hid ⟨h.1, (R1.out.2.trans HB3.out).trans ((Below.drew (Below.refl _ _)).trans (HB4.out.trans h.2))⟩⟩
            case rest =>
              obtain ⟨cs4, an4, al4, R4⟩ := hcut
              have HC4 := Lib.hid R4.out.1
              have ha := HOk.out.akOk fs
              have ha3 := ha.2.2.1
              go_wp2_with (go_at_call 98; go_must (refine (hear_calls (w.heap.size + 1) 90 (w.heap.size + 1) many s.acked _ _ _ cs4 an4 al4 (s.ak fs many window rd) HC4.out.cc (by omega) _ HC4.out.fa).mono ?_; rintro e w5 ⟨rfl, hF5, hB5⟩; obtain ⟨⟨cs5, hC5⟩, hL5⟩ := HC4.out.hear hF5 hB5; have r9 := (hC5.fp.blk.cell 9).trans hC5.c9; have r9' := hC5.fp.blk.free 9; have HC5 := Lib.hid hC5; have HL5 := Lib.hid hL5; clear hC5 hL5 hF5 hB5))
              go_roundg (gk - 1)
              case measure => omega
              case rel =>
                have h := HC5.out.put (i := 9) (.inl rfl) (rd + 1)
                obtain ⟨k, rfl⟩ : ∃ k, gk = k + 1 := ⟨gk - 1, by omega⟩
                exact ⟨s.round fs many window rd, rd + 1, _, _, _, _, _, _, _, Lib.hid ⟨by omega, (C9.run_step hA).symm.trans R.out.2.1, HOk.out.round fs, h.1, R4.out.2.trans (HL5.out.trans h.2)⟩⟩
      · have hend := Lib.hid (C9.run_end (fs := fs) (window := window) (rd := rd) (s := s) (k := gk) (many := many) (by omega))
        rcases Nat.lt_or_ge s.acked many with hA' | hA'
        all_goals
          go_wp2
          go_meet
          exact ⟨s, rd, cs, pn, pl, an, al, vr, heard, Lib.hid ⟨R.out.2.1.symm.trans hend.out, HC.out, R.out.2.2.2.2⟩⟩
  case rest =>
    obtain ⟨s, rd, cs, pn, pl, an, al, vr, heard, R⟩ := hcut
    have HC := Lib.hid R.out.2.1
    have q1 := (HC.out.fp.blk.cell 1).trans HC.out.cc.acked
    have q9 := (HC.out.fp.blk.cell 9).trans HC.out.c9
    have q10 := (HC.out.fp.blk.cell 10).trans HC.out.c10
    have hC := HC.out
    have hR : Blk wc w.heap.size #[.int .i64 0, .int .i64 0, .int .i64 0, .slice none 0 0, .slice none 0 0, .slice none 0 0, .slice none 0 0, .bool false, .int .i64 0, .int .i64 0, .int .i64 0, .int .i64 0, .slice none 0 0, .int .i64 0, .bool false] 90 := (R.out.2.2.block w.heap.size (by omega)).trans (Blk.new w _ _)
    obtain ⟨A0, n0, k0, e0⟩ := hC.fp.rnow.slice3
    obtain ⟨A1, n1, k1, e1⟩ := hC.fp.rlate.slice3
    obtain ⟨A2, n2, k2, e2⟩ := hC.fa.rnow.slice3
    obtain ⟨A3, n3, k3, e3⟩ := hC.fa.rlate.slice3
    obtain ⟨A4, n4, k4, e4⟩ := hC.rr.slice3
    subst e0 e1 e2 e3 e4
    obtain ⟨-, A5, k5, hAb, -⟩ := hC.air
    obtain ⟨u1, -⟩ := hAb.c1
    have p0 := (hC.fp.blk.cell 0).trans hC.cc.many
    have p2 := (hC.fp.blk.cell 2).trans hC.cc.acc
    have p3 := (hC.fp.blk.cell 3).trans hC.fp.now
    have p4 := (hC.fp.blk.cell 4).trans hC.fp.late
    have p5 := (hC.fp.blk.cell 5).trans hC.fa.now
    have p6 := (hC.fp.blk.cell 6).trans hC.fa.late
    have p7 := (hC.fp.blk.cell 7).trans hC.cc.heard
    have p8 := (hC.fp.blk.cell 8).trans hC.cc.waste
    have p11 := (hC.fp.blk.cell 11).trans hC.c11
    have p12 := (hC.fp.blk.cell 12).trans hC.c12
    have p13 := (hC.fp.blk.cell 13).trans hC.c13
    have p14 := (hC.fp.blk.cell 14).trans hC.c14
    have z0 : wc.cell? ⟨w.heap.size, 0, none⟩ = some (.int .i64 0) := (hR.cell 0).trans rfl
    have z1 : wc.cell? ⟨w.heap.size, 1, none⟩ = some (.int .i64 0) := (hR.cell 1).trans rfl
    have z2 : wc.cell? ⟨w.heap.size, 2, none⟩ = some (.int .i64 0) := (hR.cell 2).trans rfl
    have z3 : wc.cell? ⟨w.heap.size, 3, none⟩ = some (.slice none 0 0) := (hR.cell 3).trans rfl
    have z4 : wc.cell? ⟨w.heap.size, 4, none⟩ = some (.slice none 0 0) := (hR.cell 4).trans rfl
    have z5 : wc.cell? ⟨w.heap.size, 5, none⟩ = some (.slice none 0 0) := (hR.cell 5).trans rfl
    have z6 : wc.cell? ⟨w.heap.size, 6, none⟩ = some (.slice none 0 0) := (hR.cell 6).trans rfl
    have z7 : wc.cell? ⟨w.heap.size, 7, none⟩ = some (.bool false) := (hR.cell 7).trans rfl
    have z8 : wc.cell? ⟨w.heap.size, 8, none⟩ = some (.int .i64 0) := (hR.cell 8).trans rfl
    have z9 : wc.cell? ⟨w.heap.size, 9, none⟩ = some (.int .i64 0) := (hR.cell 9).trans rfl
    have z10 : wc.cell? ⟨w.heap.size, 10, none⟩ = some (.int .i64 0) := (hR.cell 10).trans rfl
    have z11 : wc.cell? ⟨w.heap.size, 11, none⟩ = some (.int .i64 0) := (hR.cell 11).trans rfl
    have z12 : wc.cell? ⟨w.heap.size, 12, none⟩ = some (.slice none 0 0) := (hR.cell 12).trans rfl
    have z13 : wc.cell? ⟨w.heap.size, 13, none⟩ = some (.int .i64 0) := (hR.cell 13).trans rfl
    have z14 : wc.cell? ⟨w.heap.size, 14, none⟩ = some (.bool false) := (hR.cell 14).trans rfl
    have zf := hR.free
    have pf := hC.fp.blk.free
    have HRr := Lib.hid hR
    clear hAb hR hC
    go_wp2
    go_region
    go_wp2
    have hch0 : Ch (fun k => k = w.heap.size + 1) wc ((wc.setCell ⟨w.heap.size + 1, 13, none⟩ (.int .i64 s.used)).setCell ⟨w.heap.size + 1, 14, none⟩ (.bool (decide (many ≤ s.acked)))) := ((Ch.refl (fun k => k = w.heap.size + 1) wc).set (p := ⟨w.heap.size + 1, 13, none⟩) (.inl rfl) _).set (p := ⟨w.heap.size + 1, 14, none⟩) (.inl rfl) _
    have hRf := ((HRr.out.ch hch0 (by omega)).stored [.int .i64 many, .int .i64 s.acked, .int .i64 s.rc.accepted, .slice A0 n0 k0, .slice A1 n1 k1, .slice A2 n2 k2, .slice A3 n3 k3, .bool heard, .int .i64 s.rc.waste, .int .i64 rd, .int .i64 s.packets, .int .i64 s.acks, .slice A4 n4 k4, .int .i64 s.used, .bool (decide (many ≤ s.acked))] rfl)
    have hch := (Ch.setsW (S := fun k => k = w.heap.size + 1 ∨ k = w.heap.size) (b := w.heap.size) [.int .i64 many, .int .i64 s.acked, .int .i64 s.rc.accepted, .slice A0 n0 k0, .slice A1 n1 k1, .slice A2 n2 k2, .slice A3 n3 k3, .bool heard, .int .i64 s.rc.waste, .int .i64 rd, .int .i64 s.packets, .int .i64 s.acks, .slice A4 n4 k4, .int .i64 s.used, .bool (decide (many ≤ s.acked))] 0 (hch0.mono fun _ _ e => .inl e) (.inl (.inr rfl)))
    simp only [setsW, Nat.zero_add, Nat.reduceAdd] at hRf hch
    generalize World.setCell _ ⟨w.heap.size, 14, none⟩ _ = Wf at hRf hch ⊢
    have y0 : Wf.cell? ⟨w.heap.size, 0, none⟩ = some (.int .i64 many) := (hRf.cell 0).trans rfl
    have y1 : Wf.cell? ⟨w.heap.size, 1, none⟩ = some (.int .i64 s.acked) := (hRf.cell 1).trans rfl
    have y2 : Wf.cell? ⟨w.heap.size, 2, none⟩ = some (.int .i64 s.rc.accepted) := (hRf.cell 2).trans rfl
    have y3 : Wf.cell? ⟨w.heap.size, 3, none⟩ = some (.slice A0 n0 k0) := (hRf.cell 3).trans rfl
    have y4 : Wf.cell? ⟨w.heap.size, 4, none⟩ = some (.slice A1 n1 k1) := (hRf.cell 4).trans rfl
    have y5 : Wf.cell? ⟨w.heap.size, 5, none⟩ = some (.slice A2 n2 k2) := (hRf.cell 5).trans rfl
    have y6 : Wf.cell? ⟨w.heap.size, 6, none⟩ = some (.slice A3 n3 k3) := (hRf.cell 6).trans rfl
    have y7 : Wf.cell? ⟨w.heap.size, 7, none⟩ = some (.bool heard) := (hRf.cell 7).trans rfl
    have y8 : Wf.cell? ⟨w.heap.size, 8, none⟩ = some (.int .i64 s.rc.waste) := (hRf.cell 8).trans rfl
    have y9 : Wf.cell? ⟨w.heap.size, 9, none⟩ = some (.int .i64 rd) := (hRf.cell 9).trans rfl
    have y10 : Wf.cell? ⟨w.heap.size, 10, none⟩ = some (.int .i64 s.packets) := (hRf.cell 10).trans rfl
    have y11 : Wf.cell? ⟨w.heap.size, 11, none⟩ = some (.int .i64 s.acks) := (hRf.cell 11).trans rfl
    have y12 : Wf.cell? ⟨w.heap.size, 12, none⟩ = some (.slice A4 n4 k4) := (hRf.cell 12).trans rfl
    have y13 : Wf.cell? ⟨w.heap.size, 13, none⟩ = some (.int .i64 s.used) := (hRf.cell 13).trans rfl
    have y14 : Wf.cell? ⟨w.heap.size, 14, none⟩ = some (.bool (decide (many ≤ s.acked))) := (hRf.cell 14).trans rfl
    refine bodyPost_ret (v := .agg #[.int .i64 many, .int .i64 s.acked, .int .i64 s.rc.accepted, .slice A0 n0 k0, .slice A1 n1 k1, .slice A2 n2 k2, .slice A3 n3 k3, .bool heard, .int .i64 s.rc.waste, .int .i64 rd, .int .i64 s.packets, .int .i64 s.acks, .slice A4 n4 k4, .int .i64 s.used, .bool (decide (many ≤ s.acked))]) ?_ rfl ?_
    · simp [results, Tryd.results62, go_sem, y0, y1, y2, y3, y4, y5, y6, y7, y8, y9, y10, y11, y12, y13, y14]
    · refine ⟨A0, A1, A2, A3, A4, n0, n1, n2, n3, n4, k0, k1, k2, k3, k4, heard, ?_, ?_, ?_⟩
      · rw [R.out.1]
      · have h1 := HC.out.rr.ch hch (fun k hk e => by
          rcases e with e | e
          · exact HC.out.rr.ne HC.out.fp.blk (by decide) k hk e
          · have := HC.out.rr.base k hk; omega)
        rw [R.out.1]
        exact ⟨h1.1, by
          rcases h1.2 with h2 | ⟨g, cap, cur, h2, h3, h4⟩
          · exact .inl h2
          · exact .inr ⟨g, cap, cur, h2, by omega, h4⟩⟩
      · have hb := R.out.2.2
        exact ((Below.refl _ w).alloc (Nat.le_refl _) _).trans ((hb.mono (by omega)).trans (hch.low (B := w.heap.size) (by have := hb.size; simp at this; omega) (fun k hk e => by rcases e with e | e <;> omega)).drew)
end Go.Proofs.YtlkklaahnkcnkaaDoor.X
