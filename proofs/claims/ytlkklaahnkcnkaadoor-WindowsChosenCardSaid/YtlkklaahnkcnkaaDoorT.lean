/- CarriedBy, walked. -/
import Derived.Test.YtlkklaahnkcnkaaDoorP
import Derived.Test.YtlkklaahnkcnkaaDoorQ
import Derived.Test.YtlkklaahnkcnkaaDoorW
import Derived.Deep.RegionHeld3
namespace Go.Proofs.YtlkklaahnkcnkaaDoor.X
open Go.RowKit

/-- What CarriedBy hands back. -/
def CarriedPost (w : World) (xs : List Lt) (rd : Nat) (s : C9) (e : Ending) (w' : World) : Prop :=
  ∃ v1 v2, e = .returned (.tuple #[v1, v2, .agg #[.int .i64 rd, .int .i64 s.packets, .int .i64 s.acks], .int .i64 s.rc.waste, .bool (decide (xs.length ≤ s.acked))]) ∧ Own kLt 47 w' w.heap.size (fun _ => True) v1 (xs.take s.rc.accepted) ∧ NRow w' w.heap.size v2 s.rc.rounds ∧ Below w.heap.size w w'
set_option maxRecDepth 100000 in
set_option maxHeartbeats 8000000 in
theorem carriedBy_calls (A B : Option Addr) (xs : List Lt) (fs : List Int) (c c2 window most : Nat) (w : World) (hr : Row kLt w (fun _ => True) A xs) (hA : A = none → c = 0) (hcx : xs.length ≤ c) (hf : Row kInt w (fun _ => True) B fs) (hc : fs.length ≤ c2) (hm : xs.length ≤ 10000) (hw : window ≤ 1000) (hmo : most ≤ 10000) :
    Calls Tryd.prog 17 #[.slice A xs.length c, .slice B fs.length c2, .int .i64 window, .int .i64 most] w (CarriedPost w xs (carryF fs xs.length window most).1 (carryF fs xs.length window most).2) := by
  have HR := Lib.hid hr
  have HF := Lib.hid hf
  clear hr hf
  go_enter Tryd.func17, Tryd.ntmps17
  go_upto_block 0 with (fail)
  have hrow : Row kInt (((w.alloc (.cells #[.int .i64 0, .int .i64 0, .int .i64 0] 36)).alloc (.cells #[.slice A xs.length c, .int .i64 0, .int .i64 0, .slice none 0 0, .slice none 0 0, .slice none 0 0, .bool false, .slice none 0 0, .int .i64 0, .int .i64 0, .int .i64 0] 95)).alloc (.cells #[.slice B fs.length c2, .int .i64 0] 98)) (· < w.heap.size + 1) B fs := ((((HF.out.bound).mono (ok' := fun k => k < w.heap.size + 1) (fun k hk => by have := hk.2; omega)).alloc _).alloc _).alloc _
  have HRow := Lib.hid hrow
  clear hrow
  go_cut [15] (fun n W => ∃ (s : C9) (rd : Nat) (cs : Array Value) (vp va vn vr : Value) (now : List Nat) (arrived : Bool), n = .int .i64 rd ∧ Hid (carryF fs xs.length window most = (rd, s) ∧ RefC (w.heap.size + 1) W (w.heap.size + 1) (w.heap.size + 1 + 1) xs.length A c fs cs vp va vn vr s.acked s.rc s.lateP s.lateA now arrived s.packets s.acks s.used ∧ Below (w.heap.size + 1) (w.alloc (.cells #[.int .i64 0, .int .i64 0, .int .i64 0] 36)) W))
  case first =>
    go_wp2
    go_loopg [15] most (fun kq n W => ∃ (s : C9) (rd : Nat) (cs : Array Value) (vp va vn vr : Value) (now : List Nat) (arrived : Bool), n = .int .i64 rd ∧ Hid (kq + rd = most ∧ C9.run fs xs.length window kq rd s = carryF fs xs.length window most ∧ s.Ok xs.length window rd ∧ RefC (w.heap.size + 1) W (w.heap.size + 1) (w.heap.size + 1 + 1) xs.length A c fs cs vp va vn vr s.acked s.rc s.lateP s.lateA now arrived s.packets s.acks s.used ∧ Below (w.heap.size + 1) (w.alloc (.cells #[.int .i64 0, .int .i64 0, .int .i64 0] 36)) W))
    case atStart =>
      have hb : Blk (((w.alloc (.cells #[.int .i64 0, .int .i64 0, .int .i64 0] 36)).alloc (.cells #[.slice A xs.length c, .int .i64 0, .int .i64 0, .slice none 0 0, .slice none 0 0, .slice none 0 0, .bool false, .slice none 0 0, .int .i64 0, .int .i64 0, .int .i64 0] 95)).alloc (.cells #[.slice B fs.length c2, .int .i64 0] 98)) (w.heap.size + 1) #[.slice A xs.length c, .int .i64 0, .int .i64 0, .slice none 0 0, .slice none 0 0, .slice none 0 0, .bool false, .slice none 0 0, .int .i64 0, .int .i64 0, .int .i64 0] 95 := by
        have h := (Blk.new (w.alloc (.cells #[.int .i64 0, .int .i64 0, .int .i64 0] 36)) #[.slice A xs.length c, .int .i64 0, .int .i64 0, .slice none 0 0, .slice none 0 0, .slice none 0 0, .bool false, .slice none 0 0, .int .i64 0, .int .i64 0, .int .i64 0] 95).alloc (.cells #[.slice B fs.length c2, .int .i64 0] 98)
        simpa using h
      have ha : Blk (((w.alloc (.cells #[.int .i64 0, .int .i64 0, .int .i64 0] 36)).alloc (.cells #[.slice A xs.length c, .int .i64 0, .int .i64 0, .slice none 0 0, .slice none 0 0, .slice none 0 0, .bool false, .slice none 0 0, .int .i64 0, .int .i64 0, .int .i64 0] 95)).alloc (.cells #[.slice B fs.length c2, .int .i64 0] 98)) (w.heap.size + 1 + 1) #[.slice B fs.length c2, .int .i64 0] 98 := by
        have h := Blk.new ((w.alloc (.cells #[.int .i64 0, .int .i64 0, .int .i64 0] 36)).alloc (.cells #[.slice A xs.length c, .int .i64 0, .int .i64 0, .slice none 0 0, .slice none 0 0, .slice none 0 0, .bool false, .slice none 0 0, .int .i64 0, .int .i64 0, .int .i64 0] 95)) #[.slice B fs.length c2, .int .i64 0] 98
        simpa using h
      refine ⟨C9.start, 0, #[.slice A xs.length c, .int .i64 0, .int .i64 0, .slice none 0 0, .slice none 0 0, .slice none 0 0, .bool false, .slice none 0 0, .int .i64 0, .int .i64 0, .int .i64 0], .slice none 0 0, .slice none 0 0, .slice none 0 0, .slice none 0 0, [], false, rfl, Lib.hid ⟨by omega, rfl, C9.start_ok _ _, ⟨rfl, hb, Nat.le_refl _, rfl, rfl, rfl, rfl, rfl, rfl, rfl, rfl, rfl, rfl, rfl, NRow.nil _ _, NRow.nil _ _, NRow.nil _ _, NRow.nil _ _, ⟨by omega, B, c2, ha, hc, HRow.out⟩, by omega, none_apart _, none_apart _, none_apart _, none_apart _, none_apart _, none_apart _⟩, ((Below.refl _ _).alloc (by simp) _).alloc (by simp) _⟩⟩
    case round =>
      obtain ⟨s, rd, cs, vp, va, vn, vr, now, arrived, rfl, R⟩ := hrel
      have hkq := R.out.1
      have hOk := R.out.2.2.1
      have hC := R.out.2.2.2.1
      have q1 := (hC.blk.cell 1).trans hC.c1
      have b1 := hOk.acked
      have b3 := hOk.acc
      have b4 := hOk.lenP
      have b5 := hOk.lenA
      have b6 := hOk.rounds
      have HOk := Lib.hid hOk
      have HC := Lib.hid hC
      clear hC hOk
      by_cases hAB : s.acked < xs.length ∧ rd < most
      · obtain ⟨hA, hB⟩ := hAB
        obtain ⟨b7, b8, b9, b10⟩ := HOk.out.small hw (by omega)
        have bc := s.cnt_le xs.length window
        have hp := HOk.out.pkOk fs
        have bp := hp.2.2.1
        have bl := hp.2.2.2
        have hacc1 := Rc.all_le (rd := rd) _ _ hp.1 HOk.out.acc
        have ha := HOk.out.akOk fs (rd := rd)
        have ha3 := ha.2.2.1
        have ho := one?_le (s.heard fs xs.length window)
        go_wp2_with (first
          | (go_at_call 47; go_must (refine (refSend_calls (w.heap.size + 1) (w.heap.size + 1) (w.heap.size + 1 + 1) xs.length c window A _ fs cs vp va vn vr s.acked s.rc s.lateP s.lateA now arrived s.packets s.acks s.used HC.out hm (by omega) (by omega) (by omega) (by omega) (by omega)).mono ?_; rintro e w1 ⟨rfl, ⟨cs1, vp1, vn1, h1⟩, hl1⟩; have HC1 := Lib.hid (show RefC (w.heap.size + 1) w1 (w.heap.size + 1) (w.heap.size + 1 + 1) xs.length A c fs cs1 vp1 va vn1 vr s.acked s.rc (s.pk fs xs.length window).late s.lateA (s.pk fs xs.length window).now arrived (s.packets + s.cnt xs.length window) s.acks (s.used + s.cnt xs.length window) from h1); have HL1 := Lib.hid hl1; clear h1 hl1))
          | (go_at_call 48; go_must (refine (refArrive_calls (w.heap.size + 1) (w.heap.size + 1) (w.heap.size + 1 + 1) xs.length c rd A _ fs cs1 vp1 va vn1 vr s.acked s.rc (s.pk fs xs.length window).late s.lateA (s.pk fs xs.length window).now arrived _ _ _ HC1.out (by omega) (by omega) (by omega)).mono ?_; rintro e w2 ⟨rfl, ⟨cs2, vr2, h2⟩, hl2⟩; have HC2 := Lib.hid (show RefC (w.heap.size + 1) w2 (w.heap.size + 1) (w.heap.size + 1 + 1) xs.length A c fs cs2 vp1 va vn1 vr2 s.acked (s.rc' fs xs.length window rd) (s.pk fs xs.length window).late s.lateA (s.pk fs xs.length window).now (s.heard fs xs.length window) (s.packets + s.cnt xs.length window) s.acks (s.used + s.cnt xs.length window) from h2); have HL2 := Lib.hid hl2; clear h2 hl2))
          | (go_at_call 49; go_must (refine (refReply_calls (w.heap.size + 1) (w.heap.size + 1) (w.heap.size + 1 + 1) xs.length c A _ fs cs2 vp1 va vn1 vr2 s.acked (s.rc' fs xs.length window rd) (s.pk fs xs.length window).late s.lateA (s.pk fs xs.length window).now (s.heard fs xs.length window) _ _ _ HC2.out (by omega) (by omega) (by omega)).mono ?_; rintro e w3 ⟨rfl, ⟨cs3, va3, vn3, h3⟩, hl3⟩; have HC3 := Lib.hid (show RefC (w.heap.size + 1) w3 (w.heap.size + 1) (w.heap.size + 1 + 1) xs.length A c fs cs3 vp1 va3 vn3 vr2 s.acked (s.rc' fs xs.length window rd) (s.pk fs xs.length window).late (s.ak fs xs.length window rd).late (s.ak fs xs.length window rd).now (s.heard fs xs.length window) (s.packets + s.cnt xs.length window) (s.acks + one? (s.heard fs xs.length window)) (s.used + s.cnt xs.length window + one? (s.heard fs xs.length window)) from h3); have HL3 := Lib.hid hl3; clear h3 hl3))
          | (go_at_call 50; go_must (refine (refHear_calls (w.heap.size + 1) (w.heap.size + 1) (w.heap.size + 1 + 1) xs.length c A _ fs cs3 vp1 va3 vn3 vr2 s.acked (s.rc' fs xs.length window rd) (s.pk fs xs.length window).late (s.ak fs xs.length window rd).late (s.ak fs xs.length window rd).now (s.heard fs xs.length window) _ _ _ HC3.out (by omega)).mono ?_; rintro e w4 ⟨rfl, ⟨cs4, h4⟩, hl4⟩; have HC4 := Lib.hid h4; have HL4 := Lib.hid hl4; clear h4 hl4)))
        go_roundg (gk - 1)
        case measure => omega
        case rel =>
          obtain ⟨k, rfl⟩ : ∃ k, gk = k + 1 := ⟨gk - 1, by omega⟩
          exact ⟨s.round fs xs.length window rd, rd + 1, _, _, _, _, _, _, _, by go_num, Lib.hid ⟨by omega, (C9.run_step hA).symm.trans R.out.2.1, HOk.out.round fs, HC4.out, R.out.2.2.2.2.trans (HL1.out.trans (HL2.out.trans (HL3.out.trans HL4.out)))⟩⟩
      · have hend := Lib.hid (C9.run_end (fs := fs) (window := window) (rd := rd) (s := s) (k := gk) (many := xs.length) (by omega))
        rcases Nat.lt_or_ge s.acked xs.length with hA' | hA'
        all_goals
          go_wp2
          go_meet
          exact ⟨s, rd, cs, vp, va, vn, vr, now, arrived, rfl, Lib.hid ⟨R.out.2.1.symm.trans hend.out, HC.out, R.out.2.2.2.2⟩⟩
  case rest =>
    obtain ⟨s, rd, cs, vp, va, vn, vr, now, arrived, rfl, R⟩ := hcut
    have HC := Lib.hid R.out.2.1
    have HS := Lib.hid R.out.1
    have HB0 := Lib.hid R.out.2.2
    have hok := carryF_ok fs xs.length window most
    rw [HS.out] at hok
    have hacc : s.rc.accepted ≤ xs.length := hok.1.acc
    clear hok
    have hws : w.heap.size + 1 ≤ wc.heap.size := HC.out.hb
    have hT := (Blk.new w #[.int .i64 0, .int .i64 0, .int .i64 0] 36)
    have HT := Lib.hid (show Blk wc w.heap.size #[.int .i64 0, .int .i64 0, .int .i64 0] 36 from (HB0.out.block w.heap.size (by omega)).trans hT)
    clear hT
    have hrl : Row kLt wc (fun k => True ∧ k < w.heap.size) A xs := HR.out.bound.step fun k hk hk2 => (HB0.out.block k (by omega)).trans (Below.heap_alloc w _ k hk2)
    have HRl := Lib.hid (hrl.take s.rc.accepted)
    clear hrl
    have hL0 : (xs.take s.rc.accepted).length = s.rc.accepted := by rw [List.length_take]; omega
    have hclone : ∀ W : World, Row kLt W (fun k => True ∧ k < w.heap.size) A (xs.take s.rc.accepted) → w.heap.size ≤ W.heap.size → Calls Tryd.prog 51 #[.slice A s.rc.accepted c] W fun e w' => ∃ v1, e = .returned v1 ∧ Own kLt 47 w' W.heap.size (fun k => (True ∧ k < w.heap.size) ∨ W.heap.size ≤ k) v1 (xs.take s.rc.accepted) ∧ Below W.heap.size W w' := by
      intro W h1 h2
      have := clone_calls A c (xs.take s.rc.accepted) _ W h1 hA (fun k hk => by omega) (by omega)
      rw [hL0] at this
      exact this
    have Hcl := Lib.hid hclone
    clear hclone hL0
    have hne : w.heap.size + 1 ≠ w.heap.size := by omega
    have hsl : s.rc.accepted ≤ c := by omega
    obtain ⟨Ar, nr, kr, er⟩ := HC.out.rr.slice3
    subst er
    go_wp2
    go_region_held3 (fun w' => w'.cell? ⟨(w.heap.size + 1), 1, none⟩ = some (.int .i64 s.acked) ∧ w'.cell? ⟨(w.heap.size + 1), 2, none⟩ = some (.int .i64 s.rc.accepted) ∧ w'.cell? ⟨(w.heap.size + 1), 7, none⟩ = some (.slice Ar nr kr) ∧ w'.cell? ⟨(w.heap.size + 1), 8, none⟩ = some (.int .i64 s.packets) ∧ w'.cell? ⟨(w.heap.size + 1), 9, none⟩ = some (.int .i64 s.acks) ∧ w'.cell? ⟨(w.heap.size + 1), 10, none⟩ = some (.int .i64 s.rc.waste)) (first | exact ⟨(HC.out.blk.cell 1).trans HC.out.c1, (HC.out.blk.cell 2).trans HC.out.c2, (HC.out.blk.cell 7).trans HC.out.c7, (HC.out.blk.cell 8).trans HC.out.c8, (HC.out.blk.cell 9).trans HC.out.c9, (HC.out.blk.cell 10).trans HC.out.c10⟩ | exact ⟨(HX.out.1.cell 1).trans HC.out.c1, (HX.out.1.cell 2).trans HC.out.c2, (HX.out.1.cell 7).trans HC.out.c7, (HX.out.1.cell 8).trans HC.out.c8, (HX.out.1.cell 9).trans HC.out.c9, (HX.out.1.cell 10).trans HC.out.c10⟩ | exact ⟨((((HX.out.1.far (p := ⟨w.heap.size, 0, none⟩) hne _).far (p := ⟨w.heap.size, 1, none⟩) hne _).far (p := ⟨w.heap.size, 2, none⟩) hne _).cell 1).trans HC.out.c1, ((((HX.out.1.far (p := ⟨w.heap.size, 0, none⟩) hne _).far (p := ⟨w.heap.size, 1, none⟩) hne _).far (p := ⟨w.heap.size, 2, none⟩) hne _).cell 2).trans HC.out.c2, ((((HX.out.1.far (p := ⟨w.heap.size, 0, none⟩) hne _).far (p := ⟨w.heap.size, 1, none⟩) hne _).far (p := ⟨w.heap.size, 2, none⟩) hne _).cell 7).trans HC.out.c7, ((((HX.out.1.far (p := ⟨w.heap.size, 0, none⟩) hne _).far (p := ⟨w.heap.size, 1, none⟩) hne _).far (p := ⟨w.heap.size, 2, none⟩) hne _).cell 8).trans HC.out.c8, ((((HX.out.1.far (p := ⟨w.heap.size, 0, none⟩) hne _).far (p := ⟨w.heap.size, 1, none⟩) hne _).far (p := ⟨w.heap.size, 2, none⟩) hne _).cell 9).trans HC.out.c9, ((((HX.out.1.far (p := ⟨w.heap.size, 0, none⟩) hne _).far (p := ⟨w.heap.size, 1, none⟩) hne _).far (p := ⟨w.heap.size, 2, none⟩) hne _).cell 10).trans HC.out.c10⟩) (first
      | (go_at_call 51; refine (Hcl.out _ (by exact HRl.out) (by exact Nat.le_of_succ_le hws)).mono ?_; rintro e w2 ⟨v1, rfl, hO, hb1⟩; have hb2 : Below wc.heap.size wc w2 := (Below.drew (Below.refl wc.heap.size wc)).trans hb1; have hT3 := HT.out.below hb2; obtain ⟨t0, tf0⟩ := hT3.c0; obtain ⟨t1, tf1⟩ := hT3.c1; obtain ⟨t2, tf2⟩ := hT3.c2; have HX := Lib.hid (And.intro (HC.out.blk.below hb2) (And.intro hT3 (And.intro hO hb2))); clear hO hb1 hb2 hT3))
    go_wp2_with fail
    have hst := HX.out.2.1.stored [.int .i64 rd, .int .i64 s.packets, .int .i64 s.acks] rfl
    have hch3 := Ch.setsW (S := fun k => k = w.heap.size) (b := w.heap.size) [.int .i64 rd, .int .i64 s.packets, .int .i64 s.acks] 0 (Ch.refl _ w2) (.inl rfl)
    simp only [setsW, Nat.zero_add, Nat.reduceAdd] at hst hch3
    generalize World.setCell _ ⟨w.heap.size, 2, none⟩ _ = Wf at hst hch3 ⊢
    have y0 : Wf.cell? ⟨w.heap.size, 0, none⟩ = some (.int .i64 rd) := (hst.cell 0).trans rfl
    have y1 : Wf.cell? ⟨w.heap.size, 1, none⟩ = some (.int .i64 s.packets) := (hst.cell 1).trans rfl
    have y2 : Wf.cell? ⟨w.heap.size, 2, none⟩ = some (.int .i64 s.acks) := (hst.cell 2).trans rfl
    refine bodyPost_ret (v := .tuple #[v1, .slice Ar nr kr, .agg #[.int .i64 rd, .int .i64 s.packets, .int .i64 s.acks], .int .i64 s.rc.waste, .bool (decide (xs.length ≤ s.acked))]) ?_ rfl ?_
    · simp [results, Tryd.results17, go_sem, y0, y1, y2]
    · rw [HS.out]
      obtain ⟨hO, hb2⟩ := HX.out.2.2
      have hb3 := hb2
      have hs2 := hb3.size
      have h1 := (hO.step (w1 := Wf) fun k hk hlt => hch3.block k hlt (by
        have e1 : wc.drew.heap.size = wc.heap.size := rfl
        omega)).mono (ok' := fun _ => True) (fun _ _ => trivial)
      have h2 : NRow Wf (w.heap.size + 1) (.slice Ar nr kr) s.rc.rounds := (HC.out.rr.ch (Ch.of_below (S := fun _ => False) hb3) fun _ _ e => e).ch hch3 fun k hk e => by have := HC.out.rr.base k hk; omega
      have hlow : Below w.heap.size w Wf := ((Below.refl w.heap.size w).alloc (Nat.le_refl _) _).trans ((HB0.out.mono (by omega)).trans ((hb3.mono (by omega)).trans (hch3.low (by omega) fun k hk e => by omega)))
      exact ⟨v1, _, rfl, h1.lower (by show w.heap.size ≤ wc.heap.size; omega), h2.mono (by omega), hlow⟩
end Go.Proofs.YtlkklaahnkcnkaaDoor.X
