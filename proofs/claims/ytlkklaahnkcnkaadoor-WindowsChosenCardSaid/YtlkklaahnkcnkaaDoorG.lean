/- Channels of the program: what is received. -/
import Derived.Test.YtlkklaahnkcnkaaDoorF
namespace Go.Proofs.YtlkklaahnkcnkaaDoor.X
open Go.RowKit

/-- The cells of a block, but for those in a list. -/
def Keep (L : List Nat) (cs cs' : Array Value) : Prop := cs'.size = cs.size ∧ ∀ i, i ∉ L → cs'[i]? = cs[i]?
theorem Keep.refl (L : List Nat) (cs : Array Value) : Keep L cs cs := ⟨rfl, fun _ _ => rfl⟩
theorem Keep.trans {L : List Nat} {a b c : Array Value} (h : Keep L a b) (k : Keep L b c) : Keep L a c := ⟨k.1.trans h.1, fun i hi => (k.2 i hi).trans (h.2 i hi)⟩
theorem Keep.set {L : List Nat} {a b : Array Value} (h : Keep L a b) {i : Nat} (hi : i ∈ L) (v : Value) : Keep L a (b.setIfInBounds i v) :=
  ⟨by simpa using h.1, fun j hj => by rw [Array.getElem?_setIfInBounds, if_neg (by rintro rfl; exact hj hi)]; exact h.2 j hj⟩
theorem Keep.mono {L L' : List Nat} {a b : Array Value} (h : Keep L a b) (hL : ∀ i, i ∈ L → i ∈ L') : Keep L' a b := ⟨h.1, fun i hi => h.2 i (fun e => hi (hL i e))⟩
theorem set_same {cs : Array Value} {i : Nat} {u : Value} (h : cs[i]? = some u) (v : Value) : (cs.setIfInBounds i v)[i]? = some v := by
  rw [Array.getElem?_setIfInBounds]
  have := (Array.getElem?_eq_some_iff.1 h).1
  simp [this]
theorem set_other {cs : Array Value} {i j : Nat} (h : i ≠ j) (v : Value) : (cs.setIfInBounds i v)[j]? = cs[j]? := by
  rw [Array.getElem?_setIfInBounds, if_neg h]

set_option maxHeartbeats 1000000 in
/-- The closure of carry: it notes the round. -/
theorem carry1_calls (b base n rd : Nat) (cs : Array Value) (vr : Value) (rs : List Nat) (w : World) (hb : Blk w b cs 90) (hbb : base ≤ w.heap.size) (h9 : cs[9]? = some (.int .i64 rd)) (h12 : cs[12]? = some vr) (hr : NRow w base vr rs) (hl : rs.length < 1000000) :
    Calls Tryd.prog 96 #[.int .i64 n, .pointer (some ⟨b, 0, none⟩)] w fun e w' => e = .returned (.tuple #[]) ∧ ∃ vr', Blk w' b (cs.setIfInBounds 12 vr') 90 ∧ NRow w' base vr' (rs ++ [rd]) ∧ Nx w vr vr' ∧ Ch (fun k => k = b ∨ vr.ownBlock = some k) w w' := by
  have g0 := (hb.cell 9).trans h9
  have g1 := (hb.cell 12).trans h12
  have H := Lib.hid (And.intro h9 (And.intro h12 hr))
  clear h9 h12 hr
  go_enter Tryd.func96, Tryd.ntmps96
  go_wp2_with (at_builtin; go_must (refine nrow_append H.out.2.2 [rd] [.int .i64 rd] rfl rfl hbb Tryd.underlying22 infoInt (by simp; omega) rfl rfl rfl (by first | rfl | (go_simp; done)) ?_; intro v1 w2 hO hg hat; obtain ⟨A1, c1, rfl, -⟩ := hO.slice; have hnb : some b ≠ vr.ownBlock := (fun e => H.out.2.2.ne hb (by decide) b e.symm rfl); have hb2 := hb.grown hg hnb; have g3 : w2.cell? ⟨b, 12, none⟩ = some vr := (hb2.cell 12).trans H.out.2.1; have g4 := hb2.free 12; have HO := Lib.hid (And.intro hO (And.intro hg hat)); clear hO hg hat))
  go_end0
  rw [List.length_append] at HO
  have hc : Ch (fun k => k = b ∨ vr.ownBlock = some k) w w2 := (Ch.refl _ _).grown HO.out.2.1 fun k hk => .inl (.inr hk)
  refine ⟨rfl, _, hb2.set 12 _, ?_, HO.out.2.2, hc.set (p := ⟨b, 12, none⟩) (.inl (.inl rfl)) _⟩
  have hO := HO.out.1
  exact hO.ch ((Ch.refl (fun k => k = b) w2).set (p := ⟨b, 12, none⟩) (.inl rfl) _) (fun k hk e => hO.ne hb2 (by decide) k hk e)

/-- What receive leaves, with the receiver r. -/
def RecvSt (base : Nat) (w : World) (b rd : Nat) (cs0 : Array Value) (vn vl vr : Value) (f : Fl) (r : Rc) (W : World) : Prop :=
  ∃ cs vr', Blk W b cs 90 ∧ Keep [2, 3, 4, 7, 8, 12] cs0 cs ∧ cs[2]? = some (.int .i64 r.accepted) ∧ cs[3]? = some vl ∧ cs[4]? = some (.slice none 0 0) ∧ cs[7]? = some (.bool (decide (0 < f.now.length))) ∧ cs[8]? = some (.int .i64 r.waste) ∧ cs[9]? = some (.int .i64 rd) ∧ cs[12]? = some vr' ∧
    NRow W base vr' r.rounds ∧ Nx w vr vr' ∧ NRow W base vl f.late ∧ NRow W base vn f.now ∧ Apart vr' vn ∧ Apart vr' vl ∧ Ch (fun k => k = b ∨ vr.ownBlock = some k) w W
set_option maxRecDepth 100000 in
set_option maxHeartbeats 4000000 in
/-- Step 2 of a round. -/
theorem receive_calls (b base rd many acked : Nat) (h0 : Bool) (cs : Array Value) (vn vl vr : Value) (f : Fl) (r : Rc) (w : World) (hF : FlSt base w b 90 3 cs vn vl f) (hC : ChanC cs many acked r.accepted h0 r.waste) (h9 : cs[9]? = some (.int .i64 rd)) (h12 : cs[12]? = some vr) (hr : NRow w base vr r.rounds) (hbb : base ≤ w.heap.size)
    (ha1 : Apart vr vn) (ha2 : Apart vr vl) (hl : f.now.length < 1000000) (hl2 : r.rounds.length + f.now.length < 1000000) (hacc : r.accepted + r.waste + f.now.length < 4611686018427387904) :
    Calls Tryd.prog 95 #[.pointer (some ⟨b, 0, none⟩), .func (.func 96) #[] #[.pointer (some ⟨b, 0, none⟩)]] w fun e w' => e = .returned (.tuple #[]) ∧ RecvSt base w b rd cs vn vl vr f (r.all rd f.now) w' := by
  have HF := Lib.hid hF
  have HC := Lib.hid (And.intro hC (And.intro h9 (And.intro h12 (And.intro ha1 ha2))))
  have HR := Lib.hid hr
  obtain ⟨A0, k0, e0, -⟩ := hF.rnow.slice
  subst e0
  clear hF hC h9 h12 hr ha1 ha2
  go_enter Tryd.func95, Tryd.ntmps95
  go_wp2_with (go_at_call 129; go_must (refine (arrive_calls b _ 3 base cs _ vl f _ HF.out).mono ?_; rintro e w1 ⟨rfl, hF1, hB1, hn1⟩; have g7 := (hF1.blk.cell 7); have g7' := hF1.blk.free 7; rw [set_other (by decide), set_other (by decide), HC.out.1.heard] at g7; have HF1 := Lib.hid (And.intro hF1 (And.intro hB1 hn1)); clear hF1 hB1 hn1))
  go_loopg [6, 19] f.now.length (fun kq x i W => ∃ j : Nat, i = .int .i64 j ∧ Hid (kq + j = f.now.length ∧ RecvSt base w b rd cs (.slice A0 f.now.length k0) vl vr f (r.all rd (f.now.take j)) W))
  case atStart =>
    have hF1 := HF1.out.1
    have hB1 := HF1.out.2.1
    have hs := hF1.blk.set 7 (.bool (decide (0 < f.now.length)))
    have hc0 := Ch.of_but (S := fun k => k = b ∨ vr.ownBlock = some k) hB1 (.inl rfl)
    have hc := hc0.set (p := ⟨b, 7, none⟩) (.inl (.inl rfl)) (.bool (decide (0 < f.now.length)))
    have hrn := HF1.out.2.2.ch ((Ch.refl (fun k => k = b) w1).set (p := ⟨b, 7, none⟩) (.inl rfl) (.bool (decide (0 < f.now.length)))) (fun k hk e => HF1.out.2.2.ne hF1.blk (by decide) k hk e)
    have hrl := hF1.rnow.ch ((Ch.refl (fun k => k = b) w1).set (p := ⟨b, 7, none⟩) (.inl rfl) (.bool (decide (0 < f.now.length)))) (fun k hk e => hF1.rnow.ne hF1.blk (by decide) k hk e)
    have hvr : NRow (w1.setCell ⟨b, 7, none⟩ (.bool (decide (0 < f.now.length)))) base vr r.rounds := HR.out.ch ((Ch.of_but (S := fun k => k = b) hB1 rfl).set (p := ⟨b, 7, none⟩) (.inl rfl) _) (fun k hk e => HR.out.ne HF.out.blk (by decide) k hk e)
    refine ⟨0, rfl, Lib.hid ⟨by omega, _, vr, hs, ?_, ?_, ?_, ?_, ?_, ?_, ?_, ?_, hvr, Nx.refl _ _, hrl, hrn, HC.out.2.2.2.1, HC.out.2.2.2.2, hc⟩⟩
    · exact (((Keep.refl _ _).set (by decide) _).set (by decide) _).set (by decide) _
    · rw [set_other (by decide), set_other (by decide), set_other (by decide)]; exact HC.out.1.acc
    · rw [set_other (by decide), set_other (by decide)]; exact set_same HF.out.now _
    · rw [set_other (by decide)]; exact set_same (by rw [set_other (by decide)]; exact HF.out.late) _
    · exact set_same (by rw [set_other (by decide), set_other (by decide)]; exact HC.out.1.heard) _
    · rw [set_other (by decide), set_other (by decide), set_other (by decide)]; exact HC.out.1.waste
    · rw [set_other (by decide), set_other (by decide), set_other (by decide)]; exact HC.out.2.1
    · rw [set_other (by decide), set_other (by decide), set_other (by decide)]; exact HC.out.2.2.1
  case round =>
    obtain ⟨j, rfl, R⟩ := hrel
    by_cases hj : j < f.now.length
    · obtain ⟨c1, vr1, hb1, hK, h2, h3, h4, h7, h8, h9, h12, hr1, hx1, hrl1, hrn1, ha1, ha2, hc1⟩ := R.out.2
      have hok := r.all_ok rd (f.now.take j)
      rw [List.length_take] at hok
      have hacc' : (r.all rd (f.now.take j)).accepted + (r.all rd (f.now.take j)).waste < 4611686018427387904 := by omega
      have hrl' : (r.all rd (f.now.take j)).rounds.length < 1000000 := by omega
      clear hok
      have q2 := (hb1.cell 2).trans h2
      have q2' := hb1.free 2
      have q8 := (hb1.cell 8).trans h8
      have q8' := hb1.free 8
      obtain ⟨A', k', e', -, hrow⟩ := hrn1.row (by omega)
      obtain ⟨ad, e2, -, hcell⟩ := hrow.cell_scal hj
      obtain ⟨rfl, rfl⟩ : A0 = some ad ∧ k0 = k' := by simpa [e2] using e'
      clear e' e2 hrow
      have HX := Lib.hid (And.intro hb1 (And.intro hK (And.intro h2 (And.intro h3 (And.intro h4 (And.intro h7 (And.intro h8 (And.intro h9 (And.intro h12 (And.intro hr1 (And.intro hx1 (And.intro hrl1 (And.intro hrn1 (And.intro ha1 (And.intro ha2 hc1)))))))))))))))
      clear hb1 hK h2 h3 h4 h7 h8 h9 h12 hr1 hx1 hrl1 hrn1 ha1 ha2 hc1
      have hsn : f.now.take (j + 1) = f.now.take j ++ [f.now[j]] := List.take_succ_eq_append_getElem hj
      by_cases he : f.now[j] = (r.all rd (f.now.take j)).accepted
      · have he1 : ((f.now[j] : Int) == ((r.all rd (f.now.take j)).accepted : Int)) = true := by simp [he]
        have Hone := Lib.hid (show r.all rd (f.now.take (j + 1)) = ⟨(r.all rd (f.now.take j)).accepted + 1, (r.all rd (f.now.take j)).waste, (r.all rd (f.now.take j)).rounds ++ [rd]⟩ by rw [hsn, Rc.all_snoc, Rc.one, if_pos he])
        clear he hsn
        go_wp2_with (go_at_call 96; go_must (refine (carry1_calls b base _ rd _ vr1 _ _ (HX.out.1.set 2 (.int .i64 ((r.all rd (f.now.take j)).accepted + 1))) (by have := HX.out.2.2.2.2.2.2.2.2.2.2.2.2.2.2.2.size; simp; omega) (by rw [set_other (by decide)]; exact HX.out.2.2.2.2.2.2.2.1) (by rw [set_other (by decide)]; exact HX.out.2.2.2.2.2.2.2.2.1) (HX.out.2.2.2.2.2.2.2.2.2.1.ch ((Ch.refl (fun k => k = b) wr).set (p := ⟨b, 2, none⟩) (.inl rfl) _) (fun k hk e => HX.out.2.2.2.2.2.2.2.2.2.1.ne HX.out.1 (by decide) k hk e)) hrl').mono ?_; rintro e w2 ⟨rfl, vr2, hb2, hr2, hx2, hc2⟩; have HY := Lib.hid (And.intro hb2 (And.intro hr2 (And.intro hx2 hc2))); clear hb2 hr2 hx2 hc2))
        go_roundg (gk - 1)
        case measure => have := R.out.1; omega
        case rel =>
          obtain ⟨hb1, hK, h2, h3, h4, h7, h8, h9, h12, hr1, hx1, hrl1, hrn1, ha1, ha2, hc1⟩ := HX.out
          obtain ⟨hb2, hr2, hx2, hc2⟩ := HY.out
          have hsz := hc1.size
          have hcw : Ch (fun k => k = b) wr (wr.setCell ⟨b, 2, none⟩ (.int .i64 ((r.all rd (f.now.take j)).accepted + 1))) := (Ch.refl (fun k => k = b) wr).set (p := ⟨b, 2, none⟩) (.inl rfl) _
          have hc12 := (hcw.mono (S' := fun k => k = b ∨ vr1.ownBlock = some k) fun _ _ e => .inl e).trans hc2
          have hx2' : Nx wr vr1 vr2 := by simpa [Nx] using hx2
          refine ⟨j + 1, by go_num, Lib.hid ⟨by have := R.out.1; omega, ?_⟩⟩
          rw [Hone.out]
          refine ⟨_, vr2, hb2, (hK.set (by decide) _).set (by decide) _, ?_, ?_, ?_, ?_, ?_, ?_, ?_, hr2, hx1.trans hx2' hsz, hrl1.ch hc12 ?_, hrn1.ch hc12 ?_, hx2'.apart ha1 hrn1.lt, hx2'.apart ha2 hrl1.lt, ?_⟩
          · rw [set_other (by decide)]; exact set_same h2 _
          · rw [set_other (by decide), set_other (by decide)]; exact h3
          · rw [set_other (by decide), set_other (by decide)]; exact h4
          · rw [set_other (by decide), set_other (by decide)]; exact h7
          · rw [set_other (by decide), set_other (by decide)]; exact h8
          · rw [set_other (by decide), set_other (by decide)]; exact h9
          · exact set_same (by rw [set_other (by decide)]; exact h12) _
          · rintro k hk (e | e)
            · exact hrl1.ne hb1 (by decide) k hk e
            · exact ha2 k e hk
          · rintro k hk (e | e)
            · exact hrn1.ne hb1 (by decide) k hk e
            · exact ha1 k e hk
          · refine hc1.trans' hc12 fun i hi e => ?_
            rcases e with e | e
            · exact .inl e
            · rcases hx1 with hx | ⟨c, hc, hle⟩
              · exact .inr (hx ▸ e)
              · rw [hc] at e
                injection e with e
                omega
      · have he1 : ((f.now[j] : Int) == ((r.all rd (f.now.take j)).accepted : Int)) = false := by simp; omega
        have Hone := Lib.hid (show r.all rd (f.now.take (j + 1)) = ⟨(r.all rd (f.now.take j)).accepted, (r.all rd (f.now.take j)).waste + 1, (r.all rd (f.now.take j)).rounds⟩ by rw [hsn, Rc.all_snoc, Rc.one, if_neg he])
        clear he hsn
        go_wp2_with fail
        go_roundg (gk - 1)
        case measure => have := R.out.1; omega
        case rel =>
          obtain ⟨hb1, hK, h2, h3, h4, h7, h8, h9, h12, hr1, hx1, hrl1, hrn1, ha1, ha2, hc1⟩ := HX.out
          have hcw : Ch (fun k => k = b) wr (wr.setCell ⟨b, 8, none⟩ (.int .i64 ((r.all rd (f.now.take j)).waste + 1))) := (Ch.refl (fun k => k = b) wr).set (p := ⟨b, 8, none⟩) (.inl rfl) _
          refine ⟨j + 1, by go_num, Lib.hid ⟨by have := R.out.1; omega, ?_⟩⟩
          rw [Hone.out]
          refine ⟨_, vr1, hb1.set 8 _, hK.set (by decide) _, ?_, ?_, ?_, ?_, ?_, ?_, ?_, hr1.ch hcw (fun k hk e => hr1.ne hb1 (by decide) k hk e), hx1, hrl1.ch hcw (fun k hk e => hrl1.ne hb1 (by decide) k hk e), hrn1.ch hcw (fun k hk e => hrn1.ne hb1 (by decide) k hk e), ha1, ha2, hc1.set (p := ⟨b, 8, none⟩) (.inl (.inl rfl)) _⟩
          · rw [set_other (by decide)]; exact h2
          · rw [set_other (by decide)]; exact h3
          · rw [set_other (by decide)]; exact h4
          · rw [set_other (by decide)]; exact h7
          · exact set_same h8 _
          · rw [set_other (by decide)]; exact h9
          · rw [set_other (by decide)]; exact h12
    · go_wp2_with fail
      go_end0
      refine ⟨rfl, ?_⟩
      have h := R.out.2
      rw [List.take_of_length_le (by omega)] at h
      exact h
end Go.Proofs.YtlkklaahnkcnkaaDoor.X
