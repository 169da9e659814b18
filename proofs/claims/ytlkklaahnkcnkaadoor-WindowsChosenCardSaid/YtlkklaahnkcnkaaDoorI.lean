/- Channels of the program: carry. -/
import Derived.Test.YtlkklaahnkcnkaaDoorH
namespace Go.Proofs.YtlkklaahnkcnkaaDoor.X
open Go.RowKit

/-- The variable c of carry at block b; the fates at block a. -/
structure CarC (base : Nat) (w : World) (b a many : Nat) (fs : List Int) (cs : Array Value) (pn pl an al vr : Value) (acked : Nat) (rc : Rc) (pk ak : Fl) (heard : Bool) (rd packets acks used : Nat) : Prop where
  sz : cs.size = 15
  fp : FlSt base w b 90 3 cs pn pl pk
  fa : FlSt base w b 90 5 cs an al ak
  cc : ChanC cs many acked rc.accepted heard rc.waste
  c9 : cs[9]? = some (.int .i64 rd)
  c10 : cs[10]? = some (.int .i64 packets)
  c11 : cs[11]? = some (.int .i64 acks)
  c12 : cs[12]? = some vr
  c13 : cs[13]? = some (.int .i64 0)
  c14 : cs[14]? = some (.bool false)
  rr : NRow w base vr rc.rounds
  air : AirSt base w a 154 fs used
  ab : a ≠ b
  na : Apart pn an
  nl : Apart pn al
  la : Apart pl an
  ll : Apart pl al
  rn : Apart vr pn
  rl : Apart vr pl
  ra : Apart vr an
  re : Apart vr al
section
variable {base b a many : Nat} {w w' : World} {fs : List Int} {cs : Array Value} {pn pl an al vr : Value} {acked : Nat} {rc : Rc} {pk ak : Fl} {heard : Bool} {rd packets acks used : Nat}
theorem air_ne {ta : Nat} (h : AirSt base w a ta fs used) (hta : ta ≠ 3) {v : Value} {xs : List Nat} (hv : NRow w base v xs) (k : Nat) (hk : v.ownBlock = some k) : k ≠ a := by
  obtain ⟨_, _, _, hb, _⟩ := h
  exact hv.ne hb hta k hk
theorem send_low (hF : FlSt base w b 90 3 cs pn pl pk ∨ FlSt base w b 90 5 cs pn pl pk) (hA : AirSt base w a 154 fs used) (hc : Ch (fun k => k = b ∨ k = a ∨ pn.ownBlock = some k ∨ pl.ownBlock = some k) w w') : Below base w w' := by
  have hb : base ≤ b ∧ (∀ k, pn.ownBlock = some k → base ≤ k) ∧ ∀ k, pl.ownBlock = some k → base ≤ k := by
    rcases hF with h | h <;> exact ⟨h.lo, h.rnow.base, h.rlate.base⟩
  refine hc.low (Nat.le_trans hA.1 (Nat.le_of_lt hA.lt)) fun k hk e => ?_
  have := hA.1
  rcases e with e | e | e | e
  · have := hb.1; omega
  · omega
  · have := hb.2.1 k e; omega
  · have := hb.2.2 k e; omega
theorem CarC.send (h : CarC base w b a many fs cs pn pl an al vr acked rc pk ak heard rd packets acks used) {pk' : Fl} {u' : Nat} (hs : SendPost base w b 90 3 a 154 fs u' cs pn pl pk' w') :
    (∃ cs' pn' pl', CarC base w' b a many fs cs' pn' pl' an al vr acked rc pk' ak heard rd packets acks u') ∧ Below base w w' := by
  obtain ⟨cs', pn', pl', hF, hS, hn, hl, hA, hc⟩ := hs
  refine ⟨⟨cs', pn', pl', hS.1.trans h.sz, hF, ⟨hF.blk, h.fa.lo, h.fa.ty, (hS.2 5 (by decide) (by decide)).trans h.fa.now, (hS.2 6 (by decide) (by decide)).trans h.fa.late, h.fa.rnow.ch hc ?_, h.fa.rlate.ch hc ?_, h.fa.apart⟩, h.cc.same hS (.inl rfl), (hS.2 9 (by decide) (by decide)).trans h.c9, (hS.2 10 (by decide) (by decide)).trans h.c10, (hS.2 11 (by decide) (by decide)).trans h.c11, (hS.2 12 (by decide) (by decide)).trans h.c12, (hS.2 13 (by decide) (by decide)).trans h.c13, (hS.2 14 (by decide) (by decide)).trans h.c14, h.rr.ch hc ?_, hA, h.ab, hn.apart h.na h.fa.rnow.lt, hn.apart h.nl h.fa.rlate.lt, hl.apart h.la h.fa.rnow.lt, hl.apart h.ll h.fa.rlate.lt, (hn.apart h.rn.symm h.rr.lt).symm, (hl.apart h.rl.symm h.rr.lt).symm, h.ra, h.re⟩, send_low (.inl h.fp) h.air hc⟩
  all_goals rintro k hk (e | e | e | e)
  · exact h.fa.rnow.ne h.fp.blk (by decide) k hk e
  · exact air_ne h.air (by decide) h.fa.rnow k hk e
  · exact h.na k e hk
  · exact h.la k e hk
  · exact h.fa.rlate.ne h.fp.blk (by decide) k hk e
  · exact air_ne h.air (by decide) h.fa.rlate k hk e
  · exact h.nl k e hk
  · exact h.ll k e hk
  · exact h.rr.ne h.fp.blk (by decide) k hk e
  · exact air_ne h.air (by decide) h.rr k hk e
  · exact h.rn k hk e
  · exact h.rl k hk e
theorem CarC.answer (h : CarC base w b a many fs cs pn pl an al vr acked rc pk ak heard rd packets acks used) {ak' : Fl} {u' : Nat} (hs : SendPost base w b 90 5 a 154 fs u' cs an al ak' w') :
    (∃ cs' an' al', CarC base w' b a many fs cs' pn pl an' al' vr acked rc pk ak' heard rd packets acks u') ∧ Below base w w' := by
  obtain ⟨cs', an', al', hF, hS, hn, hl, hA, hc⟩ := hs
  refine ⟨⟨cs', an', al', hS.1.trans h.sz, ⟨hF.blk, h.fp.lo, h.fp.ty, (hS.2 3 (by decide) (by decide)).trans h.fp.now, (hS.2 4 (by decide) (by decide)).trans h.fp.late, h.fp.rnow.ch hc ?_, h.fp.rlate.ch hc ?_, h.fp.apart⟩, hF, h.cc.same hS (.inr rfl), (hS.2 9 (by decide) (by decide)).trans h.c9, (hS.2 10 (by decide) (by decide)).trans h.c10, (hS.2 11 (by decide) (by decide)).trans h.c11, (hS.2 12 (by decide) (by decide)).trans h.c12, (hS.2 13 (by decide) (by decide)).trans h.c13, (hS.2 14 (by decide) (by decide)).trans h.c14, h.rr.ch hc ?_, hA, h.ab, (hn.apart h.na.symm h.fp.rnow.lt).symm, (hl.apart h.nl.symm h.fp.rnow.lt).symm, (hn.apart h.la.symm h.fp.rlate.lt).symm, (hl.apart h.ll.symm h.fp.rlate.lt).symm, h.rn, h.rl, (hn.apart h.ra.symm h.rr.lt).symm, (hl.apart h.re.symm h.rr.lt).symm⟩, send_low (.inr h.fa) h.air hc⟩
  all_goals rintro k hk (e | e | e | e)
  · exact h.fp.rnow.ne h.fp.blk (by decide) k hk e
  · exact air_ne h.air (by decide) h.fp.rnow k hk e
  · exact h.na k hk e
  · exact h.nl k hk e
  · exact h.fp.rlate.ne h.fp.blk (by decide) k hk e
  · exact air_ne h.air (by decide) h.fp.rlate k hk e
  · exact h.la k hk e
  · exact h.ll k hk e
  · exact h.rr.ne h.fp.blk (by decide) k hk e
  · exact air_ne h.air (by decide) h.rr k hk e
  · exact h.ra k hk e
  · exact h.re k hk e
theorem CarC.recv (h : CarC base w b a many fs cs pn pl an al vr acked rc pk ak heard rd packets acks used) {rc' : Rc} (hs : RecvSt base w b rd cs pn pl vr pk rc' w') :
    (∃ cs' vr', CarC base w' b a many fs cs' pl (.slice none 0 0) an al vr' acked rc' ⟨pk.late, []⟩ ak (decide (0 < pk.now.length)) rd packets acks used) ∧ Below base w w' := by
  obtain ⟨cs', vr', hb, hK, h2, h3, h4, h7, h8, h9, h12, hr, hx, hl, hn, a1, a2, hc⟩ := hs
  have hbb : base ≤ w.heap.size := Nat.le_trans h.air.1 (Nat.le_of_lt h.air.lt)
  have none_apart : ∀ u : Value, Apart (.slice none 0 0) u := fun u k hk => by simp [Value.ownBlock] at hk
  refine ⟨⟨cs', vr', hK.1.trans h.sz, ⟨hb, h.fp.lo, h.fp.ty, h3, h4, hl, NRow.nil _ _, (none_apart _).symm⟩, ⟨hb, h.fa.lo, h.fa.ty, (hK.2 5 (by decide)).trans h.fa.now, (hK.2 6 (by decide)).trans h.fa.late, h.fa.rnow.ch hc ?_, h.fa.rlate.ch hc ?_, h.fa.apart⟩, ⟨(hK.2 0 (by decide)).trans h.cc.many, (hK.2 1 (by decide)).trans h.cc.acked, h2, h7, h8⟩, h9, (hK.2 10 (by decide)).trans h.c10, (hK.2 11 (by decide)).trans h.c11, h12, (hK.2 13 (by decide)).trans h.c13, (hK.2 14 (by decide)).trans h.c14, hr, h.air.ch hc ?_ ?_, h.ab, h.la, h.ll, none_apart _, none_apart _, a2, (none_apart _).symm, hx.apart h.ra h.fa.rnow.lt, hx.apart h.re h.fa.rlate.lt⟩, ?_⟩
  · rintro k hk (e | e)
    · exact h.fa.rnow.ne h.fp.blk (by decide) k hk e
    · exact h.ra k e hk
  · rintro k hk (e | e)
    · exact h.fa.rlate.ne h.fp.blk (by decide) k hk e
    · exact h.re k e hk
  · rintro (e | e)
    · exact h.ab e
    · exact air_ne h.air (by decide) h.rr a e rfl
  · rintro k hk (e | e)
    · have := h.fp.lo; omega
    · have := h.rr.base k e; omega
  · refine hc.low hbb fun k hk e => ?_
    rcases e with e | e
    · have := h.fp.lo; omega
    · have := h.rr.base k e; omega
/-- A number, or a bool, of the block is set. -/
theorem CarC.put (h : CarC base w b a many fs cs pn pl an al vr acked rc pk ak heard rd packets acks used) {i : Nat} (hi : i = 9 ∨ i = 10 ∨ i = 11) (n : Nat) :
    CarC base (w.setCell ⟨b, i, none⟩ (.int .i64 n)) b a many fs (cs.setIfInBounds i (.int .i64 n)) pn pl an al vr acked rc pk ak heard (if i = 9 then n else rd) (if i = 10 then n else packets) (if i = 11 then n else acks) used ∧ Below base w (w.setCell ⟨b, i, none⟩ (.int .i64 n)) := by
  have hc : Ch (fun k => k = b) w (w.setCell ⟨b, i, none⟩ (.int .i64 n)) := (Ch.refl (fun k => k = b) w).set (p := ⟨b, i, none⟩) (.inl rfl) _
  have hbb : base ≤ w.heap.size := Nat.le_trans h.air.1 (Nat.le_of_lt h.air.lt)
  refine ⟨⟨by simpa using h.sz, h.fp.set (by omega) (by omega) _, h.fa.set (by omega) (by omega) _, ⟨(set_other (by omega) _).trans h.cc.many, (set_other (by omega) _).trans h.cc.acked, (set_other (by omega) _).trans h.cc.acc, (set_other (by omega) _).trans h.cc.heard, (set_other (by omega) _).trans h.cc.waste⟩, ?_, ?_, ?_, (set_other (by omega) _).trans h.c12, (set_other (by omega) _).trans h.c13, (set_other (by omega) _).trans h.c14, h.rr.ch hc (fun k hk e => h.rr.ne h.fp.blk (by decide) k hk e), h.air.ch hc h.ab (fun k hk e => by have := h.fp.lo; omega), h.ab, h.na, h.nl, h.la, h.ll, h.rn, h.rl, h.ra, h.re⟩, hc.low hbb fun k hk e => by have := h.fp.lo; omega⟩
  · split
    · rename_i e; subst e; exact set_same h.c9 _
    · exact (set_other ‹_› _).trans h.c9
  · split
    · rename_i e; subst e; exact set_same h.c10 _
    · exact (set_other ‹_› _).trans h.c10
  · split
    · rename_i e; subst e; exact set_same h.c11 _
    · exact (set_other ‹_› _).trans h.c11
theorem CarC.ch {S : Nat → Prop} (h : CarC base w b a many fs cs pn pl an al vr acked rc pk ak heard rd packets acks used) (hc : Ch S w w') (hS : ∀ k, k < w.heap.size → ¬ S k) : CarC base w' b a many fs cs pn pl an al vr acked rc pk ak heard rd packets acks used :=
  ⟨h.sz, h.fp.ch hc (hS _ h.fp.blk.lt) (fun k hk => hS k (h.fp.rnow.lt k hk)) (fun k hk => hS k (h.fp.rlate.lt k hk)), h.fa.ch hc (hS _ h.fp.blk.lt) (fun k hk => hS k (h.fa.rnow.lt k hk)) (fun k hk => hS k (h.fa.rlate.lt k hk)), h.cc, h.c9, h.c10, h.c11, h.c12, h.c13, h.c14, h.rr.ch hc (fun k hk => hS k (h.rr.lt k hk)), h.air.ch hc (hS _ h.air.lt) (fun k hk => hS k (by have := h.air.1; have := h.air.lt; omega)), h.ab, h.na, h.nl, h.la, h.ll, h.rn, h.rl, h.ra, h.re⟩
theorem CarC.drew (h : CarC base w b a many fs cs pn pl an al vr acked rc pk ak heard rd packets acks used) : CarC base w.drew b a many fs cs pn pl an al vr acked rc pk ak heard rd packets acks used :=
  h.ch (S := fun _ => False) (Ch.of_below (Below.refl _ w).drew) fun _ _ => id
theorem CarC.hear (h : CarC base w b a many fs cs pn pl an al vr acked rc pk ak heard rd packets acks used) (hF : FlSt base w' b 90 5 (((cs.setIfInBounds 5 al).setIfInBounds 6 (.slice none 0 0)).setIfInBounds 1 (.int .i64 (maxAll acked ak.now : Nat))) al (.slice none 0 0) ⟨ak.late, []⟩) (hB : But b w w') :
    (∃ cs', CarC base w' b a many fs cs' pn pl al (.slice none 0 0) vr (maxAll acked ak.now) rc pk ⟨ak.late, []⟩ heard rd packets acks used) ∧ Below base w w' := by
  have hc := Ch.of_but (S := fun k => k = b) hB rfl
  have hbb : base ≤ w.heap.size := Nat.le_trans h.air.1 (Nat.le_of_lt h.air.lt)
  have none_apart : ∀ u : Value, Apart (.slice none 0 0) u := fun u k hk => by simp [Value.ownBlock] at hk
  have o : ∀ {i : Nat} {u : Value}, cs[i]? = some u → i ≠ 1 → i ≠ 5 → i ≠ 6 → (((cs.setIfInBounds 5 al).setIfInBounds 6 (.slice none 0 0)).setIfInBounds 1 (.int .i64 (maxAll acked ak.now : Nat)))[i]? = some u := by
    intro i u hi h1 h5 h6
    rw [set_other (Ne.symm h1), set_other (Ne.symm h6), set_other (Ne.symm h5)]
    exact hi
  refine ⟨⟨_, by simpa using h.sz, ⟨hF.blk, h.fp.lo, h.fp.ty, o h.fp.now (by decide) (by decide) (by decide), o h.fp.late (by decide) (by decide) (by decide), h.fp.rnow.ch hc (fun k hk e => h.fp.rnow.ne h.fp.blk (by decide) k hk e), h.fp.rlate.ch hc (fun k hk e => h.fp.rlate.ne h.fp.blk (by decide) k hk e), h.fp.apart⟩, hF, ⟨o h.cc.many (by decide) (by decide) (by decide), set_same (u := .int .i64 acked) (by rw [set_other (by decide), set_other (by decide)]; exact h.cc.acked) _, o h.cc.acc (by decide) (by decide) (by decide), o h.cc.heard (by decide) (by decide) (by decide), o h.cc.waste (by decide) (by decide) (by decide)⟩, o h.c9 (by decide) (by decide) (by decide), o h.c10 (by decide) (by decide) (by decide), o h.c11 (by decide) (by decide) (by decide), o h.c12 (by decide) (by decide) (by decide), o h.c13 (by decide) (by decide) (by decide), o h.c14 (by decide) (by decide) (by decide), h.rr.ch hc (fun k hk e => h.rr.ne h.fp.blk (by decide) k hk e), h.air.ch hc h.ab (fun k hk e => by have := h.fp.lo; omega), h.ab, h.nl, (none_apart _).symm, h.ll, (none_apart _).symm, h.rn, h.rl, h.re, (none_apart _).symm⟩, hc.low hbb fun k hk e => by have := h.fp.lo; omega⟩
end
end Go.Proofs.YtlkklaahnkcnkaaDoor.X
