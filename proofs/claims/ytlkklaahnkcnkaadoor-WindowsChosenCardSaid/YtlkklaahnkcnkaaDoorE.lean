/- Channels: fates are handed out, numbers are sent. -/
import Derived.Test.YtlkklaahnkcnkaaDoorLib
import Derived.Test.YtlkklaahnkcnkaaDoorPure2
namespace Go.Proofs.YtlkklaahnkcnkaaDoor.X
open Go.RowKit

/-- Fates at block a, of type t; u have been used. -/
def AirSt (base : Nat) (w : World) (a t : Nat) (fs : List Int) (u : Nat) : Prop := base ≤ a ∧ ∃ A c, Blk w a #[.slice A fs.length c, .int .i64 u] t ∧ fs.length ≤ c ∧ Row kInt w (· < base) A fs
theorem AirSt.ch {base a t u : Nat} {fs : List Int} {w w' : World} {S : Nat → Prop} (h : AirSt base w a t fs u) (hc : Ch S w w') (ha : ¬ S a) (hS : ∀ k, k < base → ¬ S k) : AirSt base w' a t fs u := by
  obtain ⟨h0, A, c, hb, hl, hr⟩ := h
  exact ⟨h0, A, c, hb.ch hc ha, hl, hr.ch hc hS⟩
theorem AirSt.lt {base a t u : Nat} {fs : List Int} {w : World} (h : AirSt base w a t fs u) : a < w.heap.size := by
  obtain ⟨h0, A, c, hb, hl, hr⟩ := h
  exact hb.lt
set_option maxHeartbeats 1000000 in
theorem airNext_calls (a u base : Nat) (fs : List Int) (hu : u < 4611686018427387904) (w : World) (h : AirSt base w a 154 fs u) :
    Calls Tryd.prog 143 #[.pointer (some ⟨a, 0, none⟩)] w fun e w' => e = .returned (.int .i64 (fateAt fs u)) ∧ AirSt base w' a 154 fs (u + 1) ∧ But a w w' := by
  obtain ⟨ha, A, c, hb, hlc, hr⟩ := h
  obtain ⟨c0, f0⟩ := hb.c0
  obtain ⟨c1, f1⟩ := hb.c1
  have hl := hr.1
  by_cases h0 : u < fs.length
  · have hf := Lib.hid (show fateAt fs u = fs[u] by unfold fateAt; rw [List.getD_eq_getElem?_getD, List.getElem?_eq_getElem h0]; rfl)
    obtain ⟨ad, rfl, hk, hc⟩ := hr.cell_scal h0
    have hk2 : ∀ v, (w.setCell ⟨a, 1, none⟩ v).cell? (ad.add u) = some (.int .i64 fs[u]) := fun v => (World.cell?_of_block (Below.heap_setCell w _ v _ (by rw [add_block]; show ad.block ≠ a; omega))).trans hc
    go_enter Tryd.func143, Tryd.ntmps143
    go_wp2
    go_quiet (fail)
    go_wp2
    go_quiet (fail)
    go_wp2
    go_ret
    exact ⟨ret_int hf.out.symm, ⟨ha, some ad, c, ((hb.set 1 _).drewN _).drewN _, hlc, ((hr.ch ((Ch.refl (fun k => k = a) w).set (p := ⟨a, 1, none⟩) (Or.inl rfl) _) (fun k hk => by omega)).drewN _).drewN _⟩, (((But.refl _ _).set _ _).drewN _).drewN _⟩
  · have hf := Lib.hid (show fateAt fs u = 0 by unfold fateAt; rw [List.getD_eq_getElem?_getD, List.getElem?_eq_none (by omega)]; rfl)
    go_enter Tryd.func143, Tryd.ntmps143
    go_wp2
    go_quiet (fail)
    go_wp2
    go_ret
    exact ⟨ret_int hf.out.symm, ⟨ha, A, c, (hb.set 1 _).drewN _, hlc, (hr.ch ((Ch.refl (fun k => k = a) w).set (p := ⟨a, 1, none⟩) (Or.inl rfl) _) (fun k hk => by omega)).drewN _⟩, ((But.refl _ _).set _ _).drewN _⟩
set_option maxHeartbeats 1000000 in
theorem fatesNext_calls (a u base : Nat) (fs : List Int) (hu : u < 4611686018427387904) (w : World) (h : AirSt base w a 98 fs u) :
    Calls Tryd.prog 82 #[.pointer (some ⟨a, 0, none⟩)] w fun e w' => e = .returned (.int .i64 (fateAt fs u)) ∧ AirSt base w' a 98 fs (u + 1) ∧ But a w w' := by
  obtain ⟨ha, A, c, hb, hlc, hr⟩ := h
  obtain ⟨c0, f0⟩ := hb.c0
  obtain ⟨c1, f1⟩ := hb.c1
  have hl := hr.1
  by_cases h0 : u < fs.length
  · have hf := Lib.hid (show fateAt fs u = fs[u] by unfold fateAt; rw [List.getD_eq_getElem?_getD, List.getElem?_eq_getElem h0]; rfl)
    obtain ⟨ad, rfl, hk, hc⟩ := hr.cell_scal h0
    have hk2 : ∀ v, (w.setCell ⟨a, 1, none⟩ v).cell? (ad.add u) = some (.int .i64 fs[u]) := fun v => (World.cell?_of_block (Below.heap_setCell w _ v _ (by rw [add_block]; show ad.block ≠ a; omega))).trans hc
    go_enter Tryd.func82, Tryd.ntmps82
    go_wp2
    go_quiet (fail)
    go_wp2
    go_quiet (fail)
    go_wp2
    go_ret
    exact ⟨ret_int hf.out.symm, ⟨ha, some ad, c, ((hb.set 1 _).drewN _).drewN _, hlc, ((hr.ch ((Ch.refl (fun k => k = a) w).set (p := ⟨a, 1, none⟩) (Or.inl rfl) _) (fun k hk => by omega)).drewN _).drewN _⟩, (((But.refl _ _).set _ _).drewN _).drewN _⟩
  · have hf := Lib.hid (show fateAt fs u = 0 by unfold fateAt; rw [List.getD_eq_getElem?_getD, List.getElem?_eq_none (by omega)]; rfl)
    go_enter Tryd.func82, Tryd.ntmps82
    go_wp2
    go_quiet (fail)
    go_wp2
    go_ret
    exact ⟨ret_int hf.out.symm, ⟨ha, A, c, (hb.set 1 _).drewN _, hlc, (hr.ch ((Ch.refl (fun k => k = a) w).set (p := ⟨a, 1, none⟩) (Or.inl rfl) _) (fun k hk => by omega)).drewN _⟩, ((But.refl _ _).set _ _).drewN _⟩

/-- Two rows do not lie in one block. -/
def Apart (v u : Value) : Prop := ∀ k, v.ownBlock = some k → u.ownBlock ≠ some k
theorem Apart.symm {v u : Value} (h : Apart v u) : Apart u v := fun k hk e => h k e hk
/-- A row's block is the old one, or newer than w. -/
def Nx (w : World) (v v1 : Value) : Prop := v1.ownBlock = v.ownBlock ∨ ∃ b, v1.ownBlock = some b ∧ w.heap.size ≤ b
theorem Nx.refl (w : World) (v : Value) : Nx w v v := .inl rfl
theorem Nx.apart {w : World} {v v1 u : Value} (h : Nx w v v1) (ha : Apart v u) (hu : ∀ k, u.ownBlock = some k → k < w.heap.size) : Apart v1 u := by
  intro k hk e
  rcases h with h | ⟨b, hb, hle⟩
  · exact ha k (h ▸ hk) e
  · rw [hb] at hk
    injection hk with hk
    have := hu k e
    omega
theorem Nx.trans {w w1 : World} {v v1 v2 : Value} (h : Nx w v v1) (k : Nx w1 v1 v2) (hs : w.heap.size ≤ w1.heap.size) : Nx w v v2 := by
  rcases k with k | ⟨b, hb, hle⟩
  · rcases h with h | ⟨c, hc, hl⟩
    · exact .inl (k.trans h)
    · exact .inr ⟨c, k.trans hc, hl⟩
  · exact .inr ⟨b, hb, by omega⟩
/-- The cells of a block, but for two of them from o on. -/
def SameBut (cs cs' : Array Value) (o : Nat) : Prop := cs'.size = cs.size ∧ ∀ i, i ≠ o → i ≠ o + 1 → cs'[i]? = cs[i]?
theorem SameBut.refl (cs : Array Value) (o : Nat) : SameBut cs cs o := ⟨rfl, fun _ _ _ => rfl⟩
theorem SameBut.trans {a b c : Array Value} {o : Nat} (h : SameBut a b o) (k : SameBut b c o) : SameBut a c o := ⟨k.1.trans h.1, fun i h1 h2 => (k.2 i h1 h2).trans (h.2 i h1 h2)⟩
theorem SameBut.set {cs cs' : Array Value} {o : Nat} (h : SameBut cs cs' o) {i : Nat} (hi : i = o ∨ i = o + 1) (v : Value) : SameBut cs (cs'.setIfInBounds i v) o :=
  ⟨by simpa using h.1, fun j h1 h2 => by rw [Array.getElem?_setIfInBounds, if_neg (by omega)]; exact h.2 j h1 h2⟩
/-- What is under way, in the cells o and o + 1 of block b. -/
structure FlSt (base : Nat) (w : World) (b : Nat) (t o : Nat) (cs : Array Value) (vn vl : Value) (f : Fl) : Prop where
  blk : Blk w b cs t
  lo : base ≤ b
  ty : t ≠ 3
  now : cs[o]? = some vn
  late : cs[o + 1]? = some vl
  rnow : NRow w base vn f.now
  rlate : NRow w base vl f.late
  apart : Apart vn vl
theorem FlSt.ch {base b t o : Nat} {w w' : World} {cs : Array Value} {vn vl : Value} {f : Fl} {S : Nat → Prop} (h : FlSt base w b t o cs vn vl f) (hc : Ch S w w') (hb : ¬ S b) (hn : ∀ k, vn.ownBlock = some k → ¬ S k) (hl : ∀ k, vl.ownBlock = some k → ¬ S k) : FlSt base w' b t o cs vn vl f :=
  ⟨h.blk.ch hc hb, h.lo, h.ty, h.now, h.late, h.rnow.ch hc hn, h.rlate.ch hc hl, h.apart⟩
/-- The result of a send. -/
def SendPost (base : Nat) (w : World) (b t o a ta : Nat) (fs : List Int) (u : Nat) (cs : Array Value) (vn vl : Value) (f : Fl) (w' : World) : Prop :=
  ∃ cs' vn' vl', FlSt base w' b t o cs' vn' vl' f ∧ SameBut cs cs' o ∧ Nx w vn vn' ∧ Nx w vl vl' ∧ AirSt base w' a ta fs u ∧ Ch (fun k => k = b ∨ k = a ∨ vn.ownBlock = some k ∨ vl.ownBlock = some k) w w'
theorem sendPost_now {base b t o a ta u : Nat} {fs : List Int} {w w1 w2 : World} {cs : Array Value} {vn vl v1 : Value} {f : Fl} {ys : List Nat} (hF : FlSt base w b t o cs vn vl f) (hab : a ≠ b) (h1 : But a w w1) (hA : AirSt base w1 a ta fs u) (hta : ta ≠ 3) (hF1 : FlSt base w1 b t o cs vn vl f)
    (hO : NRow w2 base v1 (f.now ++ ys)) (hg : w1.grownBy w2 vn.ownBlock) (hat : v1.ownBlock = vn.ownBlock ∨ ∃ b, v1.ownBlock = some b ∧ w1.heap.size ≤ b) :
    SendPost base w b t o a ta fs u cs vn vl ⟨f.now ++ ys, f.late⟩ (w2.setCell ⟨b, o, none⟩ v1) := by
  have hsz := h1.size
  have hbb : base ≤ w1.heap.size := Nat.le_trans hA.1 (Nat.le_of_lt hA.lt)
  have hnb : some b ≠ vn.ownBlock := fun e => hF1.rnow.ne hF1.blk hF1.ty b e.symm rfl
  have hna : some a ≠ vn.ownBlock := fun e => by obtain ⟨_, A, c, hb, _⟩ := hA; exact hF1.rnow.ne hb hta a e.symm rfl
  have hap : Apart v1 vl := Nx.apart hat hF1.apart hF1.rlate.lt
  have hc12 : Ch (fun k => vn.ownBlock = some k) w1 w2 := (Ch.refl _ _).grown hg fun k hk => .inl hk
  have hc23 : Ch (fun k => k = b) w2 (w2.setCell ⟨b, o, none⟩ v1) := (Ch.refl (fun k => k = b) w2).set (p := ⟨b, o, none⟩) (.inl rfl) _
  have ho : o < cs.size := (Array.getElem?_eq_some_iff.1 hF.now).1
  have hb2 : Blk w2 b cs t := hF1.blk.grown hg hnb
  refine ⟨cs.setIfInBounds o v1, v1, vl, ⟨hb2.set o v1, hF.lo, hF.ty, by rw [Array.getElem?_setIfInBounds]; simp [ho], by rw [Array.getElem?_setIfInBounds, if_neg (by omega)]; exact hF.late, hO.ch hc23 (fun k hk e => hO.ne hb2 hF.ty k hk e), (hF1.rlate.ch hc12 (fun k hk e => hF1.apart k e hk)).ch hc23 (fun k hk e => (hF1.rlate.ch hc12 (fun k hk e => hF1.apart k e hk)).ne hb2 hF.ty k hk e), hap⟩, (SameBut.refl _ _).set (.inl rfl) _, ?_, Nx.refl _ _, ?_, ?_⟩
  · rcases hat with hat | ⟨c, hc, hl⟩
    · exact .inl hat
    · exact .inr ⟨c, hc, by omega⟩
  · exact (hA.ch hc12 (fun e => hna e.symm) (fun k hk e => by have := hF1.rnow.base k e; omega)).ch hc23 hab (fun k hk e => by have := hF.lo; omega)
  · exact ((Ch.of_but h1 (Or.inr (Or.inl rfl))).trans' hc12 (fun i _ e => .inr (.inr (.inl e)))).trans' hc23 (fun i _ e => .inl e)
theorem sendPost_late {base b t o a ta u : Nat} {fs : List Int} {w w1 w2 : World} {cs : Array Value} {vn vl v1 : Value} {f : Fl} {ys : List Nat} (hF : FlSt base w b t o cs vn vl f) (hab : a ≠ b) (h1 : But a w w1) (hA : AirSt base w1 a ta fs u) (hta : ta ≠ 3) (hF1 : FlSt base w1 b t o cs vn vl f)
    (hO : NRow w2 base v1 (f.late ++ ys)) (hg : w1.grownBy w2 vl.ownBlock) (hat : v1.ownBlock = vl.ownBlock ∨ ∃ b, v1.ownBlock = some b ∧ w1.heap.size ≤ b) :
    SendPost base w b t o a ta fs u cs vn vl ⟨f.now, f.late ++ ys⟩ (w2.setCell ⟨b, o + 1, none⟩ v1) := by
  have hsz := h1.size
  have hbb : base ≤ w1.heap.size := Nat.le_trans hA.1 (Nat.le_of_lt hA.lt)
  have hnb : some b ≠ vl.ownBlock := fun e => hF1.rlate.ne hF1.blk hF1.ty b e.symm rfl
  have hna : some a ≠ vl.ownBlock := fun e => by obtain ⟨_, A, c, hb, _⟩ := hA; exact hF1.rlate.ne hb hta a e.symm rfl
  have hap : Apart v1 vn := Nx.apart hat hF1.apart.symm hF1.rnow.lt
  have hc12 : Ch (fun k => vl.ownBlock = some k) w1 w2 := (Ch.refl _ _).grown hg fun k hk => .inl hk
  have hc23 : Ch (fun k => k = b) w2 (w2.setCell ⟨b, o + 1, none⟩ v1) := (Ch.refl (fun k => k = b) w2).set (p := ⟨b, o + 1, none⟩) (.inl rfl) _
  have ho : o + 1 < cs.size := (Array.getElem?_eq_some_iff.1 hF.late).1
  have hb2 : Blk w2 b cs t := hF1.blk.grown hg hnb
  have hrn := hF1.rnow.ch hc12 (fun k hk e => hF1.apart k hk e)
  refine ⟨cs.setIfInBounds (o + 1) v1, vn, v1, ⟨hb2.set (o + 1) v1, hF.lo, hF.ty, by rw [Array.getElem?_setIfInBounds, if_neg (by omega)]; exact hF.now, by rw [Array.getElem?_setIfInBounds]; simp [ho], hrn.ch hc23 (fun k hk e => hrn.ne hb2 hF.ty k hk e), hO.ch hc23 (fun k hk e => hO.ne hb2 hF.ty k hk e), hap.symm⟩, (SameBut.refl _ _).set (.inr rfl) _, Nx.refl _ _, ?_, ?_, ?_⟩
  · rcases hat with hat | ⟨c, hc, hl⟩
    · exact .inl hat
    · exact .inr ⟨c, hc, by omega⟩
  · exact (hA.ch hc12 (fun e => hna e.symm) (fun k hk e => by have := hF1.rlate.base k e; omega)).ch hc23 hab (fun k hk e => by have := hF.lo; omega)
  · exact ((Ch.of_but h1 (Or.inr (Or.inl rfl))).trans' hc12 (fun i _ e => .inr (.inr (.inr e)))).trans' hc23 (fun i _ e => .inl e)
set_option maxRecDepth 100000 in
set_option maxHeartbeats 2000000 in
theorem flightSend_calls (b t o a base n u : Nat) (cs : Array Value) (vn vl : Value) (f : Fl) (fs : List Int) (hu : u < 4611686018427387904) (hf1 : f.now.length < 1000000) (hf2 : f.late.length < 1000000) (w : World) (hF : FlSt base w b t o cs vn vl f) (hA : AirSt base w a 154 fs u) (hab : a ≠ b) :
    Calls Tryd.prog 128 #[.pointer (some ⟨b, o, none⟩), .int .i64 n, .pointer (some ⟨a, 0, none⟩)] w fun e w' => e = .returned (.tuple #[]) ∧ SendPost base w b t o a 154 fs (u + 1) cs vn vl (f.send n (fateAt fs u)) w' := by
  have Hab := Lib.hid hab
  clear hab
  by_cases h0 : fateAt fs u = 0
  · have e0 : (fateAt fs u == 0) = true := by simp [h0]
    have E := Lib.hid (show f.send n (fateAt fs u) = ⟨f.now ++ [n], f.late⟩ by unfold Fl.send; rw [if_pos h0])
    clear h0
    go_enter Tryd.func128, Tryd.ntmps128
    go_wp2_with (first
      | (go_at_call 143; go_must (refine (airNext_calls a u base fs hu _ hA).mono ?_; rintro e w1 ⟨rfl, hA1, hB1⟩; have hF1 := hF.ch (Ch.of_but (S := fun k => k = a) hB1 rfl) (fun e => Hab.out e.symm) (fun k hk e => by obtain ⟨_, _, _, hb, _⟩ := hA; exact hF.rnow.ne hb (by decide) k hk e) (fun k hk e => by obtain ⟨_, _, _, hb, _⟩ := hA; exact hF.rlate.ne hb (by decide) k hk e); have g0 : w1.cell? ⟨b, o, none⟩ = some vn := (hF1.blk.cell o).trans hF.now; have g3 : w1.cell? ⟨b, o + 1, none⟩ = some vl := (hF1.blk.cell (o + 1)).trans hF.late; have HF1 := Lib.hid hF1; clear hF1))
      | (at_builtin; go_must (refine nrow_append HF1.out.rnow [n] [.int .i64 n] rfl rfl (Nat.le_trans hA1.1 (Nat.le_of_lt hA1.lt)) Tryd.underlying22 infoInt (by simp; omega) rfl rfl rfl (by first | rfl | (go_simp; done)) ?_; intro v1 w2 hO hg hat; obtain ⟨A1, c1, rfl, -⟩ := hO.slice; have hb2 := HF1.out.blk.grown hg (fun e => HF1.out.rnow.ne HF1.out.blk HF1.out.ty b e.symm rfl); have g1 : w2.cell? ⟨b, o, none⟩ = some vn := (hb2.cell o).trans hF.now; have g2 := hb2.free o; have hX := Lib.hid (sendPost_now hF Hab.out hB1 hA1 (by decide) HF1.out hO hg hat); clear hO hg hat hb2)))
    go_end0
    rw [E.out]
    have h := hX.out
    rw [List.length_append] at h
    exact ⟨rfl, h⟩
  · have e0 : (fateAt fs u == 0) = false := by simp [h0]
    by_cases h2 : fateAt fs u = 2
    · have e2 : (fateAt fs u == 2) = true := by simp [h2]
      have E := Lib.hid (show f.send n (fateAt fs u) = ⟨f.now ++ [n, n], f.late⟩ by unfold Fl.send; rw [if_neg h0, if_pos h2])
      clear h0 h2
      go_enter Tryd.func128, Tryd.ntmps128
      go_wp2_with (first
        | (go_at_call 143; go_must (refine (airNext_calls a u base fs hu _ hA).mono ?_; rintro e w1 ⟨rfl, hA1, hB1⟩; have hF1 := hF.ch (Ch.of_but (S := fun k => k = a) hB1 rfl) (fun e => Hab.out e.symm) (fun k hk e => by obtain ⟨_, _, _, hb, _⟩ := hA; exact hF.rnow.ne hb (by decide) k hk e) (fun k hk e => by obtain ⟨_, _, _, hb, _⟩ := hA; exact hF.rlate.ne hb (by decide) k hk e); have g0 : w1.cell? ⟨b, o, none⟩ = some vn := (hF1.blk.cell o).trans hF.now; have g3 : w1.cell? ⟨b, o + 1, none⟩ = some vl := (hF1.blk.cell (o + 1)).trans hF.late; have HF1 := Lib.hid hF1; clear hF1))
        | (at_builtin; go_must (refine nrow_append HF1.out.rnow [n, n] [.int .i64 n, .int .i64 n] rfl rfl (Nat.le_trans hA1.1 (Nat.le_of_lt hA1.lt)) Tryd.underlying22 infoInt (by simp; omega) rfl rfl rfl (by first | rfl | (go_simp; done)) ?_; intro v1 w2 hO hg hat; obtain ⟨A1, c1, rfl, -⟩ := hO.slice; have hb2 := HF1.out.blk.grown hg (fun e => HF1.out.rnow.ne HF1.out.blk HF1.out.ty b e.symm rfl); have g1 : w2.cell? ⟨b, o, none⟩ = some vn := (hb2.cell o).trans hF.now; have g2 := hb2.free o; have hX := Lib.hid (sendPost_now hF Hab.out hB1 hA1 (by decide) HF1.out hO hg hat); clear hO hg hat hb2)))
      go_end0
      rw [E.out]
      have h := hX.out
      rw [List.length_append] at h
      exact ⟨rfl, h⟩
    · have e2 : (fateAt fs u == 2) = false := by simp [h2]
      by_cases h3 : fateAt fs u = 3
      · have e3 : (fateAt fs u == 3) = true := by simp [h3]
        have E := Lib.hid (show f.send n (fateAt fs u) = ⟨f.now, f.late ++ [n]⟩ by unfold Fl.send; rw [if_neg h0, if_neg h2, if_pos h3])
        clear h0 h2 h3
        go_enter Tryd.func128, Tryd.ntmps128
        go_wp2_with (first
          | (go_at_call 143; go_must (refine (airNext_calls a u base fs hu _ hA).mono ?_; rintro e w1 ⟨rfl, hA1, hB1⟩; have hF1 := hF.ch (Ch.of_but (S := fun k => k = a) hB1 rfl) (fun e => Hab.out e.symm) (fun k hk e => by obtain ⟨_, _, _, hb, _⟩ := hA; exact hF.rnow.ne hb (by decide) k hk e) (fun k hk e => by obtain ⟨_, _, _, hb, _⟩ := hA; exact hF.rlate.ne hb (by decide) k hk e); have g0 : w1.cell? ⟨b, o, none⟩ = some vn := (hF1.blk.cell o).trans hF.now; have g3 : w1.cell? ⟨b, o + 1, none⟩ = some vl := (hF1.blk.cell (o + 1)).trans hF.late; have HF1 := Lib.hid hF1; clear hF1))
          | (at_builtin; go_must (refine nrow_append HF1.out.rlate [n] [.int .i64 n] rfl rfl (Nat.le_trans hA1.1 (Nat.le_of_lt hA1.lt)) Tryd.underlying22 infoInt (by simp; omega) rfl rfl rfl (by first | rfl | (go_simp; done)) ?_; intro v1 w2 hO hg hat; obtain ⟨A1, c1, rfl, -⟩ := hO.slice; have hb2 := HF1.out.blk.grown hg (fun e => HF1.out.rlate.ne HF1.out.blk HF1.out.ty b e.symm rfl); have g1 : w2.cell? ⟨b, o + 1, none⟩ = some vl := (hb2.cell (o + 1)).trans hF.late; have g2 := hb2.free (o + 1); have hX := Lib.hid (sendPost_late hF Hab.out hB1 hA1 (by decide) HF1.out hO hg hat); clear hO hg hat hb2)))
        go_end0
        rw [E.out]
        have h := hX.out
        rw [List.length_append] at h
        exact ⟨rfl, h⟩
      · have e3 : (fateAt fs u == 3) = false := by simp [h3]
        have E := Lib.hid (show f.send n (fateAt fs u) = f by unfold Fl.send; rw [if_neg h0, if_neg h2, if_neg h3])
        clear h0 h2 h3
        go_enter Tryd.func128, Tryd.ntmps128
        go_wp2_with (go_at_call 143; go_must (refine (airNext_calls a u base fs hu _ hA).mono ?_; rintro e w1 ⟨rfl, hA1, hB1⟩; have hF1 := hF.ch (Ch.of_but (S := fun k => k = a) hB1 rfl) (fun e => Hab.out e.symm) (fun k hk e => by obtain ⟨_, _, _, hb, _⟩ := hA; exact hF.rnow.ne hb (by decide) k hk e) (fun k hk e => by obtain ⟨_, _, _, hb, _⟩ := hA; exact hF.rlate.ne hb (by decide) k hk e); have g0 : w1.cell? ⟨b, o, none⟩ = some vn := (hF1.blk.cell o).trans hF.now; have g3 : w1.cell? ⟨b, o + 1, none⟩ = some vl := (hF1.blk.cell (o + 1)).trans hF.late; have HF1 := Lib.hid hF1; clear hF1))
        go_end0
        rw [E.out]
        exact ⟨rfl, cs, vn, vl, HF1.out, SameBut.refl _ _, Nx.refl _ _, Nx.refl _ _, hA1, Ch.of_but hB1 (Or.inr (Or.inl rfl))⟩
end Go.Proofs.YtlkklaahnkcnkaaDoor.X
