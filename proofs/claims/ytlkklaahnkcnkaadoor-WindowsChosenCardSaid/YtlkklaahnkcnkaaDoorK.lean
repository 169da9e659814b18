/- Channels of the reference, walked. -/
import Derived.Test.YtlkklaahnkcnkaaDoorH
import Derived.IntWalk
namespace Go.Proofs.YtlkklaahnkcnkaaDoor.X
open Go.RowKit

/-- What sent hands back. -/
def SentPost (base : Nat) (w : World) (vn vl : Value) (f : Fl) (e : Ending) (w' : World) : Prop :=
  ∃ (A1 A2 : Option Addr) (n1 n2 c1 c2 : Nat), e = .returned (.tuple #[.slice A1 n1 c1, .slice A2 n2 c2]) ∧ NRow w' base (.slice A1 n1 c1) f.now ∧ NRow w' base (.slice A2 n2 c2) f.late ∧ Apart (.slice A1 n1 c1) (.slice A2 n2 c2) ∧ Nx w vn (.slice A1 n1 c1) ∧ Nx w vl (.slice A2 n2 c2) ∧ Ch (fun k => vn.ownBlock = some k ∨ vl.ownBlock = some k) w w'
theorem sentPost_now {base : Nat} {w w2 : World} {vn vl : Value} {f : Fl} {ys : List Nat} {A1 : Option Addr} {n1 c1 : Nat} (h2 : NRow w base vl f.late) (ha : Apart vn vl) (hO : NRow w2 base (.slice A1 n1 c1) (f.now ++ ys)) (hg : w.grownBy w2 vn.ownBlock) (hat : Nx w vn (.slice A1 n1 c1)) : ∀ e, (∃ A2 n2 c2, vl = .slice A2 n2 c2 ∧ e = .returned (.tuple #[.slice A1 n1 c1, .slice A2 n2 c2])) → SentPost base w vn vl ⟨f.now ++ ys, f.late⟩ e w2 := by
  rintro e ⟨A2, n2, c2, rfl, rfl⟩
  have hc : Ch (fun k => vn.ownBlock = some k) w w2 := (Ch.refl _ _).grown hg fun k hk => .inl hk
  exact ⟨A1, A2, n1, n2, c1, c2, rfl, hO, h2.ch hc (fun k hk e => ha k e hk), hat.apart ha h2.lt, hat, Nx.refl _ _, hc.mono fun _ _ e => .inl e⟩
theorem sentPost_late {base : Nat} {w w2 : World} {vn vl : Value} {f : Fl} {ys : List Nat} {A1 : Option Addr} {n1 c1 : Nat} (h1 : NRow w base vn f.now) (ha : Apart vn vl) (hO : NRow w2 base (.slice A1 n1 c1) (f.late ++ ys)) (hg : w.grownBy w2 vl.ownBlock) (hat : Nx w vl (.slice A1 n1 c1)) : ∀ e, (∃ A2 n2 c2, vn = .slice A2 n2 c2 ∧ e = .returned (.tuple #[.slice A2 n2 c2, .slice A1 n1 c1])) → SentPost base w vn vl ⟨f.now, f.late ++ ys⟩ e w2 := by
  rintro e ⟨A2, n2, c2, rfl, rfl⟩
  have hc : Ch (fun k => vl.ownBlock = some k) w w2 := (Ch.refl _ _).grown hg fun k hk => .inl hk
  exact ⟨A2, A1, n2, n1, c2, c1, rfl, h1.ch hc (fun k hk e => ha k hk e), hO, (hat.apart ha.symm h1.lt).symm, Nx.refl _ _, hat, hc.mono fun _ _ e => .inr e⟩
set_option maxHeartbeats 2000000 in
theorem sent_calls (base n : Nat) (k : Int) (vn vl : Value) (f : Fl) (w : World) (hbb : base ≤ w.heap.size) (h1 : NRow w base vn f.now) (h2 : NRow w base vl f.late) (ha : Apart vn vl) (hf1 : f.now.length < 1000000) (hf2 : f.late.length < 1000000) :
    Calls Tryd.prog 81 #[.int .i64 n, .int .i64 k, vn, vl] w (SentPost base w vn vl (f.send n k)) := by
  have H1 := Lib.hid h1
  have H2 := Lib.hid h2
  have Ha := Lib.hid ha
  obtain ⟨A0, m0, c0, e0⟩ := h1.slice3
  obtain ⟨A9, m9, c9, e9⟩ := h2.slice3
  clear h1 h2 ha
  subst e0 e9
  by_cases h0 : k = 0
  · have e0 : (k == 0) = true := by simp [h0]
    have E := Lib.hid (show f.send n k = ⟨f.now ++ [n], f.late⟩ by unfold Fl.send; rw [if_pos h0])
    clear h0
    go_enter Tryd.func81, Tryd.ntmps81
    go_wp2_with (at_builtin; go_must (refine nrow_append H1.out [n] [.int .i64 n] rfl rfl hbb Tryd.underlying22 infoInt (by simp; omega) rfl rfl rfl (by first | rfl | (go_simp; done)) ?_; intro v1 w2 hO hg hat; obtain ⟨A1, n1, c1, rfl⟩ := hO.slice3; have HX := Lib.hid (sentPost_now (f := f) H2.out Ha.out hO hg hat); clear hO hg hat))
    go_ret2
    rw [E.out]
    exact HX.out _ ⟨_, _, _, rfl, rfl⟩
  · have e0 : (k == 0) = false := by simp [h0]
    by_cases h2 : k = 2
    · have e2 : (k == 2) = true := by simp [h2]
      have E := Lib.hid (show f.send n k = ⟨f.now ++ [n, n], f.late⟩ by unfold Fl.send; rw [if_neg h0, if_pos h2])
      clear h0 h2
      go_enter Tryd.func81, Tryd.ntmps81
      go_wp2_with (at_builtin; go_must (refine nrow_append H1.out [n, n] [.int .i64 n, .int .i64 n] rfl rfl hbb Tryd.underlying22 infoInt (by simp; omega) rfl rfl rfl (by first | rfl | (go_simp; done)) ?_; intro v1 w2 hO hg hat; obtain ⟨A1, n1, c1, rfl⟩ := hO.slice3; have HX := Lib.hid (sentPost_now (f := f) H2.out Ha.out hO hg hat); clear hO hg hat))
      go_ret2
      rw [E.out]
      exact HX.out _ ⟨_, _, _, rfl, rfl⟩
    · have e2 : (k == 2) = false := by simp [h2]
      by_cases h3 : k = 3
      · have e3 : (k == 3) = true := by simp [h3]
        have E := Lib.hid (show f.send n k = ⟨f.now, f.late ++ [n]⟩ by unfold Fl.send; rw [if_neg h0, if_neg h2, if_pos h3])
        clear h0 h2 h3
        go_enter Tryd.func81, Tryd.ntmps81
        go_wp2_with (at_builtin; go_must (refine nrow_append H2.out [n] [.int .i64 n] rfl rfl hbb Tryd.underlying22 infoInt (by simp; omega) rfl rfl rfl (by first | rfl | (go_simp; done)) ?_; intro v1 w2 hO hg hat; obtain ⟨A1, n1, c1, rfl⟩ := hO.slice3; have HX := Lib.hid (sentPost_late (f := f) H1.out Ha.out hO hg hat); clear hO hg hat))
        go_ret2
        rw [E.out]
        exact HX.out _ ⟨_, _, _, rfl, rfl⟩
      · have e3 : (k == 3) = false := by simp [h3]
        have E := Lib.hid (show f.send n k = f by unfold Fl.send; rw [if_neg h0, if_neg h2, if_neg h3])
        clear h0 h2 h3
        go_enter Tryd.func81, Tryd.ntmps81
        go_wp2_with fail
        go_ret2
        rw [E.out]
        exact ⟨_, _, _, _, _, _, rfl, H1.out, H2.out, Ha.out, Nx.refl _ _, Nx.refl _ _, Ch.refl _ _⟩

/-- The channel of the reference at block b; the fates at block a. -/
structure RefC (base : Nat) (w : World) (b a many : Nat) (A : Option Addr) (kA : Nat) (fs : List Int) (cs : Array Value) (vp va vn vr : Value) (acked : Nat) (rc : Rc) (lateP lateA now : List Nat) (arrived : Bool) (packets acks used : Nat) : Prop where
  sz : cs.size = 11
  blk : Blk w b cs 95
  lo : base ≤ b
  c0 : cs[0]? = some (.slice A many kA)
  c1 : cs[1]? = some (.int .i64 acked)
  c2 : cs[2]? = some (.int .i64 rc.accepted)
  c3 : cs[3]? = some vp
  c4 : cs[4]? = some va
  c5 : cs[5]? = some vn
  c6 : cs[6]? = some (.bool arrived)
  c7 : cs[7]? = some vr
  c8 : cs[8]? = some (.int .i64 packets)
  c9 : cs[9]? = some (.int .i64 acks)
  c10 : cs[10]? = some (.int .i64 rc.waste)
  rp : NRow w base vp lateP
  ra : NRow w base va lateA
  rn : NRow w base vn now
  rr : NRow w base vr rc.rounds
  air : AirSt base w a 98 fs used
  ab : a ≠ b
  pa : Apart vp va
  pn : Apart vp vn
  pr : Apart vp vr
  an : Apart va vn
  ar : Apart va vr
  nr : Apart vn vr
end Go.Proofs.YtlkklaahnkcnkaaDoor.X
