/- Channels of the reference: hear. -/
import Derived.Test.YtlkklaahnkcnkaaDoorO
namespace Go.Proofs.YtlkklaahnkcnkaaDoor.X
open Go.RowKit

set_option maxRecDepth 100000 in
set_option maxHeartbeats 8000000 in
theorem refHear_calls (base b a many kA : Nat) (A : Option Addr) (w : World) (fs : List Int) (cs : Array Value) (vp va vn vr : Value) (acked : Nat) (rc : Rc) (lateP lateA now : List Nat) (arrived : Bool) (packets acks used : Nat)
    (h : RefC base w b a many A kA fs cs vp va vn vr acked rc lateP lateA now arrived packets acks used) (hl : now.length < 1000000) :
    Calls Tryd.prog 50 #[.pointer (some ⟨b, 0, none⟩)] w fun e w' => e = .returned (.tuple #[]) ∧ (∃ cs', RefC base w' b a many A kA fs cs' vp va vn vr (maxAll acked now) rc lateP lateA now arrived packets acks used) ∧ Below base w w' := by
  have H := Lib.hid h
  obtain ⟨A0, k0, e0, -⟩ := h.rn.slice
  subst e0
  have g5 := (h.blk.cell 5).trans h.c5
  clear h
  go_enter Tryd.func50, Tryd.ntmps50
  go_wp2
  clear g5
  go_loopg [3, 9] now.length (fun kq x i W => ∃ (j : Nat) (cs : Array Value), i = .int .i64 j ∧ Hid (kq + j = now.length ∧ RefC base W b a many A kA fs cs vp va (.slice A0 now.length k0) vr (maxAll acked (now.take j)) rc lateP lateA now arrived packets acks used ∧ Below base w W))
  case atStart => exact ⟨0, _, rfl, Lib.hid ⟨by omega, H.out, Below.refl _ _⟩⟩
  case round =>
    obtain ⟨j, cs1, rfl, R⟩ := hrel
    have HC := Lib.hid R.out.2.1
    by_cases hj : j < now.length
    · have q1 := (HC.out.blk.cell 1).trans HC.out.c1
      have q1' := HC.out.blk.free 1
      obtain ⟨A', k', e', -, hrow⟩ := HC.out.rn.row (by omega)
      obtain ⟨ad, e2, -, hcell⟩ := hrow.cell_scal hj
      obtain ⟨rfl, rfl⟩ : A0 = some ad ∧ k0 = k' := by simpa [e2] using e'
      clear e' e2 hrow
      have Hsn := Lib.hid (show maxAll acked (now.take (j + 1)) = max (maxAll acked (now.take j)) now[j] by rw [List.take_succ_eq_append_getElem hj, maxAll_snoc])
      go_wp2_with fail
      all_goals
        go_roundg (gk - 1)
        case measure => have := R.out.1; omega
        case rel =>
          have h := HC.out.acked' (maxAll acked (now.take (j + 1)))
          have hv := Hsn.out
          first
            | (have e : max (maxAll acked (now.take j)) now[j] = now[j] := by omega
               rw [e] at hv
               have hb := HC.out.base' 1 (.int .i64 (now[j] : Nat))
               refine ⟨j + 1, cs1.setIfInBounds 1 (.int .i64 (now[j] : Nat)), by go_num, Lib.hid ⟨by have := R.out.1; omega, ?_, R.out.2.2.trans hb⟩⟩
               rw [hv] at h ⊢
               exact h)
            | (have e : max (maxAll acked (now.take j)) now[j] = maxAll acked (now.take j) := by omega
               rw [e] at hv
               have hb := HC.out.base' 1 (.int .i64 (maxAll acked (now.take j) : Nat))
               refine ⟨j + 1, cs1.setIfInBounds 1 (.int .i64 (maxAll acked (now.take j) : Nat)), by go_num, Lib.hid ⟨by have := R.out.1; omega, ?_, R.out.2.2.trans hb⟩⟩
               rw [hv] at h ⊢
               exact h)
    · go_wp2_with fail
      go_end0
      have h := R.out.2.1
      rw [List.take_of_length_le (by omega)] at h
      exact ⟨rfl, ⟨_, h⟩, R.out.2.2⟩
end Go.Proofs.YtlkklaahnkcnkaaDoor.X
