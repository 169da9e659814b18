/- Rounds, Waste. -/
import Derived.Test.YtlkklaahnkcnkaaDoorV
namespace Go.Proofs.YtlkklaahnkcnkaaDoor.X
open Go.RowKit

def RoundsR (w : World) (fault : Int) (s : C9) (e : Ending) (w' : World) : Prop :=
  (fault ≠ 0 ∧ e = .returned (.tuple #[.slice none 0 0, .int .i64 fault]) ∧ Below w.heap.size w w') ∨
  (fault = 0 ∧ ∃ v1, e = .returned (.tuple #[v1, .int .i64 0]) ∧ NRow w' w.heap.size v1 s.rc.rounds ∧ Below w.heap.size w w')
def WasteR (w : World) (fault : Int) (s : C9) (e : Ending) (w' : World) : Prop :=
  (fault ≠ 0 ∧ e = .returned (.tuple #[.int .i64 0, .int .i64 fault]) ∧ Below w.heap.size w w') ∨
  (fault = 0 ∧ e = .returned (.tuple #[.int .i64 s.rc.waste, .int .i64 0]) ∧ Below w.heap.size w w')

set_option maxRecDepth 100000 in
set_option maxHeartbeats 4000000 in
theorem rounds_calls (A B : Option Addr) (xs : List Lt) (fs : List Int) (c c2 window most : Nat) (w : World) (hr : Row kLt w (fun _ => True) A xs) (hf : Row kInt w (fun _ => True) B fs) (hc : fs.length ≤ c2) :
    Calls Tryd.prog 15 #[.slice A xs.length c, .slice B fs.length c2, .int .i64 window, .int .i64 most] w (RoundsR w (faultF xs fs window most) (carryF fs xs.length window most).2) := by
  have HR := Lib.hid hr
  have HF := Lib.hid hf
  clear hr hf
  obtain ⟨rd, s, hs⟩ : ∃ rd s, carryF fs xs.length window most = (rd, s) := ⟨_, _, rfl⟩
  have HS := Lib.hid hs
  rw [hs]
  show Calls _ _ _ _ (RoundsR w _ s)
  clear hs
  obtain ⟨fl, hfl⟩ : ∃ fl, fl = faultF xs fs window most := ⟨_, rfl⟩
  rw [← hfl]
  have Hfl := Lib.hid hfl
  clear hfl
  by_cases h0 : fl = 0
  · subst h0
    go_enter Tryd.func15, Tryd.ntmps15
    go_wp2_with (go_at_call 46; go_must (refine (checked_calls A B xs fs c c2 window most _ HR.out HF.out hc).mono ?_; rw [HS.out, ← Hfl.out]; rintro e w1 (⟨hne, -, -⟩ | ⟨-, A0, A1, A2, A3, A4, n0, n1, n2, n3, n4, c0, c1, c2', c3, c4, heard, rfl, hn1, hb1⟩); exact absurd rfl hne; have HN := Lib.hid (And.intro hn1 hb1); have hC := Blk.new w1 #[.int .i64 xs.length, .int .i64 s.acked, .int .i64 s.rc.accepted, .slice A0 n0 c0, .slice A1 n1 c1, .slice A2 n2 c2', .slice A3 n3 c3, .bool heard, .int .i64 s.rc.waste, .int .i64 rd, .int .i64 s.packets, .int .i64 s.acks, .slice A4 n4 c4, .int .i64 s.used, .bool (decide (xs.length ≤ s.acked))] 90; have p12 : (w1.alloc (.cells #[.int .i64 xs.length, .int .i64 s.acked, .int .i64 s.rc.accepted, .slice A0 n0 c0, .slice A1 n1 c1, .slice A2 n2 c2', .slice A3 n3 c3, .bool heard, .int .i64 s.rc.waste, .int .i64 rd, .int .i64 s.packets, .int .i64 s.acks, .slice A4 n4 c4, .int .i64 s.used, .bool (decide (xs.length ≤ s.acked))] 90)).cell? ⟨w1.heap.size, 12, none⟩ = some (.slice A4 n4 c4) := (hC.cell 12).trans rfl; clear hn1 hb1 hC))
    go_ret2
    exact .inr ⟨rfl, _, rfl, (HN.out.1.ch (Ch.alloc (Ch.refl (fun _ => False) _) _) fun _ _ e => e), HN.out.2.alloc (by have := HN.out.2.size; omega) _⟩
  · have e1 : (fl == 0) = false := by simp [h0]
    have H0 := Lib.hid h0
    clear h0
    go_enter Tryd.func15, Tryd.ntmps15
    go_wp2_with (go_at_call 46; go_must (refine (checked_calls A B xs fs c c2 window most _ HR.out HF.out hc).mono ?_; rw [HS.out, ← Hfl.out]; rintro e w1 (⟨-, rfl, hb1⟩ | ⟨h0, -⟩); rotate_left 1; exact absurd h0 H0.out; have HB := Lib.hid hb1; clear hb1))
    go_ret2
    exact .inl ⟨H0.out, rfl, HB.out.alloc (by have := HB.out.size; omega) _⟩

set_option maxRecDepth 100000 in
set_option maxHeartbeats 4000000 in
theorem waste_calls (A B : Option Addr) (xs : List Lt) (fs : List Int) (c c2 window most : Nat) (w : World) (hr : Row kLt w (fun _ => True) A xs) (hf : Row kInt w (fun _ => True) B fs) (hc : fs.length ≤ c2) :
    Calls Tryd.prog 16 #[.slice A xs.length c, .slice B fs.length c2, .int .i64 window, .int .i64 most] w (WasteR w (faultF xs fs window most) (carryF fs xs.length window most).2) := by
  have HR := Lib.hid hr
  have HF := Lib.hid hf
  clear hr hf
  obtain ⟨rd, s, hs⟩ : ∃ rd s, carryF fs xs.length window most = (rd, s) := ⟨_, _, rfl⟩
  have HS := Lib.hid hs
  rw [hs]
  show Calls _ _ _ _ (WasteR w _ s)
  clear hs
  obtain ⟨fl, hfl⟩ : ∃ fl, fl = faultF xs fs window most := ⟨_, rfl⟩
  rw [← hfl]
  have Hfl := Lib.hid hfl
  clear hfl
  by_cases h0 : fl = 0
  · subst h0
    go_enter Tryd.func16, Tryd.ntmps16
    go_wp2_with (go_at_call 46; go_must (refine (checked_calls A B xs fs c c2 window most _ HR.out HF.out hc).mono ?_; rw [HS.out, ← Hfl.out]; rintro e w1 (⟨hne, -, -⟩ | ⟨-, A0, A1, A2, A3, A4, n0, n1, n2, n3, n4, c0, c1, c2', c3, c4, heard, rfl, hn1, hb1⟩); exact absurd rfl hne; have HN := Lib.hid (And.intro hn1 hb1); have hC := Blk.new w1 #[.int .i64 xs.length, .int .i64 s.acked, .int .i64 s.rc.accepted, .slice A0 n0 c0, .slice A1 n1 c1, .slice A2 n2 c2', .slice A3 n3 c3, .bool heard, .int .i64 s.rc.waste, .int .i64 rd, .int .i64 s.packets, .int .i64 s.acks, .slice A4 n4 c4, .int .i64 s.used, .bool (decide (xs.length ≤ s.acked))] 90; have p8 : (w1.alloc (.cells #[.int .i64 xs.length, .int .i64 s.acked, .int .i64 s.rc.accepted, .slice A0 n0 c0, .slice A1 n1 c1, .slice A2 n2 c2', .slice A3 n3 c3, .bool heard, .int .i64 s.rc.waste, .int .i64 rd, .int .i64 s.packets, .int .i64 s.acks, .slice A4 n4 c4, .int .i64 s.used, .bool (decide (xs.length ≤ s.acked))] 90)).cell? ⟨w1.heap.size, 8, none⟩ = some (.int .i64 s.rc.waste) := (hC.cell 8).trans rfl; clear hn1 hb1 hC))
    go_ret2
    exact .inr ⟨rfl, rfl, HN.out.2.alloc (by have := HN.out.2.size; omega) _⟩
  · have e1 : (fl == 0) = false := by simp [h0]
    have H0 := Lib.hid h0
    clear h0
    go_enter Tryd.func16, Tryd.ntmps16
    go_wp2_with (go_at_call 46; go_must (refine (checked_calls A B xs fs c c2 window most _ HR.out HF.out hc).mono ?_; rw [HS.out, ← Hfl.out]; rintro e w1 (⟨-, rfl, hb1⟩ | ⟨h0, -⟩); rotate_left 1; exact absurd h0 H0.out; have HB := Lib.hid hb1; clear hb1))
    go_ret2
    exact .inl ⟨H0.out, rfl, HB.out.alloc (by have := HB.out.size; omega) _⟩
end Go.Proofs.YtlkklaahnkcnkaaDoor.X
