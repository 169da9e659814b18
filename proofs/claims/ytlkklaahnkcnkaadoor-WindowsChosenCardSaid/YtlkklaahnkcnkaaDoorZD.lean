/- pblaw1.carried: package lossy carries. -/
import Derived.Test.YtlkklaahnkcnkaaDoorW
namespace Go.Proofs.YtlkklaahnkcnkaaDoor.X
open Go.RowKit

theorem carried_fault : faultF [⟨ByteArray.empty, 7⟩] [] 1 5 = 0 := by decide
theorem carried_run : (carryF [] 1 1 5).1 = 1 ∧ (carryF [] 1 1 5).2.packets = 1 ∧ (carryF [] 1 1 5).2.acks = 1 ∧ (carryF [] 1 1 5).2.acked = 1 ∧ (carryF [] 1 1 5).2.rc.accepted = 1 := by decide
theorem one_letter (w : World) : Row kLt (w.alloc (.cells #[.string ⟨#[]⟩, .int .i64 7] 47)) (fun _ => True) (some ⟨w.heap.size, 0, none⟩) [⟨⟨#[]⟩, 7⟩] := by
  refine ⟨by decide, fun _ => ⟨_, rfl, trivial, fun j p hj => ?_⟩⟩
  have hb := Blk.new w #[.string ⟨#[]⟩, .int .i64 7] 47
  match j, hj with
  | 0, hj =>
    obtain rfl : (⟨⟨#[]⟩, 7⟩ : Lt) = p := by simpa using hj
    refine ⟨_, kLt_mk _ _ _, fun i u hu => ?_⟩
    match i, hu with
    | 0, hu => obtain rfl : Value.string ⟨#[]⟩ = u := by simpa using hu
               exact hb.c0.1
    | 1, hu => obtain rfl : Value.int .i64 7 = u := by simpa using hu
               exact hb.c1.1
set_option maxRecDepth 100000 in
theorem carried_carry (w : World) : Calls Tryd.prog 14 #[.slice (some ⟨w.heap.size, 0, none⟩) 1 1, .slice none 0 0, .int .i64 1, .int .i64 5] (w.alloc (.cells #[.string ⟨#[]⟩, .int .i64 7] 47)) fun e w' =>
    ∃ v1, e = .returned (.tuple #[v1, .agg #[.int .i64 1, .int .i64 1, .int .i64 1], .bool true, .int .i64 0]) ∧ Own kLt 47 w' (w.heap.size + 1) (fun _ => True) v1 [⟨⟨#[]⟩, 7⟩] ∧ Below (w.heap.size + 1) (w.alloc (.cells #[.string ⟨#[]⟩, .int .i64 7] 47)) w' := by
  have hcar := carryR_calls (some ⟨w.heap.size, 0, none⟩) none [⟨⟨#[]⟩, 7⟩] [] 1 0 1 5 _ (one_letter w) (by intro h; cases h) (by decide) (Row.nil _) (by decide)
  refine hcar.mono ?_
  rintro e w1 (⟨h1, _⟩ | ⟨h1, v1, rfl, hO, hB⟩)
  · exact absurd carried_fault h1
  · obtain ⟨r1, r2, r3, r4, r5⟩ := carried_run
    refine ⟨v1, ?_, ?_, ?_⟩
    · show Ending.returned (.tuple #[v1, .agg #[.int .i64 ((carryF [] 1 1 5).1 : Nat), .int .i64 ((carryF [] 1 1 5).2.packets : Nat), .int .i64 ((carryF [] 1 1 5).2.acks : Nat)], .bool (decide (1 ≤ (carryF [] 1 1 5).2.acked)), .int .i64 0]) = _
      rw [r1, r2, r3, r4]
      rfl
    · have e1 : ([⟨⟨#[]⟩, 7⟩] : List Lt).take (carryF [] 1 1 5).2.rc.accepted = [⟨⟨#[]⟩, 7⟩] := by rw [r5]; rfl
      have h2 : Own kLt 47 w1 (w.alloc (.cells #[.string ⟨#[]⟩, .int .i64 7] 47)).heap.size (fun _ => True) v1 (([⟨⟨#[]⟩, 7⟩] : List Lt).take (carryF [] 1 1 5).2.rc.accepted) := hO
      rw [e1] at h2
      simpa using h2
    · simpa using hB
set_option maxRecDepth 100000 in
set_option maxHeartbeats 2000000 in
theorem carried_calls (w : World) : Calls Tryd.prog 26 #[] w fun e w' => e = .returned (.bool true) ∧ Below w.heap.size w w' := by
  have hcar := carried_carry w
  go_enter Tryd.func26, Tryd.ntmps26
  go_wp2_with (go_at_call 14; go_must (refine hcar.mono ?_; rintro e w1 ⟨v1, rfl, hO, hB⟩; obtain ⟨A1, c1, rfl, hc1, hr1⟩ := hO.row; rw [show ([⟨⟨#[]⟩, 7⟩] : List Lt).length = 1 from rfl]))
  go_ret
  exact ⟨rfl, ((Below.refl _ _).alloc (Nat.le_refl _) _).trans (hB.mono (by omega)) |>.alloc (by have := hB.size; simp at this; omega) _⟩
end Go.Proofs.YtlkklaahnkcnkaaDoor.X
