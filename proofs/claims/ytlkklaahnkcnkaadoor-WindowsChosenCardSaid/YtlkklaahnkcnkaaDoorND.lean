/- lossy.Worst. -/
import Derived.Test.YtlkklaahnkcnkaaDoorNC
namespace Go.Proofs.YtlkklaahnkcnkaaDoor.X
open Go.RowKit

def worstOk (m l k : Int) : Prop := (0 ≤ m ∧ m ≤ 6) ∧ (0 ≤ l ∧ l ≤ 3) ∧ 1 ≤ k ∧ k ≤ 20
instance (m l k : Int) : Decidable (worstOk m l k) := by unfold worstOk; infer_instance
/-- What Worst hands back. -/
def WorstR (w : World) (m l k : Int) (e : Ending) (w' : World) : Prop :=
  ((¬ worstOk m l k ∧ e = .returned (.tuple #[.slice none 0 0, .int .i64 0, .int .i64 1])) ∨
   (worstOk m l k ∧ ∃ A c, e = .returned (.tuple #[.slice A (worst m.toNat k.toNat l.toNat [] ⟨[], -1⟩).best.length c, .int .i64 (worst m.toNat k.toNat l.toNat [] ⟨[], -1⟩).rounds, .int .i64 0]) ∧ Row kInt w' (fun _ => True) A (worst m.toNat k.toNat l.toNat [] ⟨[], -1⟩).best)) ∧ Below w.heap.size w w'
set_option maxHeartbeats 4000000 in
theorem worst_calls (m l k : Int) (w : World) : Calls Tryd.prog 30 #[.int .i64 m, .int .i64 l, .int .i64 k] w (WorstR w m l k) := by
  by_cases h1 : 0 ≤ m ∧ m ≤ 6
  · have d1 : (!decide (0 ≤ m ∧ m ≤ 6)) = false := by simp [h1]
    by_cases h2 : 0 ≤ l ∧ l ≤ 3
    · have d2 : (!decide (0 ≤ l ∧ l ≤ 3)) = false := by simp [h2]
      by_cases h3 : 1 ≤ k ∧ k ≤ 20
      · have d3 : (!decide (1 ≤ k ∧ k ≤ 20)) = false := by simp [h3]
        have hok := Lib.hid (show worstOk m l k from ⟨h1, h2, h3⟩)
        obtain ⟨mn, rfl⟩ := Int.eq_ofNat_of_zero_le h1.1
        obtain ⟨ln, rfl⟩ := Int.eq_ofNat_of_zero_le h2.1
        obtain ⟨kn, rfl⟩ := Int.eq_ofNat_of_zero_le (show 0 ≤ k by omega)
        have hadv : Adv (w.alloc (.cells #[.int .i64 mn, .int .i64 kn, .slice none 0 0, .int .i64 (-1)] 119)) w.heap.size mn kn ⟨[], -1⟩ := ⟨none, 0, Blk.new _ _ _, Nat.le_refl _, fun _ => rfl, Row.nil _⟩
        have hcall := try_calls w.heap.size mn kn (by omega) (by omega) ln (by omega) none 0 [] ⟨[], -1⟩ _ hadv ⟨by simp, by decide, by decide⟩ (Row.nil _) (Nat.le_refl _) (fun _ => rfl) (by simp)
        clear h1 h2 h3 hadv
        go_enter Tryd.func30, Tryd.ntmps30
        go_wp2_with (first
          | (go_at_call 52; go_must (refine (outside_calls _ _ _ _).mono ?_; rintro e w' ⟨rfl, rfl⟩; first | rw [d1] | rw [d2] | rw [d3]))
          | (go_at_call 63; go_must (refine hcall.mono ?_; rintro e w1 ⟨rfl, ⟨A, c, hb, hc, hA, hr⟩, hk, hbut⟩; have k2 := hb.c2.1; have k3 := hb.c3.1)))
        go_quiet (fail)
        go_wp2_with fail
        refine bodyPost_ret (v := .tuple #[.slice A (worst mn kn ln [] ⟨[], -1⟩).best.length c, .int .i64 (worst mn kn ln [] ⟨[], -1⟩).rounds, .int .i64 0]) ?_ rfl ?_
        · simp [results, Tryd.results30, go_sem]
        · refine ⟨.inr ⟨hok.out, A, c, rfl, ?_⟩, ?_⟩
          · exact hr.mono fun _ _ => trivial
          · exact (((But.refl w.heap.size w).alloc _).trans hbut |>.drewN nq).below (Nat.le_refl _)
      · have d3 : (!decide (1 ≤ k ∧ k ≤ 20)) = true := by simp [h3]
        have hok := Lib.hid (show ¬ worstOk m l k from fun h => h3 h.2.2)
        clear h1 h2 h3
        go_enter Tryd.func30, Tryd.ntmps30
        go_wp2_with (go_at_call 52; go_must (refine (outside_calls _ _ _ _).mono ?_; rintro e w' ⟨rfl, rfl⟩; first | rw [d1] | rw [d2] | rw [d3]))
        refine bodyPost_ret (v := .tuple #[.slice none 0 0, .int .i64 0, .int .i64 1]) ?_ rfl ⟨.inl ⟨hok.out, rfl⟩, Below.refl _ _⟩
        simp [results, Tryd.results30, go_sem]
    · have d2 : (!decide (0 ≤ l ∧ l ≤ 3)) = true := by simp [h2]
      have hok := Lib.hid (show ¬ worstOk m l k from fun h => h2 h.2.1)
      clear h1 h2
      go_enter Tryd.func30, Tryd.ntmps30
      go_wp2_with (go_at_call 52; go_must (refine (outside_calls _ _ _ _).mono ?_; rintro e w' ⟨rfl, rfl⟩; first | rw [d1] | rw [d2]))
      refine bodyPost_ret (v := .tuple #[.slice none 0 0, .int .i64 0, .int .i64 1]) ?_ rfl ⟨.inl ⟨hok.out, rfl⟩, Below.refl _ _⟩
      simp [results, Tryd.results30, go_sem]
  · have d1 : (!decide (0 ≤ m ∧ m ≤ 6)) = true := by simp [h1]
    have hok := Lib.hid (show ¬ worstOk m l k from fun h => h1 h.1)
    clear h1
    go_enter Tryd.func30, Tryd.ntmps30
    go_wp2_with (go_at_call 52; go_must (refine (outside_calls _ _ _ _).mono ?_; rintro e w' ⟨rfl, rfl⟩; rw [d1]))
    refine bodyPost_ret (v := .tuple #[.slice none 0 0, .int .i64 0, .int .i64 1]) ?_ rfl ⟨.inl ⟨hok.out, rfl⟩, Below.refl _ _⟩
    simp [results, Tryd.results30, go_sem]
end Go.Proofs.YtlkklaahnkcnkaaDoor.X
