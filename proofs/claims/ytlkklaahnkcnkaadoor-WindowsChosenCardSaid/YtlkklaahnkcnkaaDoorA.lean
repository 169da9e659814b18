/- The stream of numbers: what its methods return. -/
import Derived.Test.YtlkklaahnkcnkaaDoorLib
namespace Go.Proofs.YtlkklaahnkcnkaaDoor.X
open Go.RowKit

def belowB (x n : Int) : Int := if n < 1 then 0 else if Int.tmod x n < 0 then wrap64 (Int.tmod x n + n) else Int.tmod x n
theorem belowB_range (x n : Int) (hn : n ≤ 9223372036854775807) : 0 ≤ belowB x n ∧ (belowB x n < n ∨ belowB x n = 0) := by
  unfold belowB
  split
  · omega
  · have h1 := Int.tmod_lt_of_pos x (b := n) (by omega)
    have h2 : -n < Int.tmod x n := by
      have := Int.lt_tmod_of_pos x (b := n) (by omega)
      omega
    split
    · unfold wrap64; omega
    · omega
theorem below_calls (x n : Int) (w : World) : Calls Tryd.prog 77 #[.int .i64 x, .int .i64 n] w fun e w' => e = .returned (.int .i64 (belowB x n)) ∧ w = w' := by
  unfold belowB
  by_cases h : n < 1
  · rw [if_pos h]
    go_enter Tryd.func77, Tryd.ntmps77
    go_wp2
    go_ret
    exact ⟨rfl, rfl⟩
  · rw [if_neg h]
    have h0 : (n == 0) = false := by simp; omega
    by_cases h1 : Int.tmod x n < 0
    all_goals
      simp only [h1, if_true, if_false]
      go_enter Tryd.func77, Tryd.ntmps77
      go_wp2
      go_ret
      exact ⟨rfl, rfl⟩

/-- A number is handed out: at least 0, and below n (or 0). -/
def NextPost (n : Int) (w0 : World) (g m : Nat) (w : World) (e : Ending) (w' : World) : Prop :=
  ∃ r : Int, e = .returned (.int .i64 r) ∧ (0 ≤ r ∧ (r < n ∨ r = 0)) ∧ St w0 w' g (m + 1) ∧ But g w w'
set_option maxHeartbeats 1000000 in
theorem next_calls (n : Int) (hn : n ≤ 9223372036854775807) (g m : Nat) (hm : m < 4611686018427387904) (w0 w : World) (h : St w0 w g m) (hB : Below w0.heap.size w0 w) :
    Calls Tryd.prog 42 #[.pointer (some ⟨g, 0, none⟩), .int .i64 n] w (NextPost n w0 g m w) := by
  obtain ⟨hg, A, c, xs, at_, hat, hb, hlc, hr⟩ := h
  have c0 := hb.cell 0
  have c1 := hb.cell 1
  have f1 := hb.free 1
  simp only [List.getElem?_toArray, List.getElem?_cons_zero, List.getElem?_cons_succ] at c0 c1
  by_cases h0 : xs.length = 0
  · have e0 : ((xs.length : Int) == 0) = true := by simp [h0]
    clear h0
    go_enter Tryd.func42, Tryd.ntmps42
    go_wp2_with (go_at_call 77; refine (below_calls _ _ _).mono ?_; rintro e w' ⟨rfl, rfl⟩)
    go_ret
    exact ⟨_, rfl, belowB_range _ _ hn, ⟨hg, A, c, xs, at_ + 1, by omega, hb.set 1 _, hlc, hr⟩, (But.refl _ _).set _ _⟩
  · have e0 : ((xs.length : Int) == 0) = false := by simp [h0]
    have hl := hr.1
    have hp : 0 < (xs.length : Int) := by omega
    obtain ⟨ad, rfl, -, hc⟩ := hr.cell_scal (Nat.mod_lt at_ (by omega : 0 < xs.length))
    have i0 : 0 ≤ (at_ : Int) % xs.length := Int.emod_nonneg _ (by omega)
    have i1 : (at_ : Int) % xs.length < xs.length := Int.emod_lt_of_pos _ hp
    have hk : ∀ v, (w.setCell ⟨g, 1, none⟩ v).cell? (ad.add (at_ % xs.length)) = some (.int .i64 (xs[at_ % xs.length]'(Nat.mod_lt _ (by omega)))) := fun v => cell_old hc hB (by exact hg) v
    clear h0
    go_enter Tryd.func42, Tryd.ntmps42
    go_wp2_with (go_at_call 77; refine (below_calls _ _ _).mono ?_; rintro e w' ⟨rfl, rfl⟩)
    go_quiet (fail)
    go_wp2
    go_quiet (fail)
    go_wp2_with (go_at_call 77; refine (below_calls _ _ _).mono ?_; rintro e w' ⟨rfl, rfl⟩)
    go_ret
    exact ⟨_, rfl, belowB_range _ _ hn, ⟨hg, some ad, c, xs, at_ + 1, by omega, (hb.set 1 _).drewN _, hlc, hr⟩, ((But.refl _ _).set _ _).drewN _⟩

/-- A bool is told; one number has been drawn. -/
def FlipPost (w0 : World) (g m : Nat) (w : World) (e : Ending) (w' : World) : Prop :=
  ∃ b : Bool, e = .returned (.bool b) ∧ St w0 w' g (m + 1) ∧ But g w w'
theorem flip_calls (n : Int) (hn : n ≤ 9223372036854775807) (g m : Nat) (hm : m < 4611686018427387904) (w0 w : World) (h : St w0 w g m) (hB : Below w0.heap.size w0 w) :
    Calls Tryd.prog 28 #[.pointer (some ⟨g, 0, none⟩), .int .i64 n] w (FlipPost w0 g m w) := by
  go_enter Tryd.func28, Tryd.ntmps28
  go_wp2_with (go_at_call 42; refine (next_calls n hn g m hm w0 _ h hB).mono ?_; rintro e w' ⟨r, rfl, hr, hs, hk⟩)
  go_ret
  exact ⟨_, rfl, hs, hk⟩

theorem range_calls (a b : Int) (ha : -4398046511104 ≤ a) (hb : b ≤ 4398046511104) (hab : a ≤ b) (g m : Nat) (hm : m < 4611686018427387904) (w0 w : World) (h : St w0 w g m) (hB : Below w0.heap.size w0 w) :
    Calls Tryd.prog 40 #[.pointer (some ⟨g, 0, none⟩), .int .i64 a, .int .i64 b] w fun e w' => ∃ r : Int, e = .returned (.int .i64 r) ∧ (a ≤ r ∧ r ≤ b) ∧ St w0 w' g (m + 1) ∧ But g w w' := by
  go_enter Tryd.func40, Tryd.ntmps40
  go_wp2_with (go_at_call 42; refine (next_calls _ (by omega) g m hm w0 _ h hB).mono ?_; rintro e w' ⟨r, rfl, hr, hs, hk⟩)
  go_ret
  exact ⟨a + r, rfl, by omega, hs, hk⟩

/-- A call has changed block g alone; a cell elsewhere is as it was. -/
theorem But.cell {g : Nat} {w w' : World} (h : But g w w') {a : Addr} {v : Value} (hc : w.cell? a = some v) (ha : a.block ≠ g) : w'.cell? a = some v :=
  (World.cell?_of_block (h.block _ (cell_some_lt hc) ha)).trans hc

/-- Pick: some element of a list that is not empty. -/
theorem pick_calls (A : Option Addr) (xs : List Int) (c : Nat) (hx : 0 < xs.length) (g m : Nat) (hm : m < 4611686018427387904) (w0 w : World) (h : St w0 w g m) (hB : Below w0.heap.size w0 w) (hi : Row kInt w (· ≠ g) A xs) :
    Calls Tryd.prog 27 #[.pointer (some ⟨g, 0, none⟩), .slice A xs.length c] w fun e w' => ∃ r : Int, e = .returned (.int .i64 r) ∧ r ∈ xs ∧ St w0 w' g (m + 1) ∧ But g w w' := by
  have hl := hi.1
  have H := Lib.hid hi
  clear hi
  go_enter Tryd.func27, Tryd.ntmps27
  go_wp2_with (go_at_call 42; go_must (refine (next_calls _ (by omega) g m hm w0 _ h hB).mono ?_; rintro e w' ⟨r, rfl, hr, hs, hk⟩; obtain ⟨r, rfl⟩ := Int.eq_ofNat_of_zero_le hr.1; have hr' : r < xs.length := (by omega); obtain ⟨ad, rfl, hb, hc⟩ := H.out.cell_scal hr'; have hcell := hk.cell hc (by rw [add_block]; exact hb)))
  go_ret
  exact ⟨_, rfl, List.getElem_mem _, hs, hk⟩
theorem some_calls (A : Option Addr) (xs : List ByteArray) (c : Nat) (hx : 0 < xs.length) (g m : Nat) (hm : m < 4611686018427387904) (w0 w : World) (h : St w0 w g m) (hB : Below w0.heap.size w0 w) (hi : Row kStr w (· ≠ g) A xs) :
    Calls Tryd.prog 41 #[.pointer (some ⟨g, 0, none⟩), .slice A xs.length c] w fun e w' => ∃ r : ByteArray, e = .returned (.string r) ∧ r ∈ xs ∧ St w0 w' g (m + 1) ∧ But g w w' := by
  have hl := hi.1
  have H := Lib.hid hi
  clear hi
  go_enter Tryd.func41, Tryd.ntmps41
  go_wp2_with (go_at_call 42; go_must (refine (next_calls _ (by omega) g m hm w0 _ h hB).mono ?_; rintro e w' ⟨r, rfl, hr, hs, hk⟩; obtain ⟨r, rfl⟩ := Int.eq_ofNat_of_zero_le hr.1; have hr' : r < xs.length := (by omega); obtain ⟨ad, rfl, hb, hc⟩ := H.out.cell_scal hr'; have hcell := hk.cell hc (by rw [add_block]; exact hb)))
  go_ret
  exact ⟨_, rfl, List.getElem_mem _, hs, hk⟩

theorem odd_calls (a b : Int) (ha : -4398046511104 < a) (hb : b < 4398046511104) (hab : a ≤ b) (g m : Nat) (hm : m < 4611686018427387903) (w0 w : World) (h : St w0 w g m) (hB : Below w0.heap.size w0 w) :
    Calls Tryd.prog 43 #[.pointer (some ⟨g, 0, none⟩), .int .i64 a, .int .i64 b] w fun e w' => ∃ r : Int, e = .returned (.int .i64 r) ∧ (-4398046511104 ≤ r ∧ r ≤ 4398046511104) ∧ St w0 w' g (m + 2) ∧ But g w w' := by
  go_enter Tryd.func43, Tryd.ntmps43
  go_wp2_with (first
    | (go_at_call 28; go_must (refine (flip_calls _ (by omega) g m (by omega) w0 _ h hB).mono ?_; rintro e w' ⟨q, rfl, hs, hk⟩))
    | (go_at_call 27; go_must (refine (pick_calls _ [a - 1, b + 1, a, b, -1099511627776, 1099511627776] 6 (by simp) g (m + 1) (by omega) w0 _ (hs.alloc _) (below_al (h.keep hB hk) _) (Row.lit_scal _ (Blk.new _ _ _) rfl (by have := hs.lt; simp; omega) (by simp))).mono ?_; rintro e w'' ⟨r, rfl, hr, hs', hk'⟩))
    | (go_at_call 40; go_must (refine (range_calls a b (by omega) (by omega) hab g (m + 1) (by omega) w0 _ hs (h.keep hB hk)).mono ?_; rintro e w'' ⟨r, rfl, hr, hs', hk'⟩)))
  · go_ret
    exact ⟨r, rfl, by simp at hr; omega, hs', (hk.alloc _).trans hk'⟩
  · go_ret
    exact ⟨r, rfl, by omega, hs', hk.trans hk'⟩
end Go.Proofs.YtlkklaahnkcnkaaDoor.X
