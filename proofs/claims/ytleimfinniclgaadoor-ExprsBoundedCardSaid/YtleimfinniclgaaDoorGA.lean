/- Generators: the stream, in plain words. -/
import Derived.Test.YtleimfinniclgaaDoorKC
namespace Go.Proofs.YtleimfinniclgaaDoor.M
open Go.Proofs
set_option linter.unusedSimpArgs false
set_option linter.unusedVariables false
set_option maxRecDepth 100000
set_option pp.deepTerms false
set_option pp.deepTerms.threshold 6
set_option maxHeartbeats 4000000
def ints' (xs : List Int) : List AVal := xs.map (.int .i64)
def strm (l : List Int) (at_ : Int) : ABlk := .cells [(.lst (ints' l), false), (.int .i64 at_, false)]
@[simp] theorem hset_hset (hp : Heap) (s : Nat) (b c : ABlk) : hset (hset hp s b) s c = hset hp s c := by
  induction hp with
  | nil => rfl
  | cons p hp ih =>
    obtain ⟨i, x⟩ := p
    by_cases h : s = i
    · simp [hset, h]
    · simp [hset, h, ih]
theorem hget_hset_same (hp : Heap) (s : Nat) (b : ABlk) : hget (hset hp s b) s = if (hget hp s).isSome = true then some b else none := by rw [hget_hset, if_pos rfl]
theorem wrap_small {n : Int} (h0 : -9223372036854775808 ≤ n) (h1 : n < 9223372036854775808) : IntKind.i64.wrap n = n := by
  unfold IntKind.wrap
  simp [IntKind.bits, IntKind.signed]
  omega
def belowF (x n : Int) : Int := if n < 1 then 0 else x % n
theorem tmod_fix (x n : Int) (h : ¬ n < 1) : (if x.tmod n < 0 then x.tmod n + n else x.tmod n) = x % n := by
  rw [Int.tmod_eq_emod]
  have h1 := Int.emod_nonneg x (show n ≠ 0 by omega)
  have h2 := Int.emod_lt_of_pos x (show 0 < n by omega)
  have h3 : (n.natAbs : Int) = n := by omega
  split
  · split <;> omega
  · split <;> omega
@[simp] theorem below_R (x n : Int) (hn : n < 9223372036854775808) (ro nx : Nat) (hp : Heap) : R K 30 [.int .i64 x, .int .i64 n] ro nx hp = some ⟨.int .i64 (belowF x n), false, nx, hp⟩ := by
  unfold belowF
  rw [R_val' K ro 30 _ nx hp [] Tryd.func30 rfl Tryd.ntmps30 Tryd.results30 (mu := []) rfl (by kernel_rfl) rfl rfl]; simp only [slim, slimO, annO, List.map, List.zip, List.zipWith, List.lookup, holed, Nat.reduceBEq]
  by_cases h : n < 1
  · simp [List.replicate, h]
  · have h0 : n ≠ 0 := by omega
    have hf := tmod_fix x n h
    simp [List.replicate, h, h0]
    split
    · rename_i hx
      have hw : IntKind.i64.wrap (x.tmod n + n) = x.tmod n + n := by
        have := Int.tmod_lt_of_pos x (show 0 < n by omega)
        have := Int.lt_tmod_of_pos x (show 0 < n by omega)
        exact wrap_small (by omega) (by omega)
      rw [if_pos hx] at hf
      rw [hf] at hw
      simp [hw, hf]
    · rename_i hx
      rw [if_neg hx] at hf
      simp [hf]
/-- What the stream's next number is. -/
def nextF (l : List Int) (a n : Int) : Int := if l = [] then belowF (IntKind.i64.wrap ((a + 1) * 7919)) n else
  belowF (IntKind.i64.wrap (belowF (l.getD (a.tmod l.length).toNat 0) 1073741824 + IntKind.i64.wrap (IntKind.i64.wrap (a.tdiv l.length) * IntKind.i64.wrap (7919 + a.tmod l.length)))) n
theorem next_R (l : List Int) (a n : Int) (s ro nx : Nat) (hp : Heap) (ha : 0 ≤ a ∧ a < 4611686018427387904) (hn : n < 4611686018427387904) (hl : l.length < 4611686018427387904) (hs : hget hp s = some (strm l a)) (hro : ro ≤ s) :
    R K 15 [.ptr s 0, .int .i64 n] ro nx hp = some ⟨.int .i64 (nextF l a n), false, nx, hset hp s (strm l (a + 1))⟩ := by
  have hn' : n < 9223372036854775808 := by omega
  unfold nextF
  rw [R_body' K ro 15 _ nx hp [] Tryd.func15 rfl Tryd.ntmps15 Tryd.results15 (mu := []) rfl (by kernel_rfl) rfl rfl rfl]; simp only [slim, slimO, annO, List.map, List.zip, List.zipWith, List.lookup, holed, Nat.reduceBEq]
  simp only [strm] at hs
  have hw : IntKind.i64.wrap (a + 1) = a + 1 := wrap_small (by omega) (by omega)
  have hg : hget (hset hp s (ABlk.cells [(.lst (ints' l), false), (.int .i64 (a + 1), false)])) s = some (ABlk.cells [(.lst (ints' l), false), (.int .i64 (a + 1), false)]) := by rw [hget_hset_same]; simp [hs]
  have hlen : (ints' l).length = l.length := by simp [ints']
  simp [List.replicate, strm, hs, hw, hro, hg, hlen]
  by_cases hl0 : l = []
  · subst hl0
    simp [hn', below_R]
  · have hpos : 0 < l.length := List.length_pos_iff.2 hl0
    have hne : ¬ (l.length : Int) = 0 := by omega
    have hw2 : IntKind.i64.wrap a = a := wrap_small (by omega) (by omega)
    have hm0 : 0 ≤ a.tmod l.length := Int.tmod_nonneg _ ha.1
    have hm1 : a.tmod l.length < l.length := Int.tmod_lt_of_pos _ (by omega)
    have hq0 : 0 ≤ a.tdiv l.length := Int.tdiv_nonneg ha.1 (by omega)
    have hx : (ints' l)[(a.tmod l.length).toNat]? = some (.int .i64 (l.getD (a.tmod l.length).toNat 0)) := by
      unfold ints'
      rw [List.getElem?_map, List.getElem?_eq_getElem (show (a.tmod l.length).toNat < l.length by omega), List.getD_eq_getElem?_getD, List.getElem?_eq_getElem (show (a.tmod l.length).toNat < l.length by omega)]
      rfl
    simp [hl0, hg, hw2, hlen, hne, hn', below_R, hm0, hx]
theorem belowF_range (x n : Int) : (1 ≤ n → 0 ≤ belowF x n ∧ belowF x n < n) ∧ (n < 1 → belowF x n = 0) := by
  unfold belowF
  constructor
  · intro h
    rw [if_neg (by omega)]
    exact ⟨Int.emod_nonneg _ (by omega), Int.emod_lt_of_pos _ (by omega)⟩
  · intro h; rw [if_pos h]
theorem nextF_range (l : List Int) (a n : Int) : (1 ≤ n → 0 ≤ nextF l a n ∧ nextF l a n < n) ∧ (n < 1 → nextF l a n = 0) := by
  unfold nextF
  split
  · exact belowF_range _ _
  · exact belowF_range _ _
theorem flip_R (l : List Int) (a n : Int) (s ro nx : Nat) (hp : Heap) (ha : 0 ≤ a ∧ a < 4611686018427387904) (hn : n < 4611686018427387904) (hl : l.length < 4611686018427387904) (hs : hget hp s = some (strm l a)) (hro : ro ≤ s) :
    R K 14 [.ptr s 0, .int .i64 n] ro nx hp = some ⟨.bool (nextF l a n == 0), false, nx, hset hp s (strm l (a + 1))⟩ := by
  have h1 := next_R l a n s ro nx hp ha hn hl hs hro
  rw [R_body' K ro 14 _ nx hp [] Tryd.func14 rfl Tryd.ntmps14 Tryd.results14 (mu := []) rfl (by kernel_rfl) rfl rfl rfl]; simp only [slim, slimO, annO, List.map, List.zip, List.zipWith, List.lookup, holed, Nat.reduceBEq]
  simp [List.replicate, h1]
theorem range_R (l : List Int) (a lo hi : Int) (s ro nx : Nat) (hp : Heap) (ha : 0 ≤ a ∧ a < 4611686018427387904) (h1 : -1073741824 < lo ∧ lo < 1073741824) (h2 : -1073741824 < hi ∧ hi < 1073741824) (hlh : lo ≤ hi) (hl : l.length < 4611686018427387904) (hs : hget hp s = some (strm l a)) (hro : ro ≤ s) :
    R K 19 [.ptr s 0, .int .i64 lo, .int .i64 hi] ro nx hp = some ⟨.int .i64 (lo + nextF l a (hi - lo + 1)), false, nx, hset hp s (strm l (a + 1))⟩ := by
  have hN := next_R l a (hi - lo + 1) s ro nx hp ha (by omega) hl hs hro
  have hw1 : IntKind.i64.wrap (hi - lo) = hi - lo := wrap_small (by omega) (by omega)
  have hw2 : IntKind.i64.wrap (hi - lo + 1) = hi - lo + 1 := wrap_small (by omega) (by omega)
  have hr := (nextF_range l a (hi - lo + 1)).1 (by omega)
  have hw3 : IntKind.i64.wrap (lo + nextF l a (hi - lo + 1)) = lo + nextF l a (hi - lo + 1) := wrap_small (by omega) (by omega)
  have hnl : ¬ hi < lo := by omega
  rw [R_body' K ro 19 _ nx hp [] Tryd.func19 rfl Tryd.ntmps19 Tryd.results19 (mu := []) rfl (by kernel_rfl) rfl rfl rfl]; simp only [slim, slimO, annO, List.map, List.zip, List.zipWith, List.lookup, holed, Nat.reduceBEq]
  simp [List.replicate, hN, hw1, hw2, hw3, hnl]
def pickF (l : List Int) (a : Int) (ls : List Int) : Int := ls.getD (nextF l a ls.length).toNat 0
theorem pick_R (l : List Int) (a : Int) (ls : List Int) (s ro nx : Nat) (hp : Heap) (ha : 0 ≤ a ∧ a < 4611686018427387904) (h1 : 1 ≤ ls.length ∧ ls.length < 1073741824) (hl : l.length < 4611686018427387904) (hs : hget hp s = some (strm l a)) (hro : ro ≤ s) :
    R K 13 [.ptr s 0, .lst (ints' ls)] ro nx hp = some ⟨.int .i64 (pickF l a ls), false, nx, hset hp s (strm l (a + 1))⟩ := by
  have hN := next_R l a ls.length s ro nx hp ha (by omega) hl hs hro
  have hr := (nextF_range l a ls.length).1 (by omega)
  have hlen : (ints' ls).length = ls.length := by simp [ints']
  have hx : (ints' ls)[(nextF l a ls.length).toNat]? = some (.int .i64 (pickF l a ls)) := by
    unfold ints' pickF
    rw [List.getElem?_map, List.getElem?_eq_getElem (show (nextF l a ls.length).toNat < ls.length by omega), List.getD_eq_getElem?_getD, List.getElem?_eq_getElem (show (nextF l a ls.length).toNat < ls.length by omega)]
    rfl
  rw [R_body' K ro 13 _ nx hp [] Tryd.func13 rfl Tryd.ntmps13 Tryd.results13 (mu := []) rfl (by kernel_rfl) rfl rfl rfl]; simp only [slim, slimO, annO, List.map, List.zip, List.zipWith, List.lookup, holed, Nat.reduceBEq]
  simp [List.replicate, hlen, hN, hr.1, hx]
def strs (xs : List ByteArray) : List AVal := xs.map .str
def someF (l : List Int) (a : Int) (ls : List ByteArray) : ByteArray := ls.getD (nextF l a ls.length).toNat ByteArray.empty
theorem some_R (l : List Int) (a : Int) (ls : List ByteArray) (s ro nx : Nat) (hp : Heap) (ha : 0 ≤ a ∧ a < 4611686018427387904) (h1 : 1 ≤ ls.length ∧ ls.length < 1073741824) (hl : l.length < 4611686018427387904) (hs : hget hp s = some (strm l a)) (hro : ro ≤ s) :
    R K 17 [.ptr s 0, .lst (strs ls)] ro nx hp = some ⟨.str (someF l a ls), false, nx, hset hp s (strm l (a + 1))⟩ := by
  have hN := next_R l a ls.length s ro nx hp ha (by omega) hl hs hro
  have hr := (nextF_range l a ls.length).1 (by omega)
  have hlen : (strs ls).length = ls.length := by simp [strs]
  have hx : (strs ls)[(nextF l a ls.length).toNat]? = some (.str (someF l a ls)) := by
    unfold strs someF
    rw [List.getElem?_map, List.getElem?_eq_getElem (show (nextF l a ls.length).toNat < ls.length by omega), List.getD_eq_getElem?_getD, List.getElem?_eq_getElem (show (nextF l a ls.length).toNat < ls.length by omega)]
    rfl
  rw [R_body' K ro 17 _ nx hp [] Tryd.func17 rfl Tryd.ntmps17 Tryd.results17 (mu := []) rfl (by kernel_rfl) rfl rfl rfl]; simp only [slim, slimO, annO, List.map, List.zip, List.zipWith, List.lookup, holed, Nat.reduceBEq]
  simp [List.replicate, hlen, hN, hr.1, hx]
def oddF (l : List Int) (a lo hi : Int) : Int × Int := if nextF l a 12 = 0 then (pickF l (a + 1) [lo - 1, hi + 1, lo, hi, -1099511627776, 1099511627776], a + 2) else (lo + nextF l (a + 1) (hi - lo + 1), a + 2)
theorem odd_R (l : List Int) (a lo hi : Int) (s ro nx : Nat) (hp : Heap) (ha : 0 ≤ a ∧ a < 4611686018427387900) (h1 : -1073741824 < lo ∧ lo < 1073741823) (h2 : -1073741824 < hi ∧ hi < 1073741823) (hlh : lo ≤ hi) (hl : l.length < 4611686018427387904) (hs : hget hp s = some (strm l a)) (hro : ro ≤ s) :
    R K 16 [.ptr s 0, .int .i64 lo, .int .i64 hi] ro nx hp = some ⟨.int .i64 (oddF l a lo hi).1, false, nx, hset hp s (strm l (a + 2))⟩ := by
  have hF := flip_R l a 12 s ro nx hp (by omega) (by omega) hl hs hro
  have hg : hget (hset hp s (strm l (a + 1))) s = some (strm l (a + 1)) := by rw [hget_hset_same]; simp [hs]
  have hP := pick_R l (a + 1) [lo - 1, hi + 1, lo, hi, -1099511627776, 1099511627776] s ro nx _ (by omega) (by simp) hl hg hro
  have hR := range_R l (a + 1) lo hi s ro nx _ (by omega) (by omega) (by omega) hlh hl hg hro
  have hw1 : IntKind.i64.wrap (lo - 1) = lo - 1 := wrap_small (by omega) (by omega)
  have hw2 : IntKind.i64.wrap (hi + 1) = hi + 1 := wrap_small (by omega) (by omega)
  have e2 : a + 1 + 1 = a + 2 := by omega
  simp only [ints', List.map_cons, List.map_nil] at hP
  unfold oddF
  rw [R_body' K ro 16 _ nx hp [] Tryd.func16 rfl Tryd.ntmps16 Tryd.results16 (mu := []) rfl (by kernel_rfl) rfl rfl rfl]; simp only [slim, slimO, annO, List.map, List.zip, List.zipWith, List.lookup, holed, Nat.reduceBEq]
  by_cases h0 : nextF l a 12 = 0
  · simp [List.replicate, hF, h0, hw1, hw2, hP, e2]
  · simp [List.replicate, hF, h0, hR, e2]
end Go.Proofs.YtleimfinniclgaaDoor.M
