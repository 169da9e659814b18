/- The law: ExprsBounded, run by the machine. -/
import Derived.Test.YtleimfinniclgaaDoorFJ
import Derived.Test.YtleimfinniclgaaDoorGE
namespace Go.Proofs.YtleimfinniclgaaDoor.M
open Go.Proofs Go.Proofs.YtleimfinniclgaaDoor.X
set_option linter.unusedSimpArgs false
set_option linter.unusedVariables false
set_option maxRecDepth 100000
set_option pp.deepTerms false
set_option pp.deepTerms.threshold 6
set_option maxHeartbeats 4000000
@[simp] theorem ints_ids' (n : Nat) (l : List Int) : idsLts n (ints' l) = true := by
  induction l with
  | nil => simp [ints']
  | cons x r ih => rw [show ints' (x :: r) = .int .i64 x :: ints' r from rfl, idsLts_cons, ih]; simp
theorem law_R (l : List Int) (hl : l.length < 4611686018427387904) (ro nx : Nat) (hp : Heap) : R K 3 [.lst (ints' l)] ro nx hp = some ⟨.bool true, false, nx, hp⟩ := by
  have hB : Base 1 [(0, strm l 0)] := by constructor <;> simp [hlow, hclean, strm]
  obtain ⟨x, a1, hx, ha1, ha1'⟩ := anExpr_R l 0 0 0 1 [(0, strm l 0)] (by omega) (by omega) hl (by simp) (by omega) hB
  have hx' : hset [(0, strm l 0)] 0 (strm l a1) = [(0, strm l a1)] := by simp [hset]
  rw [hx'] at hx
  have hB1 : Base 1 [(0, strm l a1)] := by constructor <;> simp [hlow, hclean, strm]
  obtain ⟨y, a2, own, hy, ha2, ha2'⟩ := spanList_R l a1 0 0 1 [(0, strm l a1)] (by omega) (by omega) hl (by simp) (by omega) hB1
  have hy' : hset [(0, strm l a1)] 0 (strm l a2) = [(0, strm l a2)] := by simp [hset]
  rw [hy'] at hy
  have hor := fun ro nx hp => or_R [exF x 1, spsF y] (by simp) ro nx hp
  simp only [ints', List.map_cons, List.map_nil, orF] at hor
  have hbd := vBounds_R x y
  have hef := exprFaultQ_R x
  have hsf := spansFault1_R y
  have hst : ABlk.cells [(.lst (ints' l), false), (.int .i64 0, false)] = strm l 0 := rfl
  simp only [encX_eq] at hx hbd hef
  have hva := valued_R
  rw [R_val' K ro 3 _ nx hp [] Tryd.func3 rfl Tryd.ntmps3 Tryd.results3 (mu := []) rfl (by kernel_rfl) rfl rfl]; simp only [slim, slimO, annO, List.map, List.zip, List.zipWith, List.lookup, holed, Nat.reduceBEq]
  by_cases c1 : exF x 1 = 0
  · by_cases c2 : spsF y = 0
    · have hbo := fun ro nx hp => bof1_R c2 c1 ro nx hp
      simp only [encX_eq] at hbo
      simp only [bndsF, c1, c2, ne_eq, not_true_eq_false, if_false] at hbd
      simp only [c1, c2, ne_eq, not_true_eq_false, if_false] at hor
      cases own <;> simp [List.replicate, hst, hx, hy, hbd, hef, hsf, hor, hbo, hva, c1, c2]
    · have c2' : spsF y ≠ 0 := c2
      simp only [bndsF, c1, ne_eq, not_true_eq_false, if_false, if_pos c2'] at hbd
      simp only [c1, ne_eq, not_true_eq_false, if_false, if_pos c2'] at hor
      cases own <;> simp [List.replicate, hst, hx, hy, hbd, hef, hsf, hor, hva, c1, c2]
  · have c1' : exF x 1 ≠ 0 := c1
    simp only [bndsF, if_pos c1'] at hbd
    simp only [if_pos c1'] at hor
    cases own <;> simp [List.replicate, hst, hx, hy, hbd, hef, hsf, hor, hva, c1]
end Go.Proofs.YtleimfinniclgaaDoor.M
