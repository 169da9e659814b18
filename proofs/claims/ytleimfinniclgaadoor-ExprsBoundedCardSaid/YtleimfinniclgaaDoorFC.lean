/- Bounds: the operators, program and reference. -/
import Derived.Test.YtleimfinniclgaaDoorFB
namespace Go.Proofs.YtleimfinniclgaaDoor.M
open Go.Proofs Go.Proofs.YtleimfinniclgaaDoor.X
set_option linter.unusedSimpArgs false
set_option linter.unusedVariables false
set_option maxRecDepth 100000
set_option pp.deepTerms false
set_option pp.deepTerms.threshold 6
set_option maxHeartbeats 4000000
abbrev IP := Int × Int
def encB (p : IP) : AVal := .agg [.int .i64 p.1, .int .i64 p.2]
def encBs (l : List IP) : List AVal := l.map encB
def tr (b : Bool) : Int := if b then 1 else 0
def wrapB (low high : Int) : IP := if low > 999 then (low - 1000, high - 1000) else if high < 0 then (low + 1000, high + 1000) else if low < 0 ∨ high > 999 then (0, 999) else (low, high)
def bndF (op : Int) (x y z : IP) : IP :=
  if op = 3 then wrapB (x.1 + y.1) (x.2 + y.2) else if op = 4 then wrapB (x.1 - y.2) (x.2 - y.1)
  else if op = 5 then (if x.2 * y.2 > 999 then (0, 999) else (x.1 * y.1, x.2 * y.2))
  else if op = 6 then (tr (decide (x.2 < y.1)), tr (decide (x.1 < y.2)))
  else if op = 7 then (tr (decide (x.1 = x.2 ∧ y.1 = y.2 ∧ x.1 = y.1)), tr (!decide (x.2 < y.1 ∨ y.2 < x.1)))
  else if op = 8 then (tr (decide (x.2 = 0)), tr (decide (x.1 = 0)))
  else if x.1 > 0 then y else if x.2 = 0 then z else (min y.1 z.1, max y.2 z.2)
def OkB (x : IP) : Prop := 0 ≤ x.1 ∧ x.1 ≤ x.2 ∧ x.2 ≤ 999
@[simp] theorem all_R (ro nx : Nat) (hp : Heap) : R K 40 [] ro nx hp = some ⟨encB (0, 999), false, nx, hp⟩ := by
  rw [R_val' K ro 40 _ nx hp [] Tryd.func40 rfl Tryd.ntmps40 Tryd.results40 (mu := []) rfl (by kernel_rfl) rfl rfl]; simp only [slim, slimO, annO, List.map, List.zip, List.zipWith, List.lookup, holed, Nat.reduceBEq]
  simp [List.replicate, encB]
@[simp] theorem either_R (a b : Bool) (ro nx : Nat) (hp : Heap) : R K 62 [.bool a, .bool b] ro nx hp = some ⟨encB (if a then (0, 0) else if b then (1, 1) else (0, 1)), false, nx, hp⟩ := by
  rw [R_val' K ro 62 _ nx hp [] Tryd.func62 rfl Tryd.ntmps62 Tryd.results62 (mu := []) rfl (by kernel_rfl) rfl rfl]; simp only [slim, slimO, annO, List.map, List.zip, List.zipWith, List.lookup, holed, Nat.reduceBEq]
  cases a <;> cases b <;> simp [List.replicate, encB]
@[simp] theorem around_R (x : IP) (h : -100000 < x.1 ∧ x.1 < 100000 ∧ -100000 < x.2 ∧ x.2 < 100000) (ro nx : Nat) (hp : Heap) : R K 63 [.agg [.int .i64 x.1, .int .i64 x.2]] ro nx hp = some ⟨encB (wrapB x.1 x.2), false, nx, hp⟩ := by
  have w1 : IntKind.i64.wrap (x.1 - 1000) = x.1 - 1000 := wrap_small (by omega) (by omega)
  have w2 : IntKind.i64.wrap (x.2 - 1000) = x.2 - 1000 := wrap_small (by omega) (by omega)
  have w3 : IntKind.i64.wrap (x.1 + 1000) = x.1 + 1000 := wrap_small (by omega) (by omega)
  have w4 : IntKind.i64.wrap (x.2 + 1000) = x.2 + 1000 := wrap_small (by omega) (by omega)
  unfold wrapB
  rw [R_val' K ro 63 _ nx hp [] Tryd.func63 rfl Tryd.ntmps63 Tryd.results63 (mu := []) rfl (by kernel_rfl) rfl rfl]; simp only [slim, slimO, annO, List.map, List.zip, List.zipWith, List.lookup, holed, Nat.reduceBEq]
  have hall := all_R
  simp only [encB] at hall
  by_cases h1 : x.1 > 999
  · have h1' : 999 < x.1 := h1
    simp [List.replicate, encB, h1', w1, w2]
  · have h1' : ¬ 999 < x.1 := h1
    by_cases h2 : x.2 < 0
    · simp [List.replicate, encB, h1', h2, w3, w4]
    · by_cases h3 : x.2 > 999
      · have h3' : 999 < x.2 := h3
        simp [List.replicate, encB, h1', h2, h3', hall]
      · have h3' : ¬ 999 < x.2 := h3
        by_cases h4 : x.1 < 0
        · simp [List.replicate, encB, h1', h2, h3', h4, hall]
        · simp [List.replicate, encB, h1', h2, h3', h4, hall]
@[simp] theorem truth1_R (b : Bool) (ro nx : Nat) (hp : Heap) : R K 50 [.bool b] ro nx hp = some ⟨.int .i64 (tr b), false, nx, hp⟩ := by
  rw [R_val' K ro 50 _ nx hp [] Tryd.func50 rfl Tryd.ntmps50 Tryd.results50 (mu := []) rfl (by kernel_rfl) rfl rfl]; simp only [slim, slimO, annO, List.map, List.zip, List.zipWith, List.lookup, holed, Nat.reduceBEq]
  cases b <;> simp [List.replicate, tr]
@[simp] theorem anything_R (ro nx : Nat) (hp : Heap) : R K 48 [] ro nx hp = some ⟨encB (0, 999), false, nx, hp⟩ := by
  rw [R_val' K ro 48 _ nx hp [] Tryd.func48 rfl Tryd.ntmps48 Tryd.results48 (mu := []) rfl (by kernel_rfl) rfl rfl]; simp only [slim, slimO, annO, List.map, List.zip, List.zipWith, List.lookup, holed, Nat.reduceBEq]
  simp [List.replicate, encB]
@[simp] theorem wrapped_R (a b : Int) (h : -100000 < a ∧ a < 100000 ∧ -100000 < b ∧ b < 100000) (ro nx : Nat) (hp : Heap) : R K 49 [.int .i64 a, .int .i64 b] ro nx hp = some ⟨encB (wrapB a b), false, nx, hp⟩ := by
  have w1 : IntKind.i64.wrap (a - 1000) = a - 1000 := wrap_small (by omega) (by omega)
  have w2 : IntKind.i64.wrap (b - 1000) = b - 1000 := wrap_small (by omega) (by omega)
  have w3 : IntKind.i64.wrap (a + 1000) = a + 1000 := wrap_small (by omega) (by omega)
  have w4 : IntKind.i64.wrap (b + 1000) = b + 1000 := wrap_small (by omega) (by omega)
  unfold wrapB
  rw [R_val' K ro 49 _ nx hp [] Tryd.func49 rfl Tryd.ntmps49 Tryd.results49 (mu := []) rfl (by kernel_rfl) rfl rfl]; simp only [slim, slimO, annO, List.map, List.zip, List.zipWith, List.lookup, holed, Nat.reduceBEq]
  have hall := anything_R
  simp only [encB] at hall
  by_cases h1 : a > 999
  · have h1' : 999 < a := h1
    simp [List.replicate, encB, h1', w1, w2]
  · have h1' : ¬ 999 < a := h1
    by_cases h2 : b < 0
    · simp [List.replicate, encB, h1', h2, w3, w4]
    · by_cases h3 : b > 999
      · have h3' : 999 < b := h3
        by_cases h4 : a < 0 <;> simp [List.replicate, encB, h1', h2, h3', h4, hall]
      · have h3' : ¬ 999 < b := h3
        by_cases h4 : a < 0
        · simp [List.replicate, encB, h1', h2, h3', h4, hall]
        · simp [List.replicate, encB, h1', h2, h3', h4, hall]
theorem aeqB (a b c d : Int) : aeq Tryd.prog 56 (.agg [.int .i64 a, .int .i64 b]) (.agg [.int .i64 c, .int .i64 d]) = some (a == c && b == d) := by
  have : aeq Tryd.prog 56 (.agg [.int .i64 a, .int .i64 b]) (.agg [.int .i64 c, .int .i64 d]) = (match (some (a == c) : Option Bool) with
      | some true => (match (some (b == d) : Option Bool) with | some true => some true | some false => some false | none => none)
      | some false => some false
      | none => none) := by kernel_rfl
  rw [this]
  cases a == c <;> cases b == d <;> rfl
theorem mul_small {a b : Int} (ha : 0 ≤ a) (ha' : a ≤ 999) (hb : 0 ≤ b) (hb' : b ≤ 999) : 0 ≤ a * b ∧ a * b ≤ 998001 :=
  ⟨Int.mul_nonneg ha hb, Int.le_trans (Int.mul_le_mul ha' hb' hb (by decide)) (by decide)⟩
theorem bounded8_R (x : IP) (hx : OkB x) (ro nx : Nat) (hp : Heap) : R K 41 [.int .i64 8, .lst [encB x]] ro nx hp = some ⟨encB (bndF 8 x x x), false, nx, hp⟩ := by
  obtain ⟨x1, x2, x3⟩ := hx
  have hei := either_R
  simp only [encB] at hei
  have hf : bndF 8 x x x = (if 0 < x.1 then (0, 0) else if x.2 = 0 then (1, 1) else (0, 1)) := by
    unfold bndF tr; grind
  rw [hf]
  rw [R_val' K ro 41 _ nx hp [] Tryd.func41 rfl Tryd.ntmps41 Tryd.results41 (mu := []) rfl (by kernel_rfl) rfl rfl]; simp only [slim, slimO, annO, List.map, List.zip, List.zipWith, List.lookup, holed, Nat.reduceBEq]
  simp [List.replicate, encB, hei]
theorem bounded2_R (op : Int) (hop : 3 ≤ op ∧ op ≤ 7) (x y : IP) (hx : OkB x) (hy : OkB y) (ro nx : Nat) (hp : Heap) : R K 41 [.int .i64 op, .lst [encB x, encB y]] ro nx hp = some ⟨encB (bndF op x y y), false, nx, hp⟩ := by
  obtain ⟨x1, x2, x3⟩ := hx
  obtain ⟨y1, y2, y3⟩ := hy
  have hei := either_R
  have hall := all_R
  simp only [encB] at hei hall
  have q1 := mul_small (a := x.2) (b := y.2) (by omega) (by omega) (by omega) (by omega)
  have q2 := mul_small (a := x.1) (b := y.1) (by omega) (by omega) (by omega) (by omega)
  have w1 : IntKind.i64.wrap (x.1 + y.1) = x.1 + y.1 := wrap_small (by omega) (by omega)
  have w2 : IntKind.i64.wrap (x.2 + y.2) = x.2 + y.2 := wrap_small (by omega) (by omega)
  have w3 : IntKind.i64.wrap (x.1 - y.2) = x.1 - y.2 := wrap_small (by omega) (by omega)
  have w4 : IntKind.i64.wrap (x.2 - y.1) = x.2 - y.1 := wrap_small (by omega) (by omega)
  have w5 : IntKind.i64.wrap (x.2 * y.2) = x.2 * y.2 := wrap_small (by omega) (by omega)
  have w6 : IntKind.i64.wrap (x.1 * y.1) = x.1 * y.1 := wrap_small (by omega) (by omega)
  have ha1 := around_R (x.1 + y.1, x.2 + y.2) (by simp only; omega)
  have ha2 := around_R (x.1 - y.2, x.2 - y.1) (by simp only; omega)
  simp only [encB] at ha1 ha2
  have : op = 3 ∨ op = 4 ∨ op = 5 ∨ op = 6 ∨ op = 7 := by omega
  rcases this with rfl | rfl | rfl | rfl | rfl
  · rw [show bndF 3 x y y = wrapB (x.1 + y.1) (x.2 + y.2) from rfl]
    rw [R_val' K ro 41 _ nx hp [] Tryd.func41 rfl Tryd.ntmps41 Tryd.results41 (mu := []) rfl (by kernel_rfl) rfl rfl]; simp only [slim, slimO, annO, List.map, List.zip, List.zipWith, List.lookup, holed, Nat.reduceBEq]
    simp [List.replicate, encB, w1, w2, ha1]
  · rw [show bndF 4 x y y = wrapB (x.1 - y.2) (x.2 - y.1) from rfl]
    rw [R_val' K ro 41 _ nx hp [] Tryd.func41 rfl Tryd.ntmps41 Tryd.results41 (mu := []) rfl (by kernel_rfl) rfl rfl]; simp only [slim, slimO, annO, List.map, List.zip, List.zipWith, List.lookup, holed, Nat.reduceBEq]
    simp [List.replicate, encB, w3, w4, ha2]
  · have hf : bndF 5 x y y = if 999 < x.2 * y.2 then (0, 999) else (x.1 * y.1, x.2 * y.2) := rfl
    rw [hf]
    rw [R_val' K ro 41 _ nx hp [] Tryd.func41 rfl Tryd.ntmps41 Tryd.results41 (mu := []) rfl (by kernel_rfl) rfl rfl]; simp only [slim, slimO, annO, List.map, List.zip, List.zipWith, List.lookup, holed, Nat.reduceBEq]
    by_cases h : 999 < x.2 * y.2
    · simp [List.replicate, encB, w5, w6, hall, h]
    · simp [List.replicate, encB, w5, w6, hall, h]
  · have hf : bndF 6 x y y = (if y.2 ≤ x.1 then (0, 0) else if x.2 < y.1 then (1, 1) else (0, 1)) := by
      unfold bndF tr; grind
    rw [hf]
    rw [R_val' K ro 41 _ nx hp [] Tryd.func41 rfl Tryd.ntmps41 Tryd.results41 (mu := []) rfl (by kernel_rfl) rfl rfl]; simp only [slim, slimO, annO, List.map, List.zip, List.zipWith, List.lookup, holed, Nat.reduceBEq]
    simp [List.replicate, encB, hei]
  · have hf : bndF 7 x y y = (if (decide (x.2 < y.1) || decide (y.2 < x.1)) then (0, 0) else if ((x.1 == y.1 && x.2 == y.2) && x.1 == x.2) then (1, 1) else (0, 1)) := by
      unfold bndF tr; grind
    rw [hf]
    have hq := aeqB
    rw [R_val' K ro 41 _ nx hp [] Tryd.func41 rfl Tryd.ntmps41 Tryd.results41 (mu := []) rfl (by kernel_rfl) rfl rfl]; simp only [slim, slimO, annO, List.map, List.zip, List.zipWith, List.lookup, holed, Nat.reduceBEq]
    by_cases c1 : x.2 < y.1
    · cases c2 : (x.1 == y.1 && x.2 == y.2)
      · simp [List.replicate, encB, hei, hq, c1, c2]
      · simp [List.replicate, encB, hei, hq, c1, c2]
    · cases c2 : (x.1 == y.1 && x.2 == y.2)
      · simp [List.replicate, encB, hei, hq, c1, c2]
      · simp [List.replicate, encB, hei, hq, c1, c2]
theorem bounded9_R (x y z : IP) (hx : OkB x) (hy : OkB y) (hz : OkB z) (ro nx : Nat) (hp : Heap) : R K 41 [.int .i64 9, .lst [encB x, encB y, encB z]] ro nx hp = some ⟨encB (bndF 9 x y z), false, nx, hp⟩ := by
  have hf : bndF 9 x y z = if 0 < x.1 then y else if x.2 = 0 then z else (min y.1 z.1, max y.2 z.2) := rfl
  rw [hf]
  rw [R_val' K ro 41 _ nx hp [] Tryd.func41 rfl Tryd.ntmps41 Tryd.results41 (mu := []) rfl (by kernel_rfl) rfl rfl]; simp only [slim, slimO, annO, List.map, List.zip, List.zipWith, List.lookup, holed, Nat.reduceBEq]
  have hmin : amin (.int .i64 y.1) (.int .i64 z.1) = some (.int .i64 (min y.1 z.1)) := by
    simp only [amin]; split <;> (congr 2; omega)
  have hmax : amax (.int .i64 y.2) (.int .i64 z.2) = some (.int .i64 (max y.2 z.2)) := by
    simp only [amax]; split <;> (congr 2; omega)
  by_cases h1 : 0 < x.1
  · simp [List.replicate, encB, h1]
  · by_cases h2 : x.2 = 0
    · simp [List.replicate, encB, h1, h2]
    · simp [List.replicate, encB, h1, h2, hmin, hmax]
end Go.Proofs.YtleimfinniclgaaDoor.M
