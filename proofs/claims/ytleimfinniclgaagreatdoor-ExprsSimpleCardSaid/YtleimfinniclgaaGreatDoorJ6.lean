/- Texts of this claim, joined: ExprsSimple: Simple, Put and Differ do as the reference says, whatever numbers the inputs are drawn from. No condition beside the card's own. -/
import Derived.Test.YtleimfinniclgaaGreatDoorCards
import Derived.Test.YtleimfinniclgaaGreatDoorTie
import Derived.WalkKit
import Derived.ProofKit
import Derived.OpenShut
import Derived.ChangeOld
import Derived.Below
import Derived.SizedLaws
import Derived.ChangeSlices
import Derived.Lib.LaidIn
import Derived.Lib.LaidU8T
import Derived.Deep.DeepHandedRow
import Derived.Deep.DeepWitnessRowRef
import Derived.SevenTiedAt
import Derived.Test.YtleimfinniclgaaGreatDoorJ4
import Derived.Test.YtleimfinniclgaaGreatDoorJ5
/- The rules of simple expressions: the reference, more. -/
namespace Go.Proofs.YtleimfinniclgaaGreatDoor.M
open Go.Proofs Go.Proofs.YtleimfinniclgaaGreatDoor.X
set_option linter.unusedSimpArgs false
set_option linter.unusedVariables false
set_option maxRecDepth 100000
set_option pp.deepTerms false
set_option pp.deepTerms.threshold 6
set_option maxHeartbeats 4000000
@[simp] theorem zeroX_op : zeroX.op = 0 := rfl
@[simp] theorem zeroX_n : zeroX.n = 0 := rfl
@[simp] theorem zeroX_name : zeroX.name = ByteArray.empty := rfl
@[simp] theorem zeroX_args : zeroX.args = [] := rfl
theorem rule4_R {e : Ex} (he : okX e = true) (b : Nat) (nx : Nat) (hp : Heap) (hb : b < nx) (hc : hget hp b = some (.cells [(.clo 181 [] [], false)])) : RefOk 185 [.ptr b 0] e (r2X e) nx hp := by
  have hN := fun (e : Ex) (n : Int) ro nx hp => isN1_R e n ro nx hp
  have hnm := num1_R
  have hnt := fun (e : Ex) ro nx hp => not1_R e ro nx hp
  have hsa := fun (x y : Ex) (h : okX x = true) ro nx hp => sameRef_R (ok_sh h) y ro nx hp
  simp only [encX_eq] at hN hnt hsa
  obtain ⟨⟨ho1, ho2, ho3⟩, ho4⟩ := (okX_eq e).1 he
  have hr2 := fun ro nx hp => rule2_R e.op ⟨ho1, ho2⟩ e.args ro nx hp
  have w1 : ¬ nx = b := by omega
  have w2 : ¬ b = nx := by omega
  refine ⟨(r2X e).getD zeroX, fun ro => ?_, ?_⟩
  rotate_left
  · intro x hx; rw [hx]; rfl
  have hz0 : ∀ x : Ex, x.op = x.op := fun _ => rfl
  rcases shape he with ⟨hop, ha⟩ | ⟨hop, x, y, ha, hx, hy⟩ | ⟨hop, x, ha, hx⟩ | ⟨hop, x, y, z, ha, hx, hy, hz⟩
  · rcases hop with hop | hop
    all_goals
      have h2 := fun ro nx hp => (hr2 ro nx hp).1
      simp only [ha, hop, encXs, encX_eq] at h2
      rw [R_pure' K ro 185 _ nx hp [] Tryz.func185 rfl Tryz.ntmps185 Tryz.results185 (mu := []) rfl (by kernel_rfl) rfl rfl rfl]; simp only [slim, slimO, annO, List.map, List.zip, List.zipWith, List.lookup, holed, Nat.reduceBEq]
      simp [List.replicate, List.lookup, stayB, encX_eq, encXs_len, ha, encXs, hop, hN, hnm, hnt, hsa, r2X, h2, hc, w1, w2]
  · rcases hop with hop | hop | hop | hop | hop
    · have h2 := fun ro nx hp => (hr2 ro nx hp).1
      simp only [ha, hop, encXs, encX_eq] at h2
      rw [R_pure' K ro 185 _ nx hp [] Tryz.func185 rfl Tryz.ntmps185 Tryz.results185 (mu := []) rfl (by kernel_rfl) rfl rfl rfl]; simp only [slim, slimO, annO, List.map, List.zip, List.zipWith, List.lookup, holed, Nat.reduceBEq]
      cases c1 : isNX y 0 <;> cases c2 : isNX x 0 <;> simp [List.replicate, List.lookup, stayB, encX_eq, encXs_len, ha, encXs, hop, hN, hnm, hnt, hsa, r2X, h2, hc, w1, w2, c1, c2]
    · have h2 := fun ro nx hp => (hr2 ro nx hp).1
      simp only [ha, hop, encXs, encX_eq] at h2
      rw [R_pure' K ro 185 _ nx hp [] Tryz.func185 rfl Tryz.ntmps185 Tryz.results185 (mu := []) rfl (by kernel_rfl) rfl rfl rfl]; simp only [slim, slimO, annO, List.map, List.zip, List.zipWith, List.lookup, holed, Nat.reduceBEq]
      cases c1 : isNX y 0 <;> simp [List.replicate, List.lookup, stayB, encX_eq, encXs_len, ha, encXs, hop, hN, hnm, hnt, hsa, r2X, h2, hc, w1, w2, c1]
    · have h2 := fun ro nx hp => (hr2 ro nx hp).1
      simp only [ha, hop, encXs, encX_eq] at h2
      rw [R_pure' K ro 185 _ nx hp [] Tryz.func185 rfl Tryz.ntmps185 Tryz.results185 (mu := []) rfl (by kernel_rfl) rfl rfl rfl]; simp only [slim, slimO, annO, List.map, List.zip, List.zipWith, List.lookup, holed, Nat.reduceBEq]
      cases c1 : isNX y 1 <;> cases c2 : isNX x 1 <;> cases c3 : isNX x 0 <;> cases c4 : isNX y 0 <;> simp [List.replicate, List.lookup, stayB, encX_eq, encXs_len, ha, encXs, hop, hN, hnm, hnt, hsa, r2X, h2, hc, w1, w2, c1, c2, c3, c4]
    · have h2 := fun ro nx hp => (hr2 ro nx hp).1
      simp only [ha, hop, encXs, encX_eq] at h2
      rw [R_pure' K ro 185 _ nx hp [] Tryz.func185 rfl Tryz.ntmps185 Tryz.results185 (mu := []) rfl (by kernel_rfl) rfl rfl rfl]; simp only [slim, slimO, annO, List.map, List.zip, List.zipWith, List.lookup, holed, Nat.reduceBEq]
      simp [List.replicate, List.lookup, stayB, encX_eq, encXs_len, ha, encXs, hop, hN, hnm, hnt, hsa, r2X, h2, hc, w1, w2]
    · have h2 := fun ro nx hp => (hr2 ro nx hp).1
      simp only [ha, hop, encXs, encX_eq] at h2
      rw [R_pure' K ro 185 _ nx hp [] Tryz.func185 rfl Tryz.ntmps185 Tryz.results185 (mu := []) rfl (by kernel_rfl) rfl rfl rfl]; simp only [slim, slimO, annO, List.map, List.zip, List.zipWith, List.lookup, holed, Nat.reduceBEq]
      simp [List.replicate, List.lookup, stayB, encX_eq, encXs_len, ha, encXs, hop, hN, hnm, hnt, hsa, r2X, h2, hc, w1, w2]
  · have h2 := fun ro nx hp => (hr2 ro nx hp).1
    simp only [ha, hop, encXs, encX_eq] at h2
    rw [R_pure' K ro 185 _ nx hp [] Tryz.func185 rfl Tryz.ntmps185 Tryz.results185 (mu := []) rfl (by kernel_rfl) rfl rfl rfl]; simp only [slim, slimO, annO, List.map, List.zip, List.zipWith, List.lookup, holed, Nat.reduceBEq]
    simp [List.replicate, List.lookup, stayB, encX_eq, encXs_len, ha, encXs, hop, hN, hnm, hnt, hsa, r2X, h2, hc, w1, w2]
  · have h2 := fun ro nx hp => (hr2 ro nx hp).1
    simp only [ha, hop, encXs, encX_eq] at h2
    rw [R_pure' K ro 185 _ nx hp [] Tryz.func185 rfl Tryz.ntmps185 Tryz.results185 (mu := []) rfl (by kernel_rfl) rfl rfl rfl]; simp only [slim, slimO, annO, List.map, List.zip, List.zipWith, List.lookup, holed, Nat.reduceBEq]
    simp [List.replicate, List.lookup, stayB, encX_eq, encXs_len, ha, encXs, hop, hN, hnm, hnt, hsa, r2X, h2, hc, w1, w2]
theorem rule5_R {e : Ex} (he : okX e = true) (b c : Nat) (nx : Nat) (hp : Heap) (hb : b < nx) (hcn : c < nx) (hc : hget hp b = some (.cells [(.clo 181 [] [], false)])) (hd : hget hp c = some (.cells [(.clo 180 [] [], false)])) : RefOk 187 [.ptr b 0, .ptr c 0] e (r3X e) nx hp := by
  have hN := fun (e : Ex) (n : Int) ro nx hp => isN1_R e n ro nx hp
  have hnm := num1_R
  have hnt := fun (e : Ex) ro nx hp => not1_R e ro nx hp
  have hsa := fun (x y : Ex) (h : okX x = true) ro nx hp => sameRef_R (ok_sh h) y ro nx hp
  simp only [encX_eq] at hN hnt hsa
  obtain ⟨⟨ho1, ho2, ho3⟩, ho4⟩ := (okX_eq e).1 he
  have hr2 := fun ro nx hp => rule2_R e.op ⟨ho1, ho2⟩ e.args ro nx hp
  have htr := fun (b : Bool) ro nx hp => truthR_R b ro nx hp
  have w1 : ¬ nx = b := by omega
  have w2 : ¬ b = nx := by omega
  have w3 : ¬ nx = c := by omega
  have w4 : ¬ c = nx := by omega
  refine ⟨numX (trV (e.op == 7)), fun ro => ?_, ?_⟩
  rotate_left
  · intro x hx
    unfold r3X at hx
    split at hx
    · split at hx
      · split at hx
        · rename_i h
          cases hx
          simp at h
          rcases h with h | h <;> simp [h, trV]
        · split at hx
          · rename_i h
            cases hx
            simp [h, trV]
          · cases hx
      · cases hx
    · cases hx
  have hz0 : ∀ x : Ex, x.op = x.op := fun _ => rfl
  rcases shape he with ⟨hop, ha⟩ | ⟨hop, x, y, ha, hx, hy⟩ | ⟨hop, x, ha, hx⟩ | ⟨hop, x, y, z, ha, hx, hy, hz⟩
  · rcases hop with hop | hop
    all_goals
      have h2 := fun ro nx hp => (hr2 ro nx hp).2
      simp only [ha, hop, encXs, encX_eq] at h2
      rw [R_pure' K ro 187 _ nx hp [] Tryz.func187 rfl Tryz.ntmps187 Tryz.results187 (mu := []) rfl (by kernel_rfl) rfl rfl rfl]; simp only [slim, slimO, annO, List.map, List.zip, List.zipWith, List.lookup, holed, Nat.reduceBEq]
      simp [List.replicate, List.lookup, stayB, encX_eq, encXs_len, ha, encXs, hop, hN, hnm, hnt, hsa, r3X, h2, hc, hd, htr, trV, w1, w2, w3, w4]
  · have hr1 := fun ro nx hp => rule1_R (y := y) hx ro nx hp
    simp only [encX_eq] at hr1
    rcases hop with hop | hop | hop | hop | hop
    all_goals
      have h2 := fun ro nx hp => (hr2 ro nx hp).2
      simp only [ha, hop, encXs, encX_eq] at h2
      rw [R_pure' K ro 187 _ nx hp [] Tryz.func187 rfl Tryz.ntmps187 Tryz.results187 (mu := []) rfl (by kernel_rfl) rfl rfl rfl]; simp only [slim, slimO, annO, List.map, List.zip, List.zipWith, List.lookup, holed, Nat.reduceBEq]
      cases c1 : sameX x y <;> simp [List.replicate, List.lookup, stayB, encX_eq, encXs_len, ha, encXs, hop, hN, hnm, hnt, hsa, r3X, h2, hc, hd, htr, trV, w1, w2, w3, w4, hr1, c1]
  · have h2 := fun ro nx hp => (hr2 ro nx hp).2
    simp only [ha, hop, encXs, encX_eq] at h2
    rw [R_pure' K ro 187 _ nx hp [] Tryz.func187 rfl Tryz.ntmps187 Tryz.results187 (mu := []) rfl (by kernel_rfl) rfl rfl rfl]; simp only [slim, slimO, annO, List.map, List.zip, List.zipWith, List.lookup, holed, Nat.reduceBEq]
    simp [List.replicate, List.lookup, stayB, encX_eq, encXs_len, ha, encXs, hop, hN, hnm, hnt, hsa, r3X, h2, hc, hd, htr, trV, w1, w2, w3, w4]
  · have h2 := fun ro nx hp => (hr2 ro nx hp).2
    simp only [ha, hop, encXs, encX_eq] at h2
    rw [R_pure' K ro 187 _ nx hp [] Tryz.func187 rfl Tryz.ntmps187 Tryz.results187 (mu := []) rfl (by kernel_rfl) rfl rfl rfl]; simp only [slim, slimO, annO, List.map, List.zip, List.zipWith, List.lookup, holed, Nat.reduceBEq]
    simp [List.replicate, List.lookup, stayB, encX_eq, encXs_len, ha, encXs, hop, hN, hnm, hnt, hsa, r3X, h2, hc, hd, htr, trV, w1, w2, w3, w4]
theorem rule6_R {e : Ex} (he : okX e = true) (nx : Nat) (hp : Heap) : RefOk 188 [] e (r4X e) nx hp := by
  have hN := fun (e : Ex) (n : Int) ro nx hp => isN1_R e n ro nx hp
  have hnm := num1_R
  have hnt := fun (e : Ex) ro nx hp => not1_R e ro nx hp
  have hsa := fun (x y : Ex) (h : okX x = true) ro nx hp => sameRef_R (ok_sh h) y ro nx hp
  simp only [encX_eq] at hN hnt hsa
  obtain ⟨⟨ho1, ho2, ho3⟩, ho4⟩ := (okX_eq e).1 he
  refine ⟨numX 0, fun ro => ?_, ?_⟩
  rotate_left
  · intro x hx
    unfold r4X at hx
    split at hx
    · split at hx
      · cases hx; rfl
      · cases hx
    · cases hx
  have hz0 : ∀ x : Ex, x.op = x.op := fun _ => rfl
  rcases shape he with ⟨hop, ha⟩ | ⟨hop, x, y, ha, hx, hy⟩ | ⟨hop, x, ha, hx⟩ | ⟨hop, x, y, z, ha, hx, hy, hz⟩
  · rcases hop with hop | hop
    all_goals
      rw [R_val' K ro 188 _ nx hp [] Tryz.func188 rfl Tryz.ntmps188 Tryz.results188 (mu := []) rfl (by kernel_rfl) rfl rfl]; simp only [slim, slimO, annO, List.map, List.zip, List.zipWith, List.lookup, holed, Nat.reduceBEq]
      simp [List.replicate, List.lookup, stayB, encX_eq, encXs_len, ha, encXs, hop, hN, hnm, hnt, hsa, r4X]
  · rcases hop with hop | hop | hop | hop | hop
    all_goals
      rw [R_val' K ro 188 _ nx hp [] Tryz.func188 rfl Tryz.ntmps188 Tryz.results188 (mu := []) rfl (by kernel_rfl) rfl rfl]; simp only [slim, slimO, annO, List.map, List.zip, List.zipWith, List.lookup, holed, Nat.reduceBEq]
      cases c1 : isNX y 0 <;> cases c2 : isNX x 999 <;> simp [List.replicate, List.lookup, stayB, encX_eq, encXs_len, ha, encXs, hop, hN, hnm, hnt, hsa, r4X, c1, c2]
  · rw [R_val' K ro 188 _ nx hp [] Tryz.func188 rfl Tryz.ntmps188 Tryz.results188 (mu := []) rfl (by kernel_rfl) rfl rfl]; simp only [slim, slimO, annO, List.map, List.zip, List.zipWith, List.lookup, holed, Nat.reduceBEq]
    simp [List.replicate, List.lookup, stayB, encX_eq, encXs_len, ha, encXs, hop, hN, hnm, hnt, hsa, r4X]
  · rw [R_val' K ro 188 _ nx hp [] Tryz.func188 rfl Tryz.ntmps188 Tryz.results188 (mu := []) rfl (by kernel_rfl) rfl rfl]; simp only [slim, slimO, annO, List.map, List.zip, List.zipWith, List.lookup, holed, Nat.reduceBEq]
    simp [List.replicate, List.lookup, stayB, encX_eq, encXs_len, ha, encXs, hop, hN, hnm, hnt, hsa, r4X]
theorem rule7_R {e : Ex} (he : okX e = true) (nx : Nat) (hp : Heap) : RefOk 189 [] e (r5X e) nx hp := by
  have hN := fun (e : Ex) (n : Int) ro nx hp => isN1_R e n ro nx hp
  have hnm := num1_R
  have hnt := fun (e : Ex) ro nx hp => not1_R e ro nx hp
  have hsa := fun (x y : Ex) (h : okX x = true) ro nx hp => sameRef_R (ok_sh h) y ro nx hp
  simp only [encX_eq] at hN hnt hsa
  obtain ⟨⟨ho1, ho2, ho3⟩, ho4⟩ := (okX_eq e).1 he
  refine ⟨(match e.args with | [x, y, z] => if x.op = 1 ∧ x.n = 0 then z else y | _ => zeroX), fun ro => ?_, ?_⟩
  rotate_left
  · intro x hx
    unfold r5X at hx
    split at hx
    · rename_i a b c hab
      rw [hab]
      split at hx
      · rename_i h
        cases hx
        simp [h]
      · split at hx
        · rename_i h1 h2
          cases hx
          by_cases q : a.op = 1
          · have : a.n = 0 := by
              by_cases q2 : a.n = 0
              · exact q2
              · exact absurd ⟨q, q2⟩ h1
            simp [q, this]
          · rcases h2 with h2 | h2
            · exact absurd h2 q
            · have := (same_iff _ _).1 h2
              simp [q, this]
        · cases hx
    · cases hx
  have hz0 : ∀ x : Ex, x.op = x.op := fun _ => rfl
  rcases shape he with ⟨hop, ha⟩ | ⟨hop, x, y, ha, hx, hy⟩ | ⟨hop, x, ha, hx⟩ | ⟨hop, x, y, z, ha, hx, hy, hz⟩
  · rcases hop with hop | hop
    all_goals
      rw [R_val' K ro 189 _ nx hp [] Tryz.func189 rfl Tryz.ntmps189 Tryz.results189 (mu := []) rfl (by kernel_rfl) rfl rfl]; simp only [slim, slimO, annO, List.map, List.zip, List.zipWith, List.lookup, holed, Nat.reduceBEq]
      simp [List.replicate, List.lookup, stayB, encX_eq, encXs_len, ha, encXs, hop, hN, hnm, hnt, hsa, r5X]
  · rcases hop with hop | hop | hop | hop | hop
    all_goals
      rw [R_val' K ro 189 _ nx hp [] Tryz.func189 rfl Tryz.ntmps189 Tryz.results189 (mu := []) rfl (by kernel_rfl) rfl rfl]; simp only [slim, slimO, annO, List.map, List.zip, List.zipWith, List.lookup, holed, Nat.reduceBEq]
      simp [List.replicate, List.lookup, stayB, encX_eq, encXs_len, ha, encXs, hop, hN, hnm, hnt, hsa, r5X]
  · rw [R_val' K ro 189 _ nx hp [] Tryz.func189 rfl Tryz.ntmps189 Tryz.results189 (mu := []) rfl (by kernel_rfl) rfl rfl]; simp only [slim, slimO, annO, List.map, List.zip, List.zipWith, List.lookup, holed, Nat.reduceBEq]
    simp [List.replicate, List.lookup, stayB, encX_eq, encXs_len, ha, encXs, hop, hN, hnm, hnt, hsa, r5X]
  · have htr := fun (b : Bool) ro nx hp => truthR_R b ro nx hp
    have v1 : IntKind.i64.wrap (1 + 1) = 2 := by decide
    have v2 : IntKind.i64.wrap (1 + 0) = 1 := by decide
    have v3 : IntKind.i64.wrap 2 = 2 := by decide
    have v4 : IntKind.i64.wrap 1 = 1 := by decide
    by_cases c1 : x.op = 1
    · by_cases c2 : x.n = 0
      · rw [R_val' K ro 189 _ nx hp [] Tryz.func189 rfl Tryz.ntmps189 Tryz.results189 (mu := []) rfl (by kernel_rfl) rfl rfl]; simp only [slim, slimO, annO, List.map, List.zip, List.zipWith, List.lookup, holed, Nat.reduceBEq]
        simp [List.replicate, List.lookup, stayB, encX_eq, encXs_len, ha, encXs, hop, hN, hnm, hnt, hsa, r5X, c1, c2, htr, trV, v1, v2, v3, v4]
      · rw [R_val' K ro 189 _ nx hp [] Tryz.func189 rfl Tryz.ntmps189 Tryz.results189 (mu := []) rfl (by kernel_rfl) rfl rfl]; simp only [slim, slimO, annO, List.map, List.zip, List.zipWith, List.lookup, holed, Nat.reduceBEq]
        simp [List.replicate, List.lookup, stayB, encX_eq, encXs_len, ha, encXs, hop, hN, hnm, hnt, hsa, r5X, c1, c2, htr, trV, v1, v2, v3, v4]
    · rw [R_val' K ro 189 _ nx hp [] Tryz.func189 rfl Tryz.ntmps189 Tryz.results189 (mu := []) rfl (by kernel_rfl) rfl rfl]; simp only [slim, slimO, annO, List.map, List.zip, List.zipWith, List.lookup, holed, Nat.reduceBEq]
      cases c3 : sameX y z <;> simp [List.replicate, List.lookup, stayB, encX_eq, encXs_len, ha, encXs, hop, hN, hnm, hnt, hsa, r5X, c1, c3, hy]
theorem rule8_R {e : Ex} (he : okX e = true) (nx : Nat) (hp : Heap) : RefOk 190 [] e (r6X e) nx hp := by
  have hN := fun (e : Ex) (n : Int) ro nx hp => isN1_R e n ro nx hp
  have hnm := num1_R
  have hnt := fun (e : Ex) ro nx hp => not1_R e ro nx hp
  have hsa := fun (x y : Ex) (h : okX x = true) ro nx hp => sameRef_R (ok_sh h) y ro nx hp
  simp only [encX_eq] at hN hnt hsa
  obtain ⟨⟨ho1, ho2, ho3⟩, ho4⟩ := (okX_eq e).1 he
  refine ⟨(r6X e).getD zeroX, fun ro => ?_, ?_⟩
  rotate_left
  · intro x hx; rw [hx]; rfl
  have hz0 : ∀ x : Ex, x.op = x.op := fun _ => rfl
  rcases shape he with ⟨hop, ha⟩ | ⟨hop, x, y, ha, hx, hy⟩ | ⟨hop, x, ha, hx⟩ | ⟨hop, x, y, z, ha, hx, hy, hz⟩
  · rcases hop with hop | hop
    all_goals
      rw [R_val' K ro 190 _ nx hp [] Tryz.func190 rfl Tryz.ntmps190 Tryz.results190 (mu := []) rfl (by kernel_rfl) rfl rfl]; simp only [slim, slimO, annO, List.map, List.zip, List.zipWith, List.lookup, holed, Nat.reduceBEq]
      simp [List.replicate, List.lookup, stayB, encX_eq, encXs_len, ha, encXs, hop, hN, hnm, hnt, hsa, r6X]
  · rcases hop with hop | hop | hop | hop | hop
    all_goals
      rw [R_val' K ro 190 _ nx hp [] Tryz.func190 rfl Tryz.ntmps190 Tryz.results190 (mu := []) rfl (by kernel_rfl) rfl rfl]; simp only [slim, slimO, annO, List.map, List.zip, List.zipWith, List.lookup, holed, Nat.reduceBEq]
      cases c1 : isNX y 0 <;> cases c2 : isNX x 0 <;> simp [List.replicate, List.lookup, stayB, encX_eq, encXs_len, ha, encXs, hop, hN, hnm, hnt, hsa, r6X, c1, c2]
  · by_cases c1 : x.op = 8
    · rcases shape hx with ⟨q, _⟩ | ⟨q, _⟩ | ⟨_, y, hxa, _⟩ | ⟨q, _⟩
      · omega
      · omega
      · by_cases c2 : y.op = 8
        · rw [R_val' K ro 190 _ nx hp [] Tryz.func190 rfl Tryz.ntmps190 Tryz.results190 (mu := []) rfl (by kernel_rfl) rfl rfl]; simp only [slim, slimO, annO, List.map, List.zip, List.zipWith, List.lookup, holed, Nat.reduceBEq]
          simp [List.replicate, List.lookup, stayB, encX_eq, encXs_len, ha, encXs, hop, hN, hnm, hnt, hsa, r6X, c1, c2, hxa]
        · rw [R_val' K ro 190 _ nx hp [] Tryz.func190 rfl Tryz.ntmps190 Tryz.results190 (mu := []) rfl (by kernel_rfl) rfl rfl]; simp only [slim, slimO, annO, List.map, List.zip, List.zipWith, List.lookup, holed, Nat.reduceBEq]
          simp [List.replicate, List.lookup, stayB, encX_eq, encXs_len, ha, encXs, hop, hN, hnm, hnt, hsa, r6X, c1, c2, hxa]
      · omega
    · rw [R_val' K ro 190 _ nx hp [] Tryz.func190 rfl Tryz.ntmps190 Tryz.results190 (mu := []) rfl (by kernel_rfl) rfl rfl]; simp only [slim, slimO, annO, List.map, List.zip, List.zipWith, List.lookup, holed, Nat.reduceBEq]
      cases hxa : x.args <;> simp [List.replicate, List.lookup, stayB, encX_eq, encXs_len, ha, encXs, hop, hN, hnm, hnt, hsa, r6X, c1, hxa]
  · rw [R_val' K ro 190 _ nx hp [] Tryz.func190 rfl Tryz.ntmps190 Tryz.results190 (mu := []) rfl (by kernel_rfl) rfl rfl]; simp only [slim, slimO, annO, List.map, List.zip, List.zipWith, List.lookup, holed, Nat.reduceBEq]
    simp [List.replicate, List.lookup, stayB, encX_eq, encXs_len, ha, encXs, hop, hN, hnm, hnt, hsa, r6X]
end Go.Proofs.YtleimfinniclgaaGreatDoor.M
/- Simple: the program. -/
namespace Go.Proofs.YtleimfinniclgaaGreatDoor.M
open Go.Proofs Go.Proofs.YtleimfinniclgaaGreatDoor.X
set_option linter.unusedSimpArgs false
set_option linter.unusedVariables false
set_option maxRecDepth 100000
set_option pp.deepTerms false
set_option pp.deepTerms.threshold 6
set_option maxHeartbeats 4000000
def zeroC : ABlk := .cells [(.int .i64 0, false), (.int .i64 0, false), (.str ByteArray.empty, false), (.lst [], true)]
theorem rules_R (k : Nat) (hk : k < 6) (e : Ex) (he : okX e = true) : ∃ f, ([.clo 173 [] [], .clo 174 [] [], .clo 175 [] [], .clo 176 [] [], .clo 177 [] [], .clo 178 [] []] : List AVal)[k]? = some (.clo f [] []) ∧ ∀ ro nx hp, R K f [encX e] ro nx hp = some ⟨ansX e (rX e k), false, nx, hp⟩ := by
  match k, hk with
  | 0, _ => exact ⟨_, rfl, fun ro nx hp => folded_R he ro nx hp⟩
  | 1, _ => exact ⟨_, rfl, fun ro nx hp => neutral_R he ro nx hp⟩
  | 2, _ => exact ⟨_, rfl, fun ro nx hp => equal_R he ro nx hp⟩
  | 3, _ => exact ⟨_, rfl, fun ro nx hp => never_R he ro nx hp⟩
  | 4, _ => exact ⟨_, rfl, fun ro nx hp => decided_R he ro nx hp⟩
  | 5, _ => exact ⟨_, rfl, fun ro nx hp => denied_R he ro nx hp⟩
/-- The inner loop: the first rule that applies. -/
theorem simple_inner (e : Ex) (he : okX e = true) (tm : List Cell) (nx : Nat) (hp : Heap) (ht : tm.length = 40) (h1 : getC tm 1 = (.ptr 0 0, false)) (h6 : getC tm 6 = (.bool false, false)) (h25 : getC tm 25 = (.lst [.clo 173 [] [], .clo 174 [] [], .clo 175 [] [], .clo 176 [] [], .clo 177 [] [], .clo 178 [] []], true)) (h26 : getC tm 26 = (.int .i64 6, false)) (h27 : getC tm 27 = (.int .i64 0, false)) (h0 : hget hp 0 = some (cellsX e)) (c2 : Cell) (h2 : getC tm 2 = c2) :
    ∃ tm' hp', X K ⟨0, []⟩ (.loop (LB Tryz.prog 104 [] 2)) ⟨tm, nx, hp⟩ = some (.exit 4, ⟨tm', nx, hp'⟩) ∧ tm'.length = 40 ∧ getC tm' 1 = (.ptr 0 0, false) ∧ getC tm' 2 = c2 ∧ getC tm' 6 = (.bool (stepX e).isSome, false) ∧ hget hp' 0 = some (cellsX ((stepX e).getD e)) ∧ hget hp' 1 = hget hp 1 := by
  have el := LB_open (P := Tryz.prog) [] 2 Tryz.func104 rfl rfl (by kernel_rfl)
  simp only [slim, slimO, annO, List.map, List.zip, List.zipWith, List.lookup, holed, loopsOf, List.nil_append, List.cons_append, List.getD_cons_zero, List.getD_cons_succ, Nat.reduceBEq] at el
  refine rounds el 6 (fun k tm1 n h => tm1.length = 40 ∧ getC tm1 1 = (.ptr 0 0, false) ∧ getC tm1 2 = c2 ∧ getC tm1 6 = (.bool false, false) ∧ getC tm1 25 = (.lst [.clo 173 [] [], .clo 174 [] [], .clo 175 [] [], .clo 176 [] [], .clo 177 [] [], .clo 178 [] []], true) ∧ getC tm1 26 = (.int .i64 6, false) ∧ getC tm1 27 = (.int .i64 k, false) ∧ n = nx ∧ hget h 0 = some (cellsX e) ∧ hget h 1 = hget hp 1 ∧ fromX e (6 - k) k = stepX e)
    (fun r => ∃ tm' hp', r = some (.exit 4, ⟨tm', nx, hp'⟩) ∧ tm'.length = 40 ∧ getC tm' 1 = (.ptr 0 0, false) ∧ getC tm' 2 = c2 ∧ getC tm' 6 = (.bool (stepX e).isSome, false) ∧ hget hp' 0 = some (cellsX ((stepX e).getD e)) ∧ hget hp' 1 = hget hp 1) ?_ ?_ 0 tm nx hp (by omega) ⟨ht, h1, h2, h6, h25, h26, h27, rfl, h0, rfl, rfl⟩
  · rintro tm1 n h r ⟨ht, h1, h2, h6, h25, h26, h27, rfl, h0, hh1, hf⟩ hX
    rw [show 6 - 6 = 0 from rfl, fromX] at hf
    rw [← hf]
    simp [ht, h26, h27] at hX
    subst hX
    exact ⟨_, _, rfl, by simp, _, _, rfl, by simp [ht], by simp [h1], by simp [h2], by simp [h6], h0, hh1⟩
  · rintro k tm1 n h r hk ⟨ht, h1, h2, h6, h25, h26, h27, rfl, h0, hh1, hf⟩ hX
    obtain ⟨f, hf1, hf2⟩ := rules_R k hk e he
    have hkl : (k : Int) < 6 := by omega
    have hw2 : IntKind.i64.wrap ((k : Int) + 1) = (k : Int) + 1 := wrap_small (by omega) (by omega)
    rw [show 6 - k = (6 - (k + 1)) + 1 by omega, fromX] at hf
    unfold cellsX at h0
    unfold ansX at hf2
    cases hr : rX e k with
    | none =>
      left
      rw [hr] at hf hf2
      simp only [Option.getD_none, Option.isSome_none, encX_eq] at hf2
      simp [ht, h1, h6, h25, h26, h27, hkl, hf1, hf2, hw2, h0] at hX
      subst hX
      exact ⟨_, _, _, rfl, by simp [ht], by simp [h1], by simp [h2], by simp [ht], by simp [h25], by simp [h26], by simp [ht], rfl, by simp [h0, cellsX], by simp [h0, hh1], hf⟩
    | some x =>
      right
      rw [hr] at hf hf2
      simp only [Option.getD_some, Option.isSome_some, encX_eq] at hf2
      simp only at hf
      simp [ht, h1, h6, h25, h26, h27, hkl, hf1, hf2, hw2, h0] at hX
      subst hX
      refine ⟨_, _, rfl, by simp, _, _, rfl, by simp [ht], by simp [h1], by simp [h2], by simp [ht, ← hf], by simp [h0, cellsX, ← hf], by simp [h0, hh1]⟩
/-- The outer loop: rules are applied until none does. -/
theorem simple_outer (e0 : Ex) (he0 : okX e0 = true) (tm : List Cell) (nx : Nat) (hp : Heap) (ht : tm.length = 40) (h1 : getC tm 1 = (.ptr 0 0, false)) (h2 : getC tm 2 = (.ptr 1 0, false)) (h6 : getC tm 6 = (.bool true, false)) (h0 : hget hp 0 = some (cellsX e0)) (hz : hget hp 1 = some zeroC) :
    ∃ tm' n' hp', X K ⟨0, []⟩ (.loop (LB Tryz.prog 104 [] 1)) ⟨tm, nx, hp⟩ = some (.exit 2, ⟨tm', n', hp'⟩) ∧ tm'.length = 40 ∧ getC tm' 1 = (.ptr 0 0, false) ∧ getC tm' 2 = (.ptr 1 0, false) ∧ hget hp' 0 = some (cellsX (fixX e0)) ∧ hget hp' 1 = some zeroC := by
  have el := LB_open (P := Tryz.prog) [] 1 Tryz.func104 rfl rfl (by kernel_rfl)
  simp only [slim, slimO, annO, List.map, List.zip, List.zipWith, List.lookup, holed, loopsOf, List.nil_append, List.cons_append, List.getD_cons_zero, List.getD_cons_succ, Nat.reduceBEq] at el
  refine rounds el (cnt e0 + 1) (fun k tm1 n h => tm1.length = 40 ∧ getC tm1 1 = (.ptr 0 0, false) ∧ getC tm1 2 = (.ptr 1 0, false) ∧ hget h 1 = some zeroC ∧ ∃ e', okX e' = true ∧ fixX e' = fixX e0 ∧ hget h 0 = some (cellsX e') ∧ ((getC tm1 6 = (.bool true, false) ∧ cnt e' + k ≤ cnt e0) ∨ (getC tm1 6 = (.bool false, false) ∧ stepX e' = none)))
    (fun r => ∃ tm' n' hp', r = some (.exit 2, ⟨tm', n', hp'⟩) ∧ tm'.length = 40 ∧ getC tm' 1 = (.ptr 0 0, false) ∧ getC tm' 2 = (.ptr 1 0, false) ∧ hget hp' 0 = some (cellsX (fixX e0)) ∧ hget hp' 1 = some zeroC) ?_ ?_ 0 tm nx hp (by omega) ⟨ht, h1, h2, hz, e0, he0, rfl, h0, .inl ⟨h6, by omega⟩⟩
  · rintro tm1 n h r ⟨ht, h1, h2, hh1, e', hok, hfx, h0, hb⟩ hX
    rcases hb with ⟨_, hb⟩ | ⟨h6, hst⟩
    · omega
    · simp [ht, h6] at hX
      subst hX
      rw [fixX_none hst] at hfx
      exact ⟨_, _, rfl, by simp, _, _, _, rfl, by simp [ht], by simp [h1], by simp [h2], by rw [← hfx]; exact h0, hh1⟩
  · rintro k tm1 n h r hk ⟨ht, h1, h2, hh1, e', hok, hfx, h0, hb⟩ hX
    rcases hb with ⟨h6, hb⟩ | ⟨h6, hst⟩
    · left
      simp [ht, h6] at hX
      generalize hg : X K _ (.loop _) _ = r2 at hX
      obtain ⟨tm', hp', rfl, g1, g2, g3, g4, g5, g6⟩ : ∃ tm' hp', r2 = some (.exit 4, ⟨tm', n, hp'⟩) ∧ tm'.length = 40 ∧ getC tm' 1 = (.ptr 0 0, false) ∧ getC tm' 2 = (.ptr 1 0, false) ∧ getC tm' 6 = (.bool (stepX e').isSome, false) ∧ hget hp' 0 = some (cellsX ((stepX e').getD e')) ∧ hget hp' 1 = hget h 1 := by
        rw [← hg]
        exact simple_inner e' hok _ _ _ (by simp [ht]) (by simp [h1]) (by simp [ht]) (by simp [ht]) (by simp [ht]) (by simp [ht]) h0 _ (by simp [h2])
      clear hg
      simp [g1] at hX
      subst hX
      refine ⟨_, _, _, rfl, by simp [g1], by simp [g2], by simp [g3], g6.trans hh1, ?_⟩
      cases hs : stepX e' with
      | none =>
        rw [hs] at g4 g5
        exact ⟨e', hok, hfx, g5, .inr ⟨by simpa using g4, hs⟩⟩
      | some x =>
        rw [hs] at g4 g5
        obtain ⟨q1, q2⟩ := stepX_ok hok hs
        exact ⟨x, q2, (fixX_step hok hs).symm.trans hfx, g5, .inl ⟨by simpa using g4, by omega⟩⟩
    · right
      simp [ht, h6] at hX
      subst hX
      rw [fixX_none hst] at hfx
      exact ⟨_, _, rfl, by simp, _, _, _, rfl, by simp [ht], by simp [h1], by simp [h2], by rw [← hfx]; exact h0, hh1⟩
theorem simple_R : ∀ (N : Nat) (x : Ex), SizeOf.sizeOf x < N → okX x = true → ∀ (ro nx : Nat) (hp : Heap), R K 104 [encX x] ro nx hp = some ⟨encX (simpX x), false, nx, hp⟩ := by
  have el := LB_open (P := Tryz.prog) [] 0 Tryz.func104 rfl rfl (by kernel_rfl)
  simp only [slim, slimO, annO, List.map, List.zip, List.zipWith, List.lookup, holed, loopsOf, List.nil_append, List.cons_append, List.getD_cons_zero, List.getD_cons_succ, Nat.reduceBEq] at el
  intro N
  induction N with
  | zero => intro x hx; omega
  | succ N ih =>
    intro x hx ho ro nx hp
    obtain ⟨⟨ho1, ho2, ho3⟩, ho4⟩ := (okX_eq x).1 ho
    have ha := arity_le x.op
    have hok0 : okX (.mk x.op x.n x.name (x.args.map simpX)) = true := by
      rw [okX_eq]
      refine ⟨⟨ho1, ho2, by simp [Ex.args, Ex.op]; exact ho3⟩, fun y hy => ?_⟩
      simp only [Ex.args] at hy
      obtain ⟨z, hz, rfl⟩ := List.mem_map.1 hy
      exact simpX_ok _ z (Nat.lt_succ_self _) (ho4 z hz)
    have hloop := rounds (K := K) (ro := ⟨0, []⟩) el x.args.length (fun k tm1 n h => tm1.length = 40 ∧ getC tm1 1 = (.ptr 0 0, false) ∧ getC tm1 2 = (.ptr 1 0, false) ∧ getC tm1 10 = (.lst (encXs x.args), false) ∧ getC tm1 11 = (.int .i64 x.args.length, false) ∧ getC tm1 12 = (.int .i64 k, false) ∧ getC tm1 3 = (.lst (encXs ((x.args.take k).map simpX)), true) ∧ 2 ≤ n ∧ hget h 0 = some (cellsX x) ∧ hget h 1 = some zeroC)
      (fun r => ∃ tm' n' hp', r = some (.exit 0, ⟨tm', n', hp'⟩) ∧ tm'.length = 40 ∧ getC tm' 1 = (.ptr 0 0, false) ∧ getC tm' 2 = (.ptr 1 0, false) ∧ getC tm' 3 = (.lst (encXs (x.args.map simpX)), true) ∧ 2 ≤ n' ∧ hget hp' 0 = some (cellsX x) ∧ hget hp' 1 = some zeroC) (fun tm1 n h r => by
        rintro ⟨ht, h1, h2, h10, h11, h12, h3, hn, hb, hz⟩ hX
        rw [List.take_length] at h3
        simp [ht, h11, h12] at hX
        subst hX
        exact ⟨_, _, rfl, by simp, _, _, _, rfl, by simp [ht], by simp [h1], by simp [h2], by simp [h3], hn, hb, hz⟩) (fun k tm1 n h r hk => by
        rintro ⟨ht, h1, h2, h10, h11, h12, h3, hn, hb, hz⟩ hX
        left
        have hxk := List.getElem?_eq_getElem (l := x.args) (i := k) hk
        have htk : (x.args.take (k + 1)).map simpX = (x.args.take k).map simpX ++ [simpX x.args[k]] := by rw [List.take_add_one, hxk, List.map_append]; rfl
        generalize x.args[k] = u at hxk htk
        have hum := List.mem_of_getElem? hxk
        have hkl : (k : Int) < x.args.length := by omega
        have hue := encXs_at hxk
        have hw2 : IntKind.i64.wrap ((k : Int) + 1) = (k : Int) + 1 := wrap_small (by omega) (by omega)
        have w1 : ¬ n = 1 := by omega
        have w2 : ¬ 1 = n := by omega
        have w3 : ¬ n = 0 := by omega
        have w4 : ¬ 0 = n := by omega
        have hlen : (min k x.args.length + 1) * 56 ≤ 140737488355328 := by omega
        have hxm := fun ro nx hp => ih u (by have := args_lt hum; omega) (ho4 u hum) ro nx hp
        have hap : encXs ((x.args.take k).map simpX) ++ [encX (simpX u)] = encXs ((x.args.take (k + 1)).map simpX) := by rw [htk, encXs_app]; simp [encXs]
        rw [encX_eq u] at hxm
        rw [encX_eq] at hue
        rw [encX_eq (simpX u)] at hxm hap
        simp only [List.map_take] at h3 hap
        simp [ht, h1, h2, h3, h10, h11, h12, hkl, hue, hw2, hxm, w1, w2, w3, w4, hlen, hap] at hX
        subst hX
        refine ⟨_, _, _, rfl, by simp [ht], by simp [h1], by simp [h2], by simp [h10], by simp [h11], by simp [ht], by simp [ht], by omega, by simp [w3, w4, hb], by simp [w1, w2, hz]⟩) 0
    rw [simpX_eq]
    rw [R_val' K ro 104 _ nx hp [] Tryz.func104 rfl Tryz.ntmps104 Tryz.results104 (mu := []) rfl (by kernel_rfl) rfl rfl]; simp only [slim, slimO, annO, List.map, List.zip, List.zipWith, List.lookup, holed, Nat.reduceBEq]
    simp [List.replicate, encX_eq, encXs_len]
    generalize hg : X K _ (.loop _) _ = r
    obtain ⟨tm', n', hp', rfl, g1, g2, g3, g4, g5, g6, g7⟩ : ∃ tm' n' hp', r = some (.exit 0, ⟨tm', n', hp'⟩) ∧ tm'.length = 40 ∧ getC tm' 1 = (.ptr 0 0, false) ∧ getC tm' 2 = (.ptr 1 0, false) ∧ getC tm' 3 = (.lst (encXs (x.args.map simpX)), true) ∧ 2 ≤ n' ∧ hget hp' 0 = some (cellsX x) ∧ hget hp' 1 = some zeroC := by
      rw [← hg]
      refine hloop _ _ _ (by omega) ⟨?_, ?_, ?_, ?_, ?_, ?_, ?_, ?_, ?_, ?_⟩
      all_goals simp [cellsX, zeroC, encXs]
    clear hg hloop
    unfold cellsX at g6
    simp [g1, g2, g3, g4, g6]
    generalize hg : X K _ (.loop _) _ = r
    obtain ⟨tm2, n2, hp2, rfl, k1, k2, k3, k4, k5⟩ : ∃ tm2 n2 hp2, r = some (.exit 2, ⟨tm2, n2, hp2⟩) ∧ tm2.length = 40 ∧ getC tm2 1 = (.ptr 0 0, false) ∧ getC tm2 2 = (.ptr 1 0, false) ∧ hget hp2 0 = some (cellsX (fixX (.mk x.op x.n x.name (x.args.map simpX)))) ∧ hget hp2 1 = some zeroC := by
      rw [← hg]
      exact simple_outer _ hok0 _ _ _ (by simp [g1]) (by simp [g2]) (by simp [g3]) (by simp [g1]) (by simp [g6, cellsX, Ex.op, Ex.n, Ex.name, Ex.args]) (by simp [g6, g7])
    clear hg
    unfold cellsX at k4
    unfold zeroC at k5
    simp [k1, k2, k3, k4, k5]
end Go.Proofs.YtleimfinniclgaaGreatDoor.M
/- Simple: the reference. -/
namespace Go.Proofs.YtleimfinniclgaaGreatDoor.M
open Go.Proofs Go.Proofs.YtleimfinniclgaaGreatDoor.X
set_option linter.unusedSimpArgs false
set_option linter.unusedVariables false
set_option maxRecDepth 100000
set_option pp.deepTerms false
set_option pp.deepTerms.threshold 6
set_option maxHeartbeats 4000000
def cellsF (x : Ex) (fl : Bool) : ABlk := .cells [(.int .i64 x.op, false), (.int .i64 x.n, false), (.str x.name, false), (.lst (encXs x.args), fl)]
def ruleL (b c : Nat) : List AVal := [.clo 183 [] [], .clo 185 [] [.ptr b 0], .clo 187 [] [.ptr b 0, .ptr c 0], .clo 188 [] [], .clo 189 [] [], .clo 190 [] []]
def boxR2 : ABlk := .cells [(.clo 181 [] [], false)]
def boxR1 : ABlk := .cells [(.clo 180 [] [], false)]
theorem rulesQ_R (ro nx : Nat) (hp : Heap) (hro : ro ≤ nx) : ∃ own, R K 107 [] ro nx hp = some ⟨.lst (ruleL (nx + 1) nx), own, nx + 2, (nx + 1, boxR2) :: (nx, boxR1) :: hp⟩ := by
  have hro1 : ro ≤ nx + 1 := by omega
  refine ⟨true, ?_⟩
  rw [R_body' K ro 107 _ nx hp [] Tryz.func107 rfl Tryz.ntmps107 Tryz.results107 (mu := []) rfl (by kernel_rfl) rfl rfl rfl]; simp only [slim, slimO, annO, List.map, List.zip, List.zipWith, List.lookup, holed, Nat.reduceBEq]
  simp [List.replicate, hro, hro1, ruleL, boxR1, boxR2]
theorem refRule_R (k : Nat) (hk : k < 6) (e : Ex) (he : okX e = true) (b c nx : Nat) (hp : Heap) (hb : b < nx) (hc : c < nx) (h1 : hget hp b = some boxR2) (h2 : hget hp c = some boxR1) : ∃ f cs, (ruleL b c)[k]? = some (.clo f [] cs) ∧ RefOk f cs e (rX e k) nx hp := by
  match k, hk with
  | 0, _ => exact ⟨_, _, rfl, rule3_R he nx hp⟩
  | 1, _ => exact ⟨_, _, rfl, rule4_R he b nx hp hb h1⟩
  | 2, _ => exact ⟨_, _, rfl, rule5_R he b c nx hp hb hc h1 h2⟩
  | 3, _ => exact ⟨_, _, rfl, rule6_R he nx hp⟩
  | 4, _ => exact ⟨_, _, rfl, rule7_R he nx hp⟩
  | 5, _ => exact ⟨_, _, rfl, rule8_R he nx hp⟩
theorem simplest_inner (e : Ex) (he : okX e = true) (fl own : Bool) (b c : Nat) (tm : List Cell) (nx : Nat) (hp : Heap) (hb : b < nx) (hcn : c < nx) (hn3 : 3 ≤ nx) (hb2 : 2 < b) (hc2 : 2 < c) (ht : tm.length = 53) (h3 : getC tm 3 = (.ptr 2 0, false)) (h6 : getC tm 6 = (.bool false, false)) (h34 : getC tm 34 = (.lst (ruleL b c), own)) (h35 : getC tm 35 = (.int .i64 6, false)) (h36 : getC tm 36 = (.int .i64 0, false)) (h0 : hget hp 2 = some (cellsF e fl)) (hq1 : hget hp b = some boxR2) (hq2 : hget hp c = some boxR1) (c2 : Cell) (h2 : getC tm 2 = c2) (z : Option ABlk) (hz : hget hp 1 = z) :
    ∃ tm' n' hp' fl', X K ⟨0, []⟩ (.loop (LB Tryz.prog 42 [(5, [[], [1], [1], [], [], [], [], []])] 2)) ⟨tm, nx, hp⟩ = some (.exit 4, ⟨tm', n', hp'⟩) ∧ tm'.length = 53 ∧ getC tm' 3 = (.ptr 2 0, false) ∧ getC tm' 2 = c2 ∧ getC tm' 6 = (.bool (stepX e).isSome, false) ∧ nx ≤ n' ∧ hget hp' 2 = some (cellsF ((stepX e).getD e) fl') ∧ hget hp' 1 = z := by
  have el := LB_open (P := Tryz.prog) [(5, [[], [1], [1], [], [], [], [], []])] 2 Tryz.func42 rfl rfl (by kernel_rfl)
  simp only [slim, slimO, annO, List.map, List.zip, List.zipWith, List.lookup, holed, loopsOf, List.nil_append, List.cons_append, List.getD_cons_zero, List.getD_cons_succ, Nat.reduceBEq] at el
  refine rounds el 6 (fun k tm1 n h => tm1.length = 53 ∧ getC tm1 3 = (.ptr 2 0, false) ∧ getC tm1 2 = c2 ∧ getC tm1 6 = (.bool false, false) ∧ getC tm1 34 = (.lst (ruleL b c), own) ∧ getC tm1 35 = (.int .i64 6, false) ∧ getC tm1 36 = (.int .i64 k, false) ∧ nx ≤ n ∧ hget h 2 = some (cellsF e fl) ∧ hget h 1 = z ∧ hget h b = some boxR2 ∧ hget h c = some boxR1 ∧ fromX e (6 - k) k = stepX e)
    (fun r => ∃ tm' n' hp' fl', r = some (.exit 4, ⟨tm', n', hp'⟩) ∧ tm'.length = 53 ∧ getC tm' 3 = (.ptr 2 0, false) ∧ getC tm' 2 = c2 ∧ getC tm' 6 = (.bool (stepX e).isSome, false) ∧ nx ≤ n' ∧ hget hp' 2 = some (cellsF ((stepX e).getD e) fl') ∧ hget hp' 1 = z) ?_ ?_ 0 tm nx hp (by omega) ⟨ht, h3, h2, h6, h34, h35, h36, Nat.le_refl _, h0, hz, hq1, hq2, rfl⟩
  · rintro tm1 n h r ⟨ht, h3, h2, h6, h34, h35, h36, hn, h0, hh1, hq1, hq2, hf⟩ hX
    rw [show 6 - 6 = 0 from rfl, fromX] at hf
    rw [← hf]
    simp [ht, h35, h36] at hX
    subst hX
    exact ⟨_, _, rfl, by simp, _, _, _, fl, rfl, by simp [ht], by simp [h3], by simp [h2], by simp [h6], hn, h0, hh1⟩
  · rintro k tm1 n h r hk ⟨ht, h3, h2, h6, h34, h35, h36, hn, h0, hh1, hq1, hq2, hf⟩ hX
    obtain ⟨f, cs, hf1, g, hg1, hg2⟩ := refRule_R k hk e he b c n h (by omega) (by omega) hq1 hq2
    have hkl : (k : Int) < 6 := by omega
    have hw2 : IntKind.i64.wrap ((k : Int) + 1) = (k : Int) + 1 := wrap_small (by omega) (by omega)
    rw [show 6 - k = (6 - (k + 1)) + 1 by omega, fromX] at hf
    unfold cellsF at h0
    have w1 : ¬ n = 2 := by omega
    have w2 : ¬ 2 = n := by omega
    have w3 : ¬ n = 1 := by omega
    have w4 : ¬ 1 = n := by omega
    have w5 : ¬ n = b := by omega
    have w6 : ¬ b = n := by omega
    have w7 : ¬ n = c := by omega
    have w8 : ¬ c = n := by omega
    have w9 : ¬ b = 2 := by omega
    have w10 : ¬ c = 2 := by omega
    have hlen6 : (ruleL b c).length = 6 := rfl
    rw [encX_eq] at hg1
    simp only [List.cons_append, List.nil_append] at hg1
    rcases Bool.eq_false_or_eq_true fl with hfl | hfl
    all_goals
      subst hfl
      cases hr : rX e k with
      | none =>
        left
        rw [hr] at hf hg1
        simp only [Option.isSome_none] at hg1
        simp [ht, h3, h6, h34, h35, h36, hkl, hf1, hg1, hw2, h0, w1, w2] at hX
        subst hX
        exact ⟨_, _, _, rfl, by simp [ht], by simp [h3], by simp [h2], by simp [h6], by simp [h34], by simp [h35], by simp [ht], by omega, by simp [w1, w2, h0, cellsF], by simp [w3, w4, hh1], by simp [w5, w6, hq1], by simp [w7, w8, hq2], hf⟩
      | some x =>
        right
        rw [hr] at hf hg1
        have hgx := hg2 x hr
        subst hgx
        simp only [Option.isSome_some] at hg1
        simp only at hf
        simp [ht, h3, h6, h34, h35, h36, hkl, hf1, hg1, hw2, h0, w1, w2] at hX
        subst hX
        refine ⟨_, _, rfl, by simp, _, _, _, false, rfl, by simp [ht], by simp [h3], by simp [h2], by simp [ht, ← hf], by omega, by simp [w1, w2, h0, cellsF, ← hf], by simp [w3, w4, hh1]⟩
theorem simplest_outer (e0 : Ex) (he0 : okX e0 = true) (fl0 : Bool) (tm : List Cell) (nx : Nat) (hp : Heap) (hn3 : 3 ≤ nx) (ht : tm.length = 53) (h3 : getC tm 3 = (.ptr 2 0, false)) (h2 : getC tm 2 = (.ptr 1 0, false)) (h6 : getC tm 6 = (.bool true, false)) (h0 : hget hp 2 = some (cellsF e0 fl0)) (hz : hget hp 1 = some zeroC) :
    ∃ tm' n' hp' fl', X K ⟨0, []⟩ (.loop (LB Tryz.prog 42 [(5, [[], [1], [1], [], [], [], [], []])] 1)) ⟨tm, nx, hp⟩ = some (.exit 2, ⟨tm', n', hp'⟩) ∧ tm'.length = 53 ∧ getC tm' 3 = (.ptr 2 0, false) ∧ getC tm' 2 = (.ptr 1 0, false) ∧ hget hp' 2 = some (cellsF (fixX e0) fl') ∧ hget hp' 1 = some zeroC := by
  have el := LB_open (P := Tryz.prog) [(5, [[], [1], [1], [], [], [], [], []])] 1 Tryz.func42 rfl rfl (by kernel_rfl)
  simp only [slim, slimO, annO, List.map, List.zip, List.zipWith, List.lookup, holed, loopsOf, List.nil_append, List.cons_append, List.getD_cons_zero, List.getD_cons_succ, Nat.reduceBEq] at el
  refine rounds el (cnt e0 + 1) (fun k tm1 n h => tm1.length = 53 ∧ getC tm1 3 = (.ptr 2 0, false) ∧ getC tm1 2 = (.ptr 1 0, false) ∧ 3 ≤ n ∧ hget h 1 = some zeroC ∧ ∃ e' fl, okX e' = true ∧ fixX e' = fixX e0 ∧ hget h 2 = some (cellsF e' fl) ∧ ((getC tm1 6 = (.bool true, false) ∧ cnt e' + k ≤ cnt e0) ∨ (getC tm1 6 = (.bool false, false) ∧ stepX e' = none)))
    (fun r => ∃ tm' n' hp' fl', r = some (.exit 2, ⟨tm', n', hp'⟩) ∧ tm'.length = 53 ∧ getC tm' 3 = (.ptr 2 0, false) ∧ getC tm' 2 = (.ptr 1 0, false) ∧ hget hp' 2 = some (cellsF (fixX e0) fl') ∧ hget hp' 1 = some zeroC) ?_ ?_ 0 tm nx hp (by omega) ⟨ht, h3, h2, hn3, hz, e0, fl0, he0, rfl, h0, .inl ⟨h6, by omega⟩⟩
  · rintro tm1 n h r ⟨ht, h3, h2, hn, hh1, e', fl, hok, hfx, h0, hb⟩ hX
    rcases hb with ⟨_, hb⟩ | ⟨h6, hst⟩
    · omega
    · simp [ht, h6] at hX
      subst hX
      rw [fixX_none hst] at hfx
      exact ⟨_, _, rfl, by simp, _, _, _, fl, rfl, by simp [ht], by simp [h3], by simp [h2], by rw [← hfx]; exact h0, hh1⟩
  · rintro k tm1 n h r hk ⟨ht, h3, h2, hn, hh1, e', fl, hok, hfx, h0, hb⟩ hX
    rcases hb with ⟨h6, hb⟩ | ⟨h6, hst⟩
    · left
      obtain ⟨own, hru⟩ := rulesQ_R 0 n h (Nat.zero_le _)
      have hlen6 : (ruleL (n + 1) n).length = 6 := rfl
      simp [ht, h6, hru, hlen6] at hX
      generalize hg : X K _ (.loop _) _ = r2 at hX
      obtain ⟨tm', n', hp', fl', rfl, g1, g2, g3, g4, g5, g6, g7⟩ : ∃ tm' n' hp' fl', r2 = some (.exit 4, ⟨tm', n', hp'⟩) ∧ tm'.length = 53 ∧ getC tm' 3 = (.ptr 2 0, false) ∧ getC tm' 2 = (.ptr 1 0, false) ∧ getC tm' 6 = (.bool (stepX e').isSome, false) ∧ n + 2 ≤ n' ∧ hget hp' 2 = some (cellsF ((stepX e').getD e') fl') ∧ hget hp' 1 = hget h 1 := by
        rw [← hg]
        have w1 : ¬ n = 2 := by omega
        have w2 : ¬ n + 1 = 2 := by omega
        have w3 : ¬ n = 1 := by omega
        have w4 : ¬ n + 1 = 1 := by omega
        have w5 : ¬ 2 = n := by omega
        have w6 : ¬ 2 = n + 1 := by omega
        have w7 : ¬ 1 = n := by omega
        have w8 : ¬ 1 = n + 1 := by omega
        have w9 : ¬ n = 0 := by omega
        have w10 : ¬ 0 = n := by omega
        exact simplest_inner e' hok fl own (n + 1) n _ (n + 2) ((n + 1, boxR2) :: (n, boxR1) :: h) (by omega) (by omega) (by omega) (by omega) (by omega) (by simp [ht]) (by simp [h3]) (by simp [ht]) (by simp [ht]) (by simp [ht]) (by simp [ht]) (by simp [w1, w2, w5, w6, h0]) (by simp) (by simp) _ (by simp [h2]) _ (by simp [w3, w4, w7, w8, w9, w10])
      clear hg
      simp [g1] at hX
      subst hX
      refine ⟨_, _, _, rfl, by simp [g1], by simp [g2], by simp [g3], by omega, g7.trans hh1, ?_⟩
      cases hs : stepX e' with
      | none =>
        rw [hs] at g4 g6
        exact ⟨e', fl', hok, hfx, g6, .inr ⟨by simpa using g4, hs⟩⟩
      | some x =>
        rw [hs] at g4 g6
        obtain ⟨q1, q2⟩ := stepX_ok hok hs
        exact ⟨x, fl', q2, (fixX_step hok hs).symm.trans hfx, g6, .inl ⟨by simpa using g4, by omega⟩⟩
    · right
      simp [ht, h6] at hX
      subst hX
      rw [fixX_none hst] at hfx
      exact ⟨_, _, rfl, by simp, _, _, _, fl, rfl, by simp [ht], by simp [h3], by simp [h2], by rw [← hfx]; exact h0, hh1⟩
theorem simplest_R : ∀ (N : Nat) (x : Ex), SizeOf.sizeOf x < N → okX x = true → ∀ (ro nx : Nat) (hp : Heap), R K 42 [encX x] ro nx hp = some ⟨encX (simpX x), false, nx, hp⟩ := by
  have el := LB_open (P := Tryz.prog) [(5, [[], [1], [1], [], [], [], [], []])] 0 Tryz.func42 rfl rfl (by kernel_rfl)
  simp only [slim, slimO, annO, List.map, List.zip, List.zipWith, List.lookup, holed, loopsOf, List.nil_append, List.cons_append, List.getD_cons_zero, List.getD_cons_succ, Nat.reduceBEq] at el
  intro N
  induction N with
  | zero => intro x hx; omega
  | succ N ih =>
    intro x hx ho ro nx hp
    obtain ⟨⟨ho1, ho2, ho3⟩, ho4⟩ := (okX_eq x).1 ho
    have ha := arity_le x.op
    have hok0 : okX (.mk x.op x.n x.name (x.args.map simpX)) = true := by
      rw [okX_eq]
      refine ⟨⟨ho1, ho2, by simp [Ex.args, Ex.op]; exact ho3⟩, fun y hy => ?_⟩
      simp only [Ex.args] at hy
      obtain ⟨z, hz, rfl⟩ := List.mem_map.1 hy
      exact simpX_ok _ z (Nat.lt_succ_self _) (ho4 z hz)
    have hloop := rounds (K := K) (ro := ⟨0, []⟩) el x.args.length (fun k tm1 n h => tm1.length = 53 ∧ getC tm1 3 = (.ptr 2 0, false) ∧ getC tm1 2 = (.ptr 1 0, false) ∧ getC tm1 19 = (.lst (encXs x.args), false) ∧ getC tm1 20 = (.int .i64 x.args.length, false) ∧ getC tm1 21 = (.int .i64 k, false) ∧ 3 ≤ n ∧ hget h 2 = some (cellsF (.mk x.op x.n x.name ((x.args.take k).map simpX)) true) ∧ hget h 1 = some zeroC)
      (fun r => ∃ tm' n' hp', r = some (.exit 0, ⟨tm', n', hp'⟩) ∧ tm'.length = 53 ∧ getC tm' 3 = (.ptr 2 0, false) ∧ getC tm' 2 = (.ptr 1 0, false) ∧ 3 ≤ n' ∧ hget hp' 2 = some (cellsF (.mk x.op x.n x.name (x.args.map simpX)) true) ∧ hget hp' 1 = some zeroC) (fun tm1 n h r => by
        rintro ⟨ht, h3, h2, h19, h20, h21, hn, hb, hz⟩ hX
        rw [List.take_length] at hb
        simp [ht, h20, h21] at hX
        subst hX
        exact ⟨_, _, rfl, by simp, _, _, _, rfl, by simp [ht], by simp [h3], by simp [h2], hn, hb, hz⟩) (fun k tm1 n h r hk => by
        rintro ⟨ht, h3, h2, h19, h20, h21, hn, hb, hz⟩ hX
        left
        have hxk := List.getElem?_eq_getElem (l := x.args) (i := k) hk
        have htk : (x.args.take (k + 1)).map simpX = (x.args.take k).map simpX ++ [simpX x.args[k]] := by rw [List.take_add_one, hxk, List.map_append]; rfl
        generalize x.args[k] = u at hxk htk
        have hum := List.mem_of_getElem? hxk
        have hkl : (k : Int) < x.args.length := by omega
        have hue := encXs_at hxk
        have hw2 : IntKind.i64.wrap ((k : Int) + 1) = (k : Int) + 1 := wrap_small (by omega) (by omega)
        have w1 : ¬ n = 1 := by omega
        have w2 : ¬ 1 = n := by omega
        have w3 : ¬ n = 2 := by omega
        have w4 : ¬ 2 = n := by omega
        have hlen : (min k x.args.length + 1) * 56 ≤ 140737488355328 := by omega
        have hxm := fun ro nx hp => ih u (by have := args_lt hum; omega) (ho4 u hum) ro nx hp
        have hap : encXs ((x.args.take k).map simpX) ++ [encX (simpX u)] = encXs ((x.args.take (k + 1)).map simpX) := by rw [htk, encXs_app]; simp [encXs]
        rw [encX_eq u] at hxm
        rw [encX_eq] at hue
        rw [encX_eq (simpX u)] at hxm hap
        simp only [List.map_take] at hb hap
        simp only [cellsF, Ex.op, Ex.n, Ex.name, Ex.args] at hb
        change hget h 2 = some (.cells [(.int .i64 x.op, false), (.int .i64 x.n, false), (.str x.name, false), (.lst (encXs ((x.args.map simpX).take k)), true)]) at hb
        cases hq : (AVal.lst (encXs ((x.args.map simpX).take k))).nilL
        all_goals
          simp [List.lookup, stayB, ht, h3, h2, h19, h20, h21, hkl, hue, hw2, hxm, hb, w1, w2, w3, w4, hlen, hap, hq] at hX
          subst hX
          refine ⟨_, _, _, rfl, by simp [ht], by simp [h3], by simp [h2], by simp [h19], by simp [h20], by simp [ht], by omega, ?_, by simp [w1, w2, hz]⟩
          simp [w3, w4, hb, cellsF, Ex.op, Ex.n, Ex.name, Ex.args]) 0
    rw [simpX_eq]
    rw [R_val' K ro 42 _ nx hp [(5, [[], [1], [1], [], [], [], [], []])] Tryz.func42 rfl Tryz.ntmps42 Tryz.results42 (mu := []) rfl (by kernel_rfl) rfl rfl]; simp only [slim, slimO, annO, List.map, List.zip, List.zipWith, List.lookup, holed, Nat.reduceBEq]
    simp [List.replicate, encX_eq, encXs_len]
    generalize hg : X K _ (.loop _) _ = r
    obtain ⟨tm', n', hp', rfl, g1, g2, g3, g5, g6, g7⟩ : ∃ tm' n' hp', r = some (.exit 0, ⟨tm', n', hp'⟩) ∧ tm'.length = 53 ∧ getC tm' 3 = (.ptr 2 0, false) ∧ getC tm' 2 = (.ptr 1 0, false) ∧ 3 ≤ n' ∧ hget hp' 2 = some (cellsF (.mk x.op x.n x.name (x.args.map simpX)) true) ∧ hget hp' 1 = some zeroC := by
      rw [← hg]
      refine hloop _ _ _ (by omega) ⟨?_, ?_, ?_, ?_, ?_, ?_, ?_, ?_, ?_⟩
      all_goals simp [cellsF, cellsX, zeroC, encXs, Ex.op, Ex.n, Ex.name, Ex.args]
      try rfl
    clear hg hloop
    simp [g1, g2, g3]
    generalize hg : X K _ (.loop _) _ = r
    obtain ⟨tm2, n2, hp2, fl', rfl, k1, k2, k3, k4, k5⟩ : ∃ tm2 n2 hp2 fl', r = some (.exit 2, ⟨tm2, n2, hp2⟩) ∧ tm2.length = 53 ∧ getC tm2 3 = (.ptr 2 0, false) ∧ getC tm2 2 = (.ptr 1 0, false) ∧ hget hp2 2 = some (cellsF (fixX (.mk x.op x.n x.name (x.args.map simpX))) fl') ∧ hget hp2 1 = some zeroC := by
      rw [← hg]
      exact simplest_outer _ hok0 true _ n' hp' g5 (by simp [g1]) (by simp [g2]) (by simp [g3]) (by simp [g1]) g6 g7
    clear hg
    unfold cellsF at k4
    unfold zeroC at k5
    simp [k1, k2, k3, k4, k5]
end Go.Proofs.YtleimfinniclgaaGreatDoor.M
/- Put: an expression for a variable. -/
namespace Go.Proofs.YtleimfinniclgaaGreatDoor.M
open Go.Proofs Go.Proofs.YtleimfinniclgaaGreatDoor.X
set_option linter.unusedSimpArgs false
set_option linter.unusedVariables false
set_option maxRecDepth 100000
set_option pp.deepTerms false
set_option pp.deepTerms.threshold 6
set_option maxHeartbeats 4000000
mutual
def putX (nm : ByteArray) (y : Ex) : Ex → Ex
  | .mk o n s a => if (o == 2 && s.toList == nm.toList) = true then y else .mk o n s (putXs nm y a)
def putXs (nm : ByteArray) (y : Ex) : List Ex → List Ex
  | [] => []
  | x :: r => putX nm y x :: putXs nm y r
end
theorem putXs_eq (nm : ByteArray) (y : Ex) (l : List Ex) : putXs nm y l = l.map (putX nm y) := by induction l with | nil => rfl | cons x r ih => simp [putXs, ih]
theorem putX_eq (nm : ByteArray) (y x : Ex) : putX nm y x = if (x.op == 2 && x.name.toList == nm.toList) = true then y else .mk x.op x.n x.name (x.args.map (putX nm y)) := by cases x; rw [putX, putXs_eq]; rfl
theorem putX_sh (nm : ByteArray) (y : Ex) (hy : shX y = true) : ∀ (N : Nat) (x : Ex), SizeOf.sizeOf x < N → shX x = true → shX (putX nm y x) = true := by
  intro N
  induction N with
  | zero => intro x hx; omega
  | succ N ih =>
    intro x hx hs
    obtain ⟨h1, h2⟩ := (shX_eq x).1 hs
    rw [putX_eq]
    split
    · exact hy
    · rw [shX_eq]
      refine ⟨by simpa [Ex.args] using h1, fun z hz => ?_⟩
      simp only [Ex.args] at hz
      obtain ⟨w, hw, rfl⟩ := List.mem_map.1 hz
      exact ih w (by have := args_lt hw; omega) (h2 w hw)
theorem copied_R : ∀ (N : Nat) (x : Ex), SizeOf.sizeOf x < N → shX x = true → ∀ (ro nx : Nat) (hp : Heap), R K 179 [encX x] ro nx hp = some ⟨encX x, false, nx, hp⟩ := by
  have el := LB_open (P := Tryz.prog) [] 0 Tryz.func179 rfl rfl (by kernel_rfl)
  simp only [slim, slimO, annO, List.map, List.zip, List.zipWith, List.lookup, holed, loopsOf, List.nil_append, List.cons_append, List.getD_cons_zero, List.getD_cons_succ, Nat.reduceBEq] at el
  intro N
  induction N with
  | zero => intro x hx; omega
  | succ N ih =>
    intro x hx hs ro nx hp
    obtain ⟨hs1, hs2⟩ := (shX_eq x).1 hs
    have hloop := rounds (K := K) (ro := ⟨0, []⟩) el x.args.length (fun k tm1 n h => tm1.length = 22 ∧ getC tm1 1 = (.ptr 0 0, false) ∧ getC tm1 2 = (.ptr 1 0, false) ∧ getC tm1 7 = (.lst (encXs x.args), false) ∧ getC tm1 8 = (.int .i64 x.args.length, false) ∧ getC tm1 9 = (.int .i64 k, false) ∧ getC tm1 3 = (.lst (encXs (x.args.take k)), true) ∧ 2 ≤ n ∧ hget h 0 = some (cellsX x) ∧ hget h 1 = some zeroC)
      (fun r => ∃ tm' n' hp', r = some (.exit 0, ⟨tm', n', hp'⟩) ∧ tm'.length = 22 ∧ getC tm' 1 = (.ptr 0 0, false) ∧ getC tm' 2 = (.ptr 1 0, false) ∧ getC tm' 3 = (.lst (encXs x.args), true) ∧ 2 ≤ n' ∧ hget hp' 0 = some (cellsX x) ∧ hget hp' 1 = some zeroC) (fun tm1 n h r => by
        rintro ⟨ht, h1, h2, h7, h8, h9, h3, hn, hb, hz⟩ hX
        rw [List.take_length] at h3
        simp [ht, h8, h9] at hX
        subst hX
        exact ⟨_, _, rfl, by simp, _, _, _, rfl, by simp [ht], by simp [h1], by simp [h2], by simp [h3], hn, hb, hz⟩) (fun k tm1 n h r hk => by
        rintro ⟨ht, h1, h2, h7, h8, h9, h3, hn, hb, hz⟩ hX
        left
        have hxk := List.getElem?_eq_getElem (l := x.args) (i := k) hk
        have htk : x.args.take (k + 1) = x.args.take k ++ [x.args[k]] := by rw [List.take_add_one, hxk]; rfl
        generalize x.args[k] = u at hxk htk
        have hum := List.mem_of_getElem? hxk
        have hkl : (k : Int) < x.args.length := by omega
        have hue := encXs_at hxk
        have hw2 : IntKind.i64.wrap ((k : Int) + 1) = (k : Int) + 1 := wrap_small (by omega) (by omega)
        have w1 : ¬ n = 1 := by omega
        have w2 : ¬ 1 = n := by omega
        have w3 : ¬ n = 0 := by omega
        have w4 : ¬ 0 = n := by omega
        have hlen : (min k x.args.length + 1) * 56 ≤ 140737488355328 := by omega
        have hxm := fun ro nx hp => ih u (by have := args_lt hum; omega) (hs2 u hum) ro nx hp
        have hap : encXs (x.args.take k) ++ [encX u] = encXs (x.args.take (k + 1)) := by rw [htk, encXs_app]; simp [encXs]
        rw [encX_eq u] at hxm hap
        rw [encX_eq] at hue
        simp [ht, h1, h2, h3, h7, h8, h9, hkl, hue, hw2, hxm, w1, w2, w3, w4, hlen, hap] at hX
        subst hX
        exact ⟨_, _, _, rfl, by simp [ht], by simp [h1], by simp [h2], by simp [h7], by simp [h8], by simp [ht], by simp [ht], by omega, by simp [w3, w4, hb], by simp [w1, w2, hz]⟩) 0
    rw [R_val' K ro 179 _ nx hp [] Tryz.func179 rfl Tryz.ntmps179 Tryz.results179 (mu := []) rfl (by kernel_rfl) rfl rfl]; simp only [slim, slimO, annO, List.map, List.zip, List.zipWith, List.lookup, holed, Nat.reduceBEq]
    simp [List.replicate, encX_eq, encXs_len]
    generalize hg : X K _ (.loop _) _ = r
    obtain ⟨tm', n', hp', rfl, g1, g2, g3, g4, g5, g6, g7⟩ : ∃ tm' n' hp', r = some (.exit 0, ⟨tm', n', hp'⟩) ∧ tm'.length = 22 ∧ getC tm' 1 = (.ptr 0 0, false) ∧ getC tm' 2 = (.ptr 1 0, false) ∧ getC tm' 3 = (.lst (encXs x.args), true) ∧ 2 ≤ n' ∧ hget hp' 0 = some (cellsX x) ∧ hget hp' 1 = some zeroC := by
      rw [← hg]
      refine hloop _ _ _ (by omega) ⟨?_, ?_, ?_, ?_, ?_, ?_, ?_, ?_, ?_, ?_⟩
      all_goals simp [cellsX, zeroC, encXs]
    clear hg hloop
    unfold cellsX at g6
    unfold zeroC at g7
    simp [g1, g2, g3, g4, g6, g7]
theorem put_R (nm : ByteArray) (y : Ex) (hy : shX y = true) : ∀ (N : Nat) (x : Ex), SizeOf.sizeOf x < N → shX x = true → ∀ (ro nx : Nat) (hp : Heap), R K 105 [encX x, .str nm, encX y] ro nx hp = some ⟨encX (putX nm y x), false, nx, hp⟩ := by
  have el := LB_open (P := Tryz.prog) [] 0 Tryz.func105 rfl rfl (by kernel_rfl)
  simp only [slim, slimO, annO, List.map, List.zip, List.zipWith, List.lookup, holed, loopsOf, List.nil_append, List.cons_append, List.getD_cons_zero, List.getD_cons_succ, Nat.reduceBEq] at el
  have hcp := fun ro nx hp => copied_R _ y (Nat.lt_succ_self _) hy ro nx hp
  rw [encX_eq y] at hcp
  intro N
  induction N with
  | zero => intro x hx; omega
  | succ N ih =>
    intro x hx hs ro nx hp
    obtain ⟨hs1, hs2⟩ := (shX_eq x).1 hs
    have hloop := rounds (K := K) (ro := ⟨0, []⟩) el x.args.length (fun k tm1 n h => tm1.length = 39 ∧ getC tm1 1 = (.str nm, false) ∧ getC tm1 3 = (.ptr 0 0, false) ∧ getC tm1 5 = (.ptr 1 0, false) ∧ getC tm1 6 = (.ptr 2 0, false) ∧ getC tm1 22 = (.lst (encXs x.args), false) ∧ getC tm1 23 = (.int .i64 x.args.length, false) ∧ getC tm1 24 = (.int .i64 k, false) ∧ getC tm1 7 = (.lst (encXs ((x.args.map (putX nm y)).take k)), true) ∧ 3 ≤ n ∧ hget h 0 = some (cellsX x) ∧ hget h 1 = some (cellsX y) ∧ hget h 2 = some zeroC)
      (fun r => ∃ tm' n' hp', r = some (.exit 0, ⟨tm', n', hp'⟩) ∧ tm'.length = 39 ∧ getC tm' 3 = (.ptr 0 0, false) ∧ getC tm' 6 = (.ptr 2 0, false) ∧ getC tm' 7 = (.lst (encXs (x.args.map (putX nm y))), true) ∧ 3 ≤ n' ∧ hget hp' 0 = some (cellsX x) ∧ hget hp' 2 = some zeroC) (fun tm1 n h r => by
        rintro ⟨ht, h1, h3, h5, h6, h22, h23, h24, h7, hn, hb, hby, hz⟩ hX
        rw [List.take_of_length_le (by simp)] at h7
        simp [ht, h23, h24] at hX
        subst hX
        exact ⟨_, _, rfl, by simp, _, _, _, rfl, by simp [ht], by simp [h3], by simp [h6], by simp [h7], hn, hb, hz⟩) (fun k tm1 n h r hk => by
        rintro ⟨ht, h1, h3, h5, h6, h22, h23, h24, h7, hn, hb, hby, hz⟩ hX
        left
        have hxk := List.getElem?_eq_getElem (l := x.args) (i := k) hk
        have htk : (x.args.map (putX nm y)).take (k + 1) = (x.args.map (putX nm y)).take k ++ [putX nm y x.args[k]] := by rw [List.take_add_one, List.getElem?_map, hxk]; rfl
        generalize x.args[k] = u at hxk htk
        have hum := List.mem_of_getElem? hxk
        have hkl : (k : Int) < x.args.length := by omega
        have hue := encXs_at hxk
        have hw2 : IntKind.i64.wrap ((k : Int) + 1) = (k : Int) + 1 := wrap_small (by omega) (by omega)
        have w1 : ¬ n = 1 := by omega
        have w2 : ¬ 1 = n := by omega
        have w3 : ¬ n = 0 := by omega
        have w4 : ¬ 0 = n := by omega
        have w5 : ¬ n = 2 := by omega
        have w6 : ¬ 2 = n := by omega
        have hlen : (min k x.args.length + 1) * 56 ≤ 140737488355328 := by omega
        have hxm := fun ro nx hp => ih u (by have := args_lt hum; omega) (hs2 u hum) ro nx hp
        have hap : encXs ((x.args.map (putX nm y)).take k) ++ [encX (putX nm y u)] = encXs ((x.args.map (putX nm y)).take (k + 1)) := by rw [htk, encXs_app]; simp [encXs]
        rw [encX_eq (putX nm y u)] at hxm hap
        rw [encX_eq u, encX_eq y] at hxm
        rw [encX_eq] at hue
        unfold cellsX at hby
        simp [ht, h1, h3, h5, h6, h7, h22, h23, h24, hkl, hue, hw2, hxm, hby, w1, w2, w3, w4, w5, w6, hlen, hap] at hX
        subst hX
        exact ⟨_, _, _, rfl, by simp [ht], by simp [h1], by simp [h3], by simp [h5], by simp [h6], by simp [h22], by simp [h23], by simp [ht], by simp [ht], by omega, by simp [w3, w4, hb], by simp [w1, w2, hby, cellsX], by simp [w5, w6, hz]⟩) 0
    rw [putX_eq]
    rw [R_val' K ro 105 _ nx hp [] Tryz.func105 rfl Tryz.ntmps105 Tryz.results105 (mu := []) rfl (by kernel_rfl) rfl rfl]; simp only [slim, slimO, annO, List.map, List.zip, List.zipWith, List.lookup, holed, Nat.reduceBEq]
    cases hc : (x.op == 2 && x.name.toList == nm.toList)
    · have hc1 : x.op = 2 → ¬ x.name.toList = nm.toList := by
        intro h h2
        rw [h, h2] at hc
        simp at hc
      by_cases hc2 : x.op = 2
      · have hc3 := hc1 hc2
        simp [List.replicate, encX_eq, encXs_len, hc2, hc3]
        generalize hg : X K _ (.loop _) _ = r
        obtain ⟨tm', n', hp', rfl, g1, g2, g3, g4, g5, g6, g7⟩ : ∃ tm' n' hp', r = some (.exit 0, ⟨tm', n', hp'⟩) ∧ tm'.length = 39 ∧ getC tm' 3 = (.ptr 0 0, false) ∧ getC tm' 6 = (.ptr 2 0, false) ∧ getC tm' 7 = (.lst (encXs (x.args.map (putX nm y))), true) ∧ 3 ≤ n' ∧ hget hp' 0 = some (cellsX x) ∧ hget hp' 2 = some zeroC := by
          rw [← hg]
          refine hloop _ _ _ (by omega) ⟨?_, ?_, ?_, ?_, ?_, ?_, ?_, ?_, ?_, ?_, ?_, ?_, ?_⟩
          all_goals simp [cellsX, zeroC, encXs, hc2]
        clear hg hloop
        unfold cellsX at g6
        unfold zeroC at g7
        simp [g1, g2, g3, g4, g6, g7, hc2, Ex.op, Ex.n, Ex.name, Ex.args]
        try exact hc2
      · simp [List.replicate, encX_eq, encXs_len, hc2]
        generalize hg : X K _ (.loop _) _ = r
        obtain ⟨tm', n', hp', rfl, g1, g2, g3, g4, g5, g6, g7⟩ : ∃ tm' n' hp', r = some (.exit 0, ⟨tm', n', hp'⟩) ∧ tm'.length = 39 ∧ getC tm' 3 = (.ptr 0 0, false) ∧ getC tm' 6 = (.ptr 2 0, false) ∧ getC tm' 7 = (.lst (encXs (x.args.map (putX nm y))), true) ∧ 3 ≤ n' ∧ hget hp' 0 = some (cellsX x) ∧ hget hp' 2 = some zeroC := by
          rw [← hg]
          refine hloop _ _ _ (by omega) ⟨?_, ?_, ?_, ?_, ?_, ?_, ?_, ?_, ?_, ?_, ?_, ?_, ?_⟩
          all_goals simp [cellsX, zeroC, encXs]
        clear hg hloop
        unfold cellsX at g6
        unfold zeroC at g7
        simp [g1, g2, g3, g4, g6, g7]
        try simp [Ex.op, Ex.n, Ex.name, Ex.args]
    · simp only [Bool.and_eq_true, beq_iff_eq] at hc
      simp [List.replicate, encX_eq, encXs_len, hc.1, hc.2, hcp]
theorem replaced_R (nm : ByteArray) (y : Ex) : ∀ (N : Nat) (x : Ex), SizeOf.sizeOf x < N → shX x = true → ∀ (ro nx : Nat) (hp : Heap), R K 108 [encX x, .str nm, encX y] ro nx hp = some ⟨encX (putX nm y x), false, nx, hp⟩ := by
  have el := LB_open (P := Tryz.prog) [(7, [[], [1], [1], [], [1], [], [], [], [], []])] 0 Tryz.func108 rfl rfl (by kernel_rfl)
  simp only [slim, slimO, annO, List.map, List.zip, List.zipWith, List.lookup, holed, loopsOf, List.nil_append, List.cons_append, List.getD_cons_zero, List.getD_cons_succ, Nat.reduceBEq] at el
  intro N
  induction N with
  | zero => intro x hx; omega
  | succ N ih =>
    intro x hx hs ro nx hp
    obtain ⟨hs1, hs2⟩ := (shX_eq x).1 hs
    have hloop := rounds (K := K) (ro := ⟨0, []⟩) el x.args.length (fun k tm1 n h => tm1.length = 45 ∧ getC tm1 1 = (.str nm, false) ∧ getC tm1 7 = (.ptr 3 0, false) ∧ getC tm1 5 = (.ptr 1 0, false) ∧ getC tm1 6 = (.ptr 2 0, false) ∧ getC tm1 28 = (.lst (encXs x.args), false) ∧ getC tm1 29 = (.int .i64 x.args.length, false) ∧ getC tm1 30 = (.int .i64 k, false) ∧ 4 ≤ n ∧ hget h 3 = some (.cells [(.int .i64 x.op, false), (.int .i64 x.n, false), (.str x.name, false), (.lst (encXs ((x.args.map (putX nm y)).take k)), true)]) ∧ hget h 1 = some (cellsX y) ∧ hget h 2 = some zeroC)
      (fun r => ∃ tm' n' hp', r = some (.exit 0, ⟨tm', n', hp'⟩) ∧ tm'.length = 45 ∧ getC tm' 7 = (.ptr 3 0, false) ∧ getC tm' 6 = (.ptr 2 0, false) ∧ 4 ≤ n' ∧ hget hp' 3 = some (.cells [(.int .i64 x.op, false), (.int .i64 x.n, false), (.str x.name, false), (.lst (encXs (x.args.map (putX nm y))), true)]) ∧ hget hp' 2 = some zeroC) (fun tm1 n h r => by
        rintro ⟨ht, h1, h7, h5, h6, h28, h29, h30, hn, hb, hby, hz⟩ hX
        rw [List.take_of_length_le (by simp)] at hb
        simp [ht, h29, h30] at hX
        subst hX
        exact ⟨_, _, rfl, by simp, _, _, _, rfl, by simp [ht], by simp [h7], by simp [h6], hn, hb, hz⟩) (fun k tm1 n h r hk => by
        rintro ⟨ht, h1, h7, h5, h6, h28, h29, h30, hn, hb, hby, hz⟩ hX
        left
        have hxk := List.getElem?_eq_getElem (l := x.args) (i := k) hk
        have htk : (x.args.map (putX nm y)).take (k + 1) = (x.args.map (putX nm y)).take k ++ [putX nm y x.args[k]] := by rw [List.take_add_one, List.getElem?_map, hxk]; rfl
        generalize x.args[k] = u at hxk htk
        have hum := List.mem_of_getElem? hxk
        have hkl : (k : Int) < x.args.length := by omega
        have hue := encXs_at hxk
        have hw2 : IntKind.i64.wrap ((k : Int) + 1) = (k : Int) + 1 := wrap_small (by omega) (by omega)
        have w1 : ¬ n = 1 := by omega
        have w2 : ¬ 1 = n := by omega
        have w3 : ¬ n = 3 := by omega
        have w4 : ¬ 3 = n := by omega
        have w5 : ¬ n = 2 := by omega
        have w6 : ¬ 2 = n := by omega
        have hlen : (min k x.args.length + 1) * 56 ≤ 140737488355328 := by omega
        have hxm := fun ro nx hp => ih u (by have := args_lt hum; omega) (hs2 u hum) ro nx hp
        have hap : encXs ((x.args.map (putX nm y)).take k) ++ [encX (putX nm y u)] = encXs ((x.args.map (putX nm y)).take (k + 1)) := by rw [htk, encXs_app]; simp [encXs]
        rw [encX_eq (putX nm y u)] at hxm hap
        rw [encX_eq u, encX_eq y] at hxm
        rw [encX_eq] at hue
        unfold cellsX at hby
        cases hq : (AVal.lst (encXs ((x.args.map (putX nm y)).take k))).nilL
        all_goals
          simp [List.lookup, stayB, ht, h1, h7, h5, h6, h28, h29, h30, hkl, hue, hw2, hxm, hb, hby, w1, w2, w3, w4, w5, w6, hlen, hap, hq] at hX
          subst hX
          refine ⟨_, _, _, rfl, by simp [ht], by simp [h1], by simp [h7], by simp [h5], by simp [h6], by simp [h28], by simp [h29], by simp [ht], by omega, ?_, by simp [w1, w2, hby, cellsX], by simp [w5, w6, hz]⟩
          simp [w3, w4, hb]) 0
    rw [putX_eq]
    rw [R_val' K ro 108 _ nx hp [(7, [[], [1], [1], [], [1], [], [], [], [], []])] Tryz.func108 rfl Tryz.ntmps108 Tryz.results108 (mu := []) rfl (by kernel_rfl) rfl rfl]; simp only [slim, slimO, annO, List.map, List.zip, List.zipWith, List.lookup, holed, Nat.reduceBEq]
    cases hc : (x.op == 2 && x.name.toList == nm.toList)
    · have hc1 : x.op = 2 → ¬ x.name.toList = nm.toList := by
        intro h h2
        rw [h, h2] at hc
        simp at hc
      by_cases hc2 : x.op = 2
      · have hc3 := hc1 hc2
        simp [List.replicate, encX_eq, encXs_len, hc2, hc3]
        generalize hg : X K _ (.loop _) _ = r
        obtain ⟨tm', n', hp', rfl, g1, g2, g3, g5, g6, g7⟩ : ∃ tm' n' hp', r = some (.exit 0, ⟨tm', n', hp'⟩) ∧ tm'.length = 45 ∧ getC tm' 7 = (.ptr 3 0, false) ∧ getC tm' 6 = (.ptr 2 0, false) ∧ 4 ≤ n' ∧ hget hp' 3 = some (.cells [(.int .i64 x.op, false), (.int .i64 x.n, false), (.str x.name, false), (.lst (encXs (x.args.map (putX nm y))), true)]) ∧ hget hp' 2 = some zeroC := by
          rw [← hg]
          refine hloop _ _ _ (by omega) ⟨?_, ?_, ?_, ?_, ?_, ?_, ?_, ?_, ?_, ?_, ?_, ?_⟩
          all_goals simp [cellsX, zeroC, encXs, hc2]
        clear hg hloop
        unfold zeroC at g7
        simp [g1, g2, g3, g6, g7, hc2, Ex.op, Ex.n, Ex.name, Ex.args]
        try exact hc2
      · simp [List.replicate, encX_eq, encXs_len, hc2]
        generalize hg : X K _ (.loop _) _ = r
        obtain ⟨tm', n', hp', rfl, g1, g2, g3, g5, g6, g7⟩ : ∃ tm' n' hp', r = some (.exit 0, ⟨tm', n', hp'⟩) ∧ tm'.length = 45 ∧ getC tm' 7 = (.ptr 3 0, false) ∧ getC tm' 6 = (.ptr 2 0, false) ∧ 4 ≤ n' ∧ hget hp' 3 = some (.cells [(.int .i64 x.op, false), (.int .i64 x.n, false), (.str x.name, false), (.lst (encXs (x.args.map (putX nm y))), true)]) ∧ hget hp' 2 = some zeroC := by
          rw [← hg]
          refine hloop _ _ _ (by omega) ⟨?_, ?_, ?_, ?_, ?_, ?_, ?_, ?_, ?_, ?_, ?_, ?_⟩
          all_goals simp [cellsX, zeroC, encXs]
        clear hg hloop
        unfold zeroC at g7
        simp [g1, g2, g3, g6, g7]
        try simp [Ex.op, Ex.n, Ex.name, Ex.args]
    · simp only [Bool.and_eq_true, beq_iff_eq] at hc
      simp [List.replicate, encX_eq, encXs_len, hc.1, hc.2]
end Go.Proofs.YtleimfinniclgaaGreatDoor.M
/- Simple, Put, PutIn: with what may be wrong. -/
namespace Go.Proofs.YtleimfinniclgaaGreatDoor.M
open Go.Proofs Go.Proofs.YtleimfinniclgaaGreatDoor.X
set_option linter.unusedSimpArgs false
set_option linter.unusedVariables false
set_option maxRecDepth 100000
set_option pp.deepTerms false
set_option pp.deepTerms.threshold 6
set_option maxHeartbeats 4000000
def simpleF (x : Ex) : Ex × Int := if exF x 1 ≠ 0 then (zeroX, exF x 1) else (simpX x, 0)
theorem vSimple_R (x : Ex) (ro nx : Nat) (hp : Heap) : R K 38 [encX x] ro nx hp = some ⟨.tup [encX (simpleF x).1, .int .i64 (simpleF x).2], false, nx, hp⟩ := by
  have hce := checkExpr_R x
  unfold simpleF
  by_cases c1 : exF x 1 = 0
  · have hs := fun ro nx hp => simple_R _ x (Nat.lt_succ_self _) (exF_okX _ x 1 (Nat.lt_succ_self _) c1) ro nx hp
    rw [encX_eq (simpX x)] at hs
    rw [encX_eq] at hce hs
    rw [R_val' K ro 38 _ nx hp [] Tryz.func38 rfl Tryz.ntmps38 Tryz.results38 (mu := []) rfl (by kernel_rfl) rfl rfl]; simp only [slim, slimO, annO, List.map, List.zip, List.zipWith, List.lookup, holed, Nat.reduceBEq]
    simp [List.replicate, encX_eq, encXs_len, c1, hce, hs]
  · rw [encX_eq] at hce
    rw [R_val' K ro 38 _ nx hp [] Tryz.func38 rfl Tryz.ntmps38 Tryz.results38 (mu := []) rfl (by kernel_rfl) rfl rfl]; simp only [slim, slimO, annO, List.map, List.zip, List.zipWith, List.lookup, holed, Nat.reduceBEq]
    simp [List.replicate, encX_eq, encXs_len, c1, hce, encXs]
    try rfl
theorem nameFault_R (s : ByteArray) (ro nx : Nat) (hp : Heap) : R K 41 [.str s] ro nx hp = some ⟨.int .i64 (if nameB s = false then 5 else 0), false, nx, hp⟩ := by
  rw [R_val' K ro 41 _ nx hp [] Tryz.func41 rfl Tryz.ntmps41 Tryz.results41 (mu := []) rfl (by kernel_rfl) rfl rfl]; simp only [slim, slimO, annO, List.map, List.zip, List.zipWith, List.lookup, holed, Nat.reduceBEq]
  cases c : nameB s <;> simp [List.replicate, c]
def putInF (nm : ByteArray) (y x : Ex) : Ex × Int := if exF (putX nm y x) 1 ≠ 0 then (zeroX, exF (putX nm y x) 1) else (putX nm y x, 0)
theorem putIn_R (nm : ByteArray) (y x : Ex) (hx : shX x = true) (ro nx : Nat) (hp : Heap) : R K 43 [encX x, .str nm, encX y] ro nx hp = some ⟨.tup [encX (putInF nm y x).1, .int .i64 (putInF nm y x).2], false, nx, hp⟩ := by
  have hr := fun ro nx hp => replaced_R nm y _ x (Nat.lt_succ_self _) hx ro nx hp
  have hce := exprFaultQ_R (putX nm y x)
  unfold putInF
  generalize putX nm y x = z at hr hce
  rw [encX_eq z] at hr hce
  rw [encX_eq x, encX_eq y] at hr
  by_cases c1 : exF z 1 = 0
  · rw [R_val' K ro 43 _ nx hp [] Tryz.func43 rfl Tryz.ntmps43 Tryz.results43 (mu := []) rfl (by kernel_rfl) rfl rfl]; simp only [slim, slimO, annO, List.map, List.zip, List.zipWith, List.lookup, holed, Nat.reduceBEq]
    simp [List.replicate, encX_eq, encXs_len, c1, hce, hr]
  · rw [R_val' K ro 43 _ nx hp [] Tryz.func43 rfl Tryz.ntmps43 Tryz.results43 (mu := []) rfl (by kernel_rfl) rfl rfl]; simp only [slim, slimO, annO, List.map, List.zip, List.zipWith, List.lookup, holed, Nat.reduceBEq]
    simp [List.replicate, encX_eq, encXs_len, c1, hce, hr, encXs]
    try rfl
def bothF (x y : Ex) : Int := if exF x 1 ≠ 0 then exF x 1 else exF y 1
def putF (nm : ByteArray) (y x : Ex) : Ex × Int := if bothF x y ≠ 0 then (zeroX, bothF x y) else if nameB nm = false then (zeroX, 5) else putInF nm y x
theorem put_loop {nm : ByteArray} (x y : Ex) (tm : List Cell) (nx : Nat) (hp : Heap) (hn : 3 ≤ nx) (ht : tm.length = 43) (h1 : getC tm 1 = (.str nm, false)) (h3 : getC tm 3 = (.ptr 0 0, false)) (h5 : getC tm 5 = (.ptr 1 0, false)) (h6 : getC tm 6 = (.ptr 2 0, false)) (h15 : getC tm 15 = (.lst [encX x, encX y], true)) (h16 : getC tm 16 = (.int .i64 2, false)) (h17 : getC tm 17 = (.int .i64 0, false)) (hx : hget hp 0 = some (cellsX x)) (hy : hget hp 1 = some (cellsX y)) (hz : hget hp 2 = some zeroC) :
    ∃ tm' n' hp', X K ⟨0, []⟩ (.loop (LB Tryz.prog 39 [] 0)) ⟨tm, nx, hp⟩ = some (if bothF x y = 0 then .exit 0 else .ret, ⟨tm', n', hp'⟩) ∧ tm'.length = 43 ∧ getC tm' 6 = (.ptr 2 0, false) ∧ hget hp' 2 = some zeroC ∧ 3 ≤ n' ∧ (bothF x y = 0 → getC tm' 1 = (.str nm, false) ∧ getC tm' 3 = (.ptr 0 0, false) ∧ getC tm' 5 = (.ptr 1 0, false) ∧ hget hp' 0 = some (cellsX x) ∧ hget hp' 1 = some (cellsX y)) ∧ (bothF x y ≠ 0 → getC tm' 7 = (.int .i64 (bothF x y), false)) := by
  have el := LB_open (P := Tryz.prog) [] 0 Tryz.func39 rfl rfl (by kernel_rfl)
  simp only [slim, slimO, annO, List.map, List.zip, List.zipWith, List.lookup, holed, loopsOf, List.nil_append, List.cons_append, List.getD_cons_zero, List.getD_cons_succ, Nat.reduceBEq] at el
  have hcx := checkExpr_R x
  have hcy := checkExpr_R y
  rw [encX_eq] at hcx hcy
  rw [encX_eq x, encX_eq y] at h15
  refine rounds el 2 (fun k tm1 n h => tm1.length = 43 ∧ getC tm1 1 = (.str nm, false) ∧ getC tm1 3 = (.ptr 0 0, false) ∧ getC tm1 5 = (.ptr 1 0, false) ∧ getC tm1 6 = (.ptr 2 0, false) ∧ getC tm1 15 = getC tm 15 ∧ getC tm1 16 = (.int .i64 2, false) ∧ getC tm1 17 = (.int .i64 k, false) ∧ 3 ≤ n ∧ hget h 0 = some (cellsX x) ∧ hget h 1 = some (cellsX y) ∧ hget h 2 = some zeroC ∧ (0 < k → exF x 1 = 0) ∧ (1 < k → exF y 1 = 0))
    (fun r => ∃ tm' n' hp', r = some (if bothF x y = 0 then .exit 0 else .ret, ⟨tm', n', hp'⟩) ∧ tm'.length = 43 ∧ getC tm' 6 = (.ptr 2 0, false) ∧ hget hp' 2 = some zeroC ∧ 3 ≤ n' ∧ (bothF x y = 0 → getC tm' 1 = (.str nm, false) ∧ getC tm' 3 = (.ptr 0 0, false) ∧ getC tm' 5 = (.ptr 1 0, false) ∧ hget hp' 0 = some (cellsX x) ∧ hget hp' 1 = some (cellsX y)) ∧ (bothF x y ≠ 0 → getC tm' 7 = (.int .i64 (bothF x y), false))) ?_ ?_ 0 tm nx hp (by omega) ⟨ht, h1, h3, h5, h6, rfl, h16, h17, hn, hx, hy, hz, fun h => by omega, fun h => by omega⟩
  · rintro tm1 n h r ⟨ht, h1, h3, h5, h6, hl, h16, h17, hn, hx, hy, hz, e1, e2⟩ hX
    have hb : bothF x y = 0 := by unfold bothF; rw [if_neg (by rw [e1 (by omega)]; simp)]; exact e2 (by omega)
    simp [ht, h16, h17] at hX
    subst hX
    exact ⟨_, _, rfl, by simp, _, _, _, by rw [if_pos hb], by simp [ht], by simp [h6], hz, hn, fun _ => ⟨by simp [h1], by simp [h3], by simp [h5], hx, hy⟩, fun h => absurd hb h⟩
  · rintro k tm1 n h r hk ⟨ht, h1, h3, h5, h6, hl, h16, h17, hn, hx, hy, hz, e1, e2⟩ hX
    have hl15 := hl.trans h15
    have w1 : ¬ n = 1 := by omega
    have w2 : ¬ 1 = n := by omega
    have w3 : ¬ n = 0 := by omega
    have w4 : ¬ 0 = n := by omega
    have w5 : ¬ n = 2 := by omega
    have w6 : ¬ 2 = n := by omega
    have v1 : IntKind.i64.wrap 1 = 1 := by decide
    have v2 : IntKind.i64.wrap 2 = 2 := by decide
    unfold zeroC at hz
    have hk2 : k = 0 ∨ k = 1 := by omega
    rcases hk2 with rfl | rfl
    · by_cases c : exF x 1 = 0
      · left
        simp [ht, h1, h3, h5, h6, hl15, h16, h17, hcx, c, w5, w6, v1] at hX
        subst hX
        exact ⟨_, _, _, rfl, by simp [ht], by simp [h1], by simp [h3], by simp [h5], by simp [h6], by simp [hl], by simp [h16], by simp [ht], by omega, by simp [w3, w4, hx], by simp [w1, w2, hy], by simp [w5, w6, hz, zeroC], fun _ => c, fun h => by omega⟩
      · right
        have hb : bothF x y = exF x 1 := by unfold bothF; rw [if_pos c]
        simp [ht, h1, h3, h5, h6, hl15, h16, h17, hcx, c, w5, w6, v1, hz] at hX
        subst hX
        exact ⟨_, _, rfl, by simp, _, _, _, by rw [if_neg (by rw [hb]; exact c)], by simp [ht], by simp [h6], by simp [w5, w6, hz, zeroC], by omega, fun h => absurd (hb ▸ h) c, fun _ => by simp [ht, hb]⟩
    · have hx0 := e1 (by omega)
      have hb : bothF x y = exF y 1 := by unfold bothF; rw [if_neg (by rw [hx0]; simp)]
      by_cases c : exF y 1 = 0
      · left
        simp [ht, h1, h3, h5, h6, hl15, h16, h17, hcy, c, w5, w6, v2] at hX
        subst hX
        exact ⟨_, _, _, rfl, by simp [ht], by simp [h1], by simp [h3], by simp [h5], by simp [h6], by simp [hl], by simp [h16], by simp [ht], by omega, by simp [w3, w4, hx], by simp [w1, w2, hy], by simp [w5, w6, hz, zeroC], fun _ => hx0, fun _ => c⟩
      · right
        simp [ht, h1, h3, h5, h6, hl15, h16, h17, hcy, c, w5, w6, v2, hz] at hX
        subst hX
        exact ⟨_, _, rfl, by simp, _, _, _, by rw [if_neg (by rw [hb]; exact c)], by simp [ht], by simp [h6], by simp [w5, w6, hz, zeroC], by omega, fun h => absurd (hb ▸ h) c, fun _ => by simp [ht, hb]⟩
theorem both_zero {x y : Ex} (h : bothF x y = 0) : exF x 1 = 0 ∧ exF y 1 = 0 := by
  unfold bothF at h
  split at h
  · contradiction
  · rename_i h0
    exact ⟨by simpa using h0, h⟩
theorem vPut_R (nm : ByteArray) (y x : Ex) (ro nx : Nat) (hp : Heap) : R K 39 [encX x, .str nm, encX y] ro nx hp = some ⟨.tup [encX (putF nm y x).1, .int .i64 (putF nm y x).2], false, nx, hp⟩ := by
  have hloop := fun tm nx hp => put_loop (nm := nm) x y tm nx hp
  unfold putF
  rw [R_val' K ro 39 _ nx hp [] Tryz.func39 rfl Tryz.ntmps39 Tryz.results39 (mu := []) rfl (by kernel_rfl) rfl rfl]; simp only [slim, slimO, annO, List.map, List.zip, List.zipWith, List.lookup, holed, Nat.reduceBEq]
  simp [List.replicate, encX_eq, encXs_len]
  generalize hg : X K _ (.loop _) _ = r
  obtain ⟨tm', n', hp', rfl, g1, g2, g3, g4, g5, g6⟩ : ∃ tm' n' hp', r = some (if bothF x y = 0 then .exit 0 else .ret, ⟨tm', n', hp'⟩) ∧ tm'.length = 43 ∧ getC tm' 6 = (.ptr 2 0, false) ∧ hget hp' 2 = some zeroC ∧ 3 ≤ n' ∧ (bothF x y = 0 → getC tm' 1 = (.str nm, false) ∧ getC tm' 3 = (.ptr 0 0, false) ∧ getC tm' 5 = (.ptr 1 0, false) ∧ hget hp' 0 = some (cellsX x) ∧ hget hp' 1 = some (cellsX y)) ∧ (bothF x y ≠ 0 → getC tm' 7 = (.int .i64 (bothF x y), false)) := by
    rw [← hg]
    refine hloop _ _ _ ?_ ?_ ?_ ?_ ?_ ?_ ?_ ?_ ?_ ?_ ?_ ?_
    all_goals simp [cellsX, zeroC, encX_eq]
  clear hg hloop
  unfold zeroC at g3
  by_cases c1 : bothF x y = 0
  · obtain ⟨q1, q2, q3, q4, q5⟩ := g5 c1
    obtain ⟨e1, e2⟩ := both_zero c1
    unfold cellsX at q4 q5
    have hok := fun (z : Ex) (h : exF z 1 = 0) => ok_sh (exF_okX _ z 1 (Nat.lt_succ_self _) h)
    have hr := fun ro nx hp => put_R nm y (hok y e2) _ x (Nat.lt_succ_self _) (hok x e1) ro nx hp
    have hce := checkExpr_R (putX nm y x)
    have w1 : ¬ n' = 2 := by omega
    have w2 : ¬ 2 = n' := by omega
    unfold putInF
    generalize putX nm y x = z at hr hce
    rw [encX_eq z] at hr hce
    rw [encX_eq x, encX_eq y] at hr
    cases c2 : nameB nm
    · simp [c1, g1, g2, g3, q1, q2, q3, q4, q5, c2, encXs]
      try rfl
    · by_cases c3 : exF z 1 = 0
      · simp [c1, g1, g2, g3, q1, q2, q3, q4, q5, c2, hr, hce, c3, w1, w2]
      · simp [c1, g1, g2, g3, q1, q2, q3, q4, q5, c2, hr, hce, c3, w1, w2, encXs]
        try rfl
  · have q := g6 c1
    simp [c1, g1, g2, g3, q, encXs]
    try rfl
end Go.Proofs.YtleimfinniclgaaGreatDoor.M
/- VarsIn: a row, sorted; slices.Equal. -/
namespace Go.Proofs.YtleimfinniclgaaGreatDoor.M
open Go.Proofs Go.Proofs.YtleimfinniclgaaGreatDoor.X
set_option linter.unusedSimpArgs false
set_option linter.unusedVariables false
set_option maxRecDepth 100000
set_option pp.deepTerms false
set_option pp.deepTerms.threshold 6
set_option maxHeartbeats 4000000
theorem FZ_row {lo id k : Nat} {hp : Heap} {cs : List Cell} {ks : List BL} (hid : hget hp id = some (.cells cs)) (hlo : lo ≤ id) (hk : k ≤ cs.length) (hc : (cs.map (·.1)).take k = ks.map encSA) : FZ lo hp (.sl id 0 k 1 false) = some (.lst (ks.map encSA)) := by
  refine FZ_iff.2 ⟨1, ?_⟩
  have e : fz lo hp 1 (.sl id 0 k 1 false) = if (AVal.sl id 0 k 1 false).idsLt lo then some (.sl id 0 k 1 false) else fzv lo hp (fz lo hp 0) (.sl id 0 k 1 false) := rfl
  rw [e, if_neg (by simp; omega)]
  have hm : ∀ l : List BL, mapO (fz lo hp 0) (l.map encSA) = some (l.map encSA) := by
    intro l
    induction l with
    | nil => rfl
    | cons x r ih =>
      rw [List.map_cons, mapO, ih]
      have : fz lo hp 0 (encSA x) = some (encSA x) := by simp [fz, encSA]
      rw [this]
  simp only [fzv, hid]
  rw [if_pos ⟨hlo, Nat.one_pos, .inr trivial, by omega⟩, List.drop_zero, Nat.mul_one, List.map_take, hc, hm]
  simp [chop]
def cellsS (nm : List BL) : List Cell := nm.map fun k => (encSA k, false)
theorem decs_row (nm : List BL) : decs decS ((cellsS nm).map (·.1)) = some nm := by
  induction nm with
  | nil => rfl
  | cons k r ih =>
    rw [show (cellsS (k :: r)).map (·.1) = .str ⟨k.toArray⟩ :: (cellsS r).map (·.1) from rfl, decs, ih]
    simp [decS]
theorem cellsS_fst (nm : List BL) : (cellsS nm).map (·.1) = nm.map encSA := by simp [cellsS]
theorem cellsS_len (nm : List BL) : (cellsS nm).length = nm.length := by simp [cellsS]
theorem K_ext {f : FuncId} {args : List AVal} {ro nx : Nat} {hp : Heap} {r : Res} (h1 : pureExt 88 nameExt f args ro nx hp = none) (h2 : pureExt 78 nameExt f args ro nx hp = none) (h3 : pureExt 75 repeatExt f args ro nx hp = none) (h4 : moreExt f args ro nx hp = some r) : K.ext f args ro nx hp = some r := by
  show orExt (pureExt 88 nameExt) (orExt (pureExt 78 nameExt) (orExt (pureExt 75 repeatExt) moreExt)) f args ro nx hp = _
  simp only [orExt, h1, h2, h3, h4]
theorem sortS_R {nm : List BL} {id ro nx : Nat} {hp : Heap} (h : hget hp id = some (.cells (cellsS nm))) (h0 : 0 < nm.length) (h1 : nm.length < 1099511627776) (hro : ro ≤ id) :
    R K 86 [.sl id 0 nm.length 1 false] ro nx hp = some ⟨.tup [], false, nx, hset hp id (.cells (cellsS (nm.mergeSort leS)))⟩ := by
  refine ext_open rfl rfl (K_ext rfl rfl rfl ?_)
  have h6 : rowExt 86 decS encSA (fun xs => xs.mergeSort leS) (.tup []) (fun _ _ => .tup []) 86 [.sl id 0 nm.length 1 false] ro nx hp = some ⟨.tup [], false, nx, hset hp id (.cells (cellsS (nm.mergeSort leS)))⟩ := by
    simp only [rowExt, if_true, h, decs_row]
    rw [if_pos ⟨hro, h0, (cellsS_len nm).symm, h1, by rw [List.length_mergeSort, cellsS_len]⟩]
    rfl
  simp only [orExt, moreExt, h6]
  rfl
theorem sortS_nil (ro nx : Nat) (hp : Heap) : R K 86 [.lst []] ro nx hp = some ⟨.tup [], false, nx, hp⟩ := ext_open rfl rfl (K_ext rfl rfl rfl rfl)
theorem compS_nil (ro nx : Nat) (hp : Heap) : R K 87 [.lst []] ro nx hp = some ⟨.lst [], false, nx, hp⟩ := ext_open rfl rfl (K_ext rfl rfl rfl rfl)
theorem compactF_len (nm : List BL) : (compactF nm).length = nm.length := by
  have := compact_len nm
  simp only [compactF, List.length_append, List.length_replicate]
  omega
theorem compS_R {nm : List BL} {id ro nx : Nat} {hp : Heap} (h : hget hp id = some (.cells (cellsS nm))) (h0 : 0 < nm.length) (h1 : nm.length < 1099511627776) (hro : ro ≤ id) :
    R K 87 [.sl id 0 nm.length 1 false] ro nx hp = some ⟨.sl id 0 (Lib.compact nm).length 1 false, false, nx, hset hp id (.cells (cellsS (compactF nm)))⟩ := by
  refine ext_open rfl rfl (K_ext rfl rfl rfl ?_)
  have h6 : rowExt 87 decS encSA compactF (.lst []) (fun id xs => .sl id 0 (Lib.compact xs).length 1 false) 87 [.sl id 0 nm.length 1 false] ro nx hp = some ⟨.sl id 0 (Lib.compact nm).length 1 false, false, nx, hset hp id (.cells (cellsS (compactF nm)))⟩ := by
    simp only [rowExt, if_true, h, decs_row]
    rw [if_pos ⟨hro, h0, (cellsS_len nm).symm, h1, by rw [compactF_len, cellsS_len]⟩]
    rfl
  simp only [orExt, moreExt, h6]
  rfl
/-- The names so far, in a row. -/
def RowS (hp : Heap) (n : Nat) (nm : List BL) (v : AVal) (f : Bool) : Prop := (nm = [] ∧ v = .lst [] ∧ f = true) ∨ ∃ id, v = .sl id 0 nm.length 1 false ∧ f = false ∧ id < n ∧ 0 < nm.length ∧ hget hp id = some (.cells (cellsS nm))
theorem row_app (nm : List BL) (s : ByteArray) : unown (((cellsS nm).take (nm.length * 1)).map (·.1) ++ [.str s]) = cellsS (nm ++ [s.data.toList]) := by
  rw [Nat.mul_one, ← cellsS_len nm, List.take_length]
  simp [unown, cellsS, encSA]
theorem varsIn_inner (ps : List Ex) (acc : List BL) (hl : acc.length + ps.length < 1099511627776) (tm : List Cell) (nx : Nat) (hp : Heap) (v : AVal) (f fl : Bool) (ht : tm.length = 35) (h15 : getC tm 15 = (.lst (encXs ps), fl)) (h16 : getC tm 16 = (.int .i64 ps.length, false)) (h17 : getC tm 17 = (.int .i64 0, false)) (h3 : getC tm 3 = (v, f)) (hr : RowS hp nx acc v f) :
    ∃ tm' n' hp' v' f', X K ⟨0, [37]⟩ (.loop (LB Tryz.prog 19 [] 1)) ⟨tm, nx, hp⟩ = some (.exit 2, ⟨tm', n', hp'⟩) ∧ tm'.length = 35 ∧ getC tm' 8 = getC tm 8 ∧ getC tm' 9 = getC tm 9 ∧ getC tm' 10 = getC tm 10 ∧ getC tm' 3 = (v', f') ∧ RowS hp' n' (acc ++ nmL ps) v' f' := by
  have e := LB_open (P := Tryz.prog) [] 1 Tryz.func19 rfl rfl (by kernel_rfl)
  simp only [slim, slimO, annO, List.map, List.zip, List.zipWith, List.lookup, holed, loopsOf, List.nil_append, List.cons_append, List.getD_cons_zero, List.getD_cons_succ, Nat.reduceBEq] at e
  refine rounds e ps.length (fun k tm1 n h => tm1.length = 35 ∧ getC tm1 15 = (.lst (encXs ps), fl) ∧ getC tm1 16 = (.int .i64 ps.length, false) ∧ getC tm1 17 = (.int .i64 k, false) ∧ getC tm1 8 = getC tm 8 ∧ getC tm1 9 = getC tm 9 ∧ getC tm1 10 = getC tm 10 ∧ ∃ v f, getC tm1 3 = (v, f) ∧ RowS h n (acc ++ nmL (ps.take k)) v f)
    (fun r => ∃ tm' n' hp' v' f', r = some (.exit 2, ⟨tm', n', hp'⟩) ∧ tm'.length = 35 ∧ getC tm' 8 = getC tm 8 ∧ getC tm' 9 = getC tm 9 ∧ getC tm' 10 = getC tm 10 ∧ getC tm' 3 = (v', f') ∧ RowS hp' n' (acc ++ nmL ps) v' f') ?_ ?_ 0 tm nx hp (by omega) ⟨ht, h15, h16, h17, rfl, rfl, rfl, v, f, h3, by simpa [nmL] using hr⟩
  · rintro tm1 n h r ⟨ht, h15, h16, h17, h8, h9, h10, v, f, h3, hr⟩ hX
    rw [List.take_length] at hr
    simp [ht, h16, h17] at hX
    subst hX
    exact ⟨_, _, rfl, by simp, _, _, _, v, f, rfl, by simp [ht], by simp [h8], by simp [h9], by simp [h10], by simp [h3], hr⟩
  · rintro k tm1 n h r hk ⟨ht, h15, h16, h17, h8, h9, h10, v, f, h3, hr⟩ hX
    left
    have hx := List.getElem?_eq_getElem (l := ps) (i := k) hk
    have htk : nmL (ps.take (k + 1)) = nmL (ps.take k) ++ nmL [ps[k]] := by rw [List.take_add_one, hx, nmL_app]; rfl
    have hml : (nmL (ps.take k)).length ≤ k := by
      unfold nmL
      rw [List.length_map]
      exact Nat.le_trans (List.length_filter_le _ _) (by rw [List.length_take]; omega)
    generalize ps[k] = y at hx htk
    have hkl : (k : Int) < ps.length := by omega
    have hxe := encXs_at hx
    have hw2 : IntKind.i64.wrap ((k : Int) + 1) = (k : Int) + 1 := wrap_small (by omega) (by omega)
    rw [encX_eq] at hxe
    have hnl : (acc ++ nmL (ps.take k)).length < 1099511627776 := by rw [List.length_append]; omega
    have hnm : acc ++ nmL (ps.take (k + 1)) = (acc ++ nmL (ps.take k)) ++ nmL [y] := by rw [htk, List.append_assoc]
    rw [hnm]
    clear hnm htk
    generalize acc ++ nmL (ps.take k) = nm at hr hnl ⊢
    have keep : ∀ c, RowS h n nm v f → RowS ((n, c) :: h) (n + 1) nm v f := by
      intro c hr
      rcases hr with hr | ⟨id, q1, q2, q3, q4, q5⟩
      · exact .inl hr
      · have w1 : ¬ n = id := by omega
        have w2 : ¬ id = n := by omega
        exact .inr ⟨id, q1, q2, by omega, q4, by simp [w1, w2, q5]⟩
    by_cases c : y.op = 2
    · have hy : nmL [y] = [y.name.data.toList] := by simp [nmL, c]
      rw [hy]
      rcases hr with ⟨hr1, rfl, rfl⟩ | ⟨id, rfl, rfl, q3, q4, q5⟩
      · simp [ht, h3, h15, h16, h17, hkl, hxe, hw2, c] at hX
        subst hX
        refine ⟨_, _, _, rfl, by simp [ht], by simp [h15], by simp [h16], by simp [ht], by simp [h8], by simp [h9], by simp [h10], _, _, by simp [ht]; rfl, .inr ⟨n + 2, ?_, rfl, by omega, ?_, ?_⟩⟩
        all_goals subst hr1
        all_goals simp [cellsS, encSA, unown]
      · have w1 : ¬ n = id := by omega
        have w2 : ¬ id = n := by omega
        have w3 : ¬ n + 1 = id := by omega
        have w4 : ¬ id = n + 1 := by omega
        have hg' : hget ((n + 1, .cells [(.str y.name, false)]) :: (n, ABlk.cells [(AVal.int .i64 y.op, false), (.int .i64 y.n, false), (.str y.name, false), (.lst (encXs y.args), false)]) :: h) id = some (.cells (cellsS nm)) := by simp [w1, w2, w3, w4, q5]
        have hap := apM_sl hg' 0 16 1 false false false (.tmp 24) (n + 1 + 1) nm.length 1 1 [AVal.str y.name]
        rw [if_pos ⟨by omega, rfl, by rw [cellsS_len]; omega, by omega⟩, row_app] at hap
        rw [c] at hap hg' hxe
        simp [ht, h3, h15, h16, h17, hkl, hxe, hw2, c, hap] at hX
        subst hX
        refine ⟨_, _, _, rfl, by simp [ht], by simp [h15], by simp [h16], by simp [ht], by simp [h8], by simp [h9], by simp [h10], _, _, by simp [ht]; rfl, .inr ⟨n + 1 + 1, ?_, rfl, by omega, ?_, ?_⟩⟩
        · simp
        · simp
        · simp
    · have hy : nmL [y] = [] := by simp [nmL, c]
      rw [hy, List.append_nil]
      simp [ht, h3, h15, h16, h17, hkl, hxe, hw2, c] at hX
      subst hX
      exact ⟨_, _, _, rfl, by simp [ht], by simp [h15], by simp [h16], by simp [ht], by simp [h8], by simp [h9], by simp [h10], v, f, by simp [h3], keep _ hr⟩
end Go.Proofs.YtleimfinniclgaaGreatDoor.M
/- VarsIn; slices.Equal of equal rows; the law ExprsValued, run by the machine. -/
namespace Go.Proofs.YtleimfinniclgaaGreatDoor.M
open Go.Proofs Go.Proofs.YtleimfinniclgaaGreatDoor.X
set_option linter.unusedSimpArgs false
set_option linter.unusedVariables false
set_option maxRecDepth 100000
set_option pp.deepTerms false
set_option pp.deepTerms.threshold 6
set_option maxHeartbeats 4000000
theorem varsIn_inner' (ps : List Ex) (acc : List BL) (hl : acc.length + ps.length < 1099511627776) (tm : List Cell) (nx : Nat) (hp : Heap) (v : AVal) (f fl : Bool) (c8 c9 c10 : Cell) (ht : tm.length = 35) (h15 : getC tm 15 = (.lst (encXs ps), fl)) (h16 : getC tm 16 = (.int .i64 ps.length, false)) (h17 : getC tm 17 = (.int .i64 0, false)) (h3 : getC tm 3 = (v, f)) (h8 : getC tm 8 = c8) (h9 : getC tm 9 = c9) (h10 : getC tm 10 = c10) (hr : RowS hp nx acc v f) :
    ∃ tm' n' hp' v' f', X K ⟨0, [37]⟩ (.loop (LB Tryz.prog 19 [] 1)) ⟨tm, nx, hp⟩ = some (.exit 2, ⟨tm', n', hp'⟩) ∧ tm'.length = 35 ∧ getC tm' 8 = c8 ∧ getC tm' 9 = c9 ∧ getC tm' 10 = c10 ∧ getC tm' 3 = (v', f') ∧ RowS hp' n' (acc ++ nmL ps) v' f' := by
  subst h8 h9 h10
  exact varsIn_inner ps acc hl tm nx hp v f fl ht h15 h16 h17 h3 hr
theorem varsIn_R (es : List Ex) (he : es.length ≤ 2) (hx : ∀ x ∈ es, exF x 1 = 0) (ro nx : Nat) (hp : Heap) : R K 19 [.lst (encXs es)] ro nx hp = some ⟨.lst ((Lib.compact ((nmL (partsXs es)).mergeSort leS)).map encSA), false, nx, hp⟩ := by
  have e := LB_open (P := Tryz.prog) [] 0 Tryz.func19 rfl rfl (by kernel_rfl)
  simp only [slim, slimO, annO, List.map, List.zip, List.zipWith, List.lookup, holed, loopsOf, List.nil_append, List.cons_append, List.getD_cons_zero, List.getD_cons_succ, Nat.reduceBEq] at e
  have hb : ∀ k, (partsXs (es.take k)).length ≤ 2 * 1743392200 := fun k => by
    have h1 : (partsXs (es.take k)).length ≤ (es.take k).length * 1743392200 := partsXs_len fun x h => cnt_bound (hx x (List.mem_of_mem_take h)) (by omega)
    have h2 : (es.take k).length ≤ 2 := by rw [List.length_take]; omega
    exact Nat.le_trans h1 (Nat.mul_le_mul_right 1743392200 h2)
  have hnl : ∀ l : List Ex, (nmL l).length ≤ l.length := fun l => by unfold nmL; rw [List.length_map]; exact List.length_filter_le _ _
  have hloop := rounds (K := K) (ro := ⟨0, [37]⟩) e es.length (fun k tm1 n h => tm1.length = 35 ∧ getC tm1 8 = (.lst (encXs es), false) ∧ getC tm1 9 = (.int .i64 es.length, false) ∧ getC tm1 10 = (.int .i64 k, false) ∧ ∃ v f, getC tm1 3 = (v, f) ∧ RowS h n (nmL (partsXs (es.take k))) v f)
    (fun r => ∃ tm' n' hp' v f, r = some (.exit 0, ⟨tm', n', hp'⟩) ∧ tm'.length = 35 ∧ getC tm' 3 = (v, f) ∧ RowS hp' n' (nmL (partsXs es)) v f) (fun tm1 n h r => by
      rintro ⟨ht, h8, h9, h10, v, f, h3, hr⟩ hX
      rw [List.take_length] at hr
      simp [ht, h9, h10] at hX
      subst hX
      exact ⟨_, _, rfl, by simp, _, _, _, v, f, rfl, by simp [ht], by simp [h3], hr⟩) (fun k tm1 n h r hk => by
      rintro ⟨ht, h8, h9, h10, v, f, h3, hr⟩ hX
      left
      have hxk := List.getElem?_eq_getElem (l := es) (i := k) hk
      have htk : nmL (partsXs (es.take (k + 1))) = nmL (partsXs (es.take k)) ++ nmL (partsX es[k]) := by
        rw [List.take_add_one, hxk, partsXs_app, nmL_app]; simp [partsXs]
      have hb1 := hb k
      have hn1 := hnl (partsXs (es.take k))
      generalize es[k] = y at hxk htk
      have hym := List.mem_of_getElem? hxk
      have hby := cnt_bound (hx y hym) (by omega)
      have hkl : (k : Int) < es.length := by omega
      have hxe := encXs_at hxk
      have hw2 : IntKind.i64.wrap ((k : Int) + 1) = (k : Int) + 1 := wrap_small (by omega) (by omega)
      have hpa := fun ro nx hp => parts_R (SizeOf.sizeOf y + 1) y 1 (Nat.lt_succ_self _) (by omega) (hx y hym) ro nx hp
      rw [encX_eq] at hpa hxe
      have hr' : RowS ((n, .cells [(.int .i64 y.op, false), (.int .i64 y.n, false), (.str y.name, false), (.lst (encXs y.args), false)]) :: h) (n + 1) (nmL (partsXs (es.take k))) v f := by
        rcases hr with hr | ⟨id, q1, q2, q3, q4, q5⟩
        · exact .inl hr
        · have w1 : ¬ n = id := by omega
          have w2 : ¬ id = n := by omega
          exact .inr ⟨id, q1, q2, by omega, q4, by simp [w1, w2, q5]⟩
      simp [ht, h8, h9, h10, hkl, hxe, hw2, hpa] at hX
      generalize hg : X K _ (.loop _) _ = r2 at hX
      obtain ⟨tm', n', hp', v', f', rfl, g1, g2, g3, g4, g5, g6⟩ : ∃ tm' n' hp' v' f', r2 = some (.exit 2, ⟨tm', n', hp'⟩) ∧ tm'.length = 35 ∧ getC tm' 8 = (.lst (encXs es), false) ∧ getC tm' 9 = (.int .i64 es.length, false) ∧ getC tm' 10 = (.int .i64 k, false) ∧ getC tm' 3 = (v', f') ∧ RowS hp' n' (nmL (partsXs (es.take k)) ++ nmL (partsX y)) v' f' := by
        rw [← hg]
        exact varsIn_inner' (partsX y) (nmL (partsXs (es.take k))) (by omega) _ (n + 1) _ v f true _ _ _ (by simp [ht]) (by simp [ht]) (by simp [ht]) (by simp [ht]) (by simp [h3]) (by simp [h8]) (by simp [h9]) (by simp [h10]) hr'
      clear hg
      simp [g1, g2, g3, g4, hw2] at hX
      subst hX
      exact ⟨_, _, _, rfl, by simp [g1], by simp [g2], by simp [g3], by simp [g1], v', f', by simp [g5], by rw [htk]; exact g6⟩) 0
  have hlen : (nmL (partsXs es)).length < 1099511627776 := by
    have h1 := hb es.length
    rw [List.take_length] at h1
    have := hnl (partsXs es)
    omega
  rw [R_val' K ro 19 _ nx hp [] Tryz.func19 rfl Tryz.ntmps19 Tryz.results19 (mu := [37]) rfl (by kernel_rfl) rfl rfl]; simp only [slim, slimO, annO, List.map, List.zip, List.zipWith, List.lookup, holed, Nat.reduceBEq]
  simp [List.replicate, encXs_len]
  generalize hg : X K _ (.loop _) _ = r
  obtain ⟨tm', n', hp', v, f, rfl, g1, g2, g3⟩ : ∃ tm' n' hp' v f, r = some (.exit 0, ⟨tm', n', hp'⟩) ∧ tm'.length = 35 ∧ getC tm' 3 = (v, f) ∧ RowS hp' n' (nmL (partsXs es)) v f := by
    rw [← hg]
    refine hloop _ _ _ (by omega) ⟨?_, ?_, ?_, ?_, .lst [], true, ?_, .inl ⟨by simp [partsXs, nmL], rfl, rfl⟩⟩
    all_goals simp
  clear hg hloop
  rcases g3 with ⟨q0, rfl, rfl⟩ | ⟨id, rfl, rfl, q3, q4, q5⟩
  · rw [q0]
    have h1 := sortS_nil 0 n' hp'
    have h2 := compS_nil 0 n' hp'
    simp [g1, g2, h1, h2]
    rfl
  · generalize nmL (partsXs es) = nm at *
    have h1 := sortS_R q5 q4 hlen (ro := 0) (nx := n') (by omega)
    have hg2 : hget (hset hp' id (.cells (cellsS (nm.mergeSort leS)))) id = some (.cells (cellsS (nm.mergeSort leS))) := by rw [hget_hset, if_pos rfl, q5]; rfl
    have h2 := compS_R hg2 (by rw [List.length_mergeSort]; exact q4) (by rw [List.length_mergeSort]; exact hlen) (ro := 0) (nx := n') (by omega)
    rw [List.length_mergeSort, hset_hset] at h2
    have hcl := compact_len (nm.mergeSort leS)
    have hfz := FZ_row (lo := 0) (k := (Lib.compact (nm.mergeSort leS)).length) (hp := hset hp' id (.cells (cellsS (compactF (nm.mergeSort leS))))) (ks := Lib.compact (nm.mergeSort leS)) (by rw [hget_hset, if_pos rfl, q5]; rfl) (Nat.zero_le id) (by rw [cellsS_len, compactF_len]; exact hcl) (by
      rw [cellsS_fst]
      simp [compactF])
    have hse : ∀ o, Sealed 0 [] (some ⟨.sl id 0 (Lib.compact (nm.mergeSort leS)).length 1 false, o, n', hset hp' id (.cells (cellsS (compactF (nm.mergeSort leS))))⟩) = some ⟨.lst ((Lib.compact (nm.mergeSort leS)).map encSA), false, 0, []⟩ := fun o => by
      simp only [Sealed, hfz, idsLt_lst, ids_strs, if_true, slOwn]
      simp
    simp [g1, g2, h1, h2, hse]
theorem equalS_R (l : List BL) (hl : l.length < 4611686018427387904) (ro nx : Nat) (hp : Heap) : R K 22 [.lst (l.map encSA), .lst (l.map encSA)] ro nx hp = some ⟨.bool true, false, nx, hp⟩ := by
  have e := LB_open (P := Tryz.prog) [] 0 Tryz.func22 rfl rfl (by kernel_rfl)
  simp only [slim, slimO, annO, List.map, List.zip, List.zipWith, List.lookup, holed, loopsOf, List.nil_append, List.cons_append, List.getD_cons_zero, List.getD_cons_succ, Nat.reduceBEq] at e
  have hloop := rounds (K := K) (ro := ⟨0, []⟩) e l.length (fun k tm1 n h => tm1.length = 26 ∧ getC tm1 0 = (.lst (l.map encSA), false) ∧ getC tm1 1 = (.lst (l.map encSA), false) ∧ getC tm1 12 = (.int .i64 l.length, false) ∧ getC tm1 13 = (.int .i64 k, false))
    (fun r => ∃ tm' n' hp', r = some (.exit 0, ⟨tm', n', hp'⟩) ∧ tm'.length = 26) (fun tm1 n h r => by
      rintro ⟨ht, h0, h1, h12, h13⟩ hX
      simp [ht, h12, h13] at hX
      subst hX
      exact ⟨_, _, rfl, by simp, _, _, _, rfl, by simp [ht]⟩) (fun k tm1 n h r hk => by
      rintro ⟨ht, h0, h1, h12, h13⟩ hX
      left
      have hxe : (l.map encSA)[k]? = some (.str ⟨l[k].toArray⟩) := by rw [List.getElem?_map, List.getElem?_eq_getElem hk]; rfl
      generalize l[k] = y at hxe
      have hkl : (k : Int) < l.length := by omega
      have hw2 : IntKind.i64.wrap ((k : Int) + 1) = (k : Int) + 1 := wrap_small (by omega) (by omega)
      simp only [List.getElem?_map] at hxe
      simp [ht, h0, h1, h12, h13, hkl, hxe, hw2] at hX
      subst hX
      exact ⟨_, _, _, rfl, by simp [ht], by simp [h0], by simp [h1], by simp [h12], by simp [ht]⟩) 0
  rw [R_val' K ro 22 _ nx hp [] Tryz.func22 rfl Tryz.ntmps22 Tryz.results22 (mu := []) rfl (by kernel_rfl) rfl rfl]; simp only [slim, slimO, annO, List.map, List.zip, List.zipWith, List.lookup, holed, Nat.reduceBEq]
  simp [List.replicate, ids_strs]
  generalize hg : X K _ (.loop _) _ = r
  obtain ⟨tm', n', hp', rfl, g1⟩ : ∃ tm' n' hp', r = some (.exit 0, ⟨tm', n', hp'⟩) ∧ tm'.length = 26 := by
    rw [← hg]
    refine hloop _ _ _ (by omega) ⟨?_, ?_, ?_, ?_, ?_⟩
    all_goals simp
  clear hg hloop
  simp [g1]
end Go.Proofs.YtleimfinniclgaaGreatDoor.M
/- Differ: the first value at which two expressions differ. -/
namespace Go.Proofs.YtleimfinniclgaaGreatDoor.M
open Go.Proofs Go.Proofs.YtleimfinniclgaaGreatDoor.X
set_option linter.unusedSimpArgs false
set_option linter.unusedVariables false
set_option maxRecDepth 100000
set_option pp.deepTerms false
set_option pp.deepTerms.threshold 6
set_option maxHeartbeats 4000000
theorem valX_congr {t t' : ByteArray → Int} : ∀ (N : Nat) (x : Ex), SizeOf.sizeOf x < N → (∀ k ∈ nmL (partsX x), t ⟨k.toArray⟩ = t' ⟨k.toArray⟩) → valX t x = valX t' x := by
  intro N
  induction N with
  | zero => intro x hx; omega
  | succ N ih =>
    intro x hx hk
    have hargs : ∀ (ys : List Ex), (∀ y ∈ ys, y ∈ x.args) → (∀ k ∈ nmL (partsXs ys), t ⟨k.toArray⟩ = t' ⟨k.toArray⟩) → valXs t ys = valXs t' ys := by
      intro ys
      induction ys with
      | nil => intro _ _; rfl
      | cons y r ihr =>
        intro hs h
        rw [partsXs, nmL_app] at h
        have hy := hs y (.head _)
        rw [valXs, valXs, ih y (by have := args_lt hy; omega) fun k hk => h k (List.mem_append_left _ hk), ihr (fun z hz => hs z (.tail _ hz)) fun k hk => h k (List.mem_append_right _ hk)]
    rw [partsX_eq, nmL_app] at hk
    rw [valX_eq, valX_eq]
    split
    · rfl
    · split
      · rename_i c
        have := hk x.name.data.toList (List.mem_append_right _ (by simp [nmL, c]))
        simpa using this
      · rw [hargs x.args (fun _ h => h) fun k h => hk k (List.mem_append_left _ h)]
/-- The first value, from k on, at which two expressions differ. -/
def difGo (a b : Ex) : Nat → Nat → Option Nat
  | 0, _ => none
  | n + 1, k => if valX (fun _ => (k : Int)) a ≠ valX (fun _ => (k : Int)) b then some k else difGo a b n (k + 1)
def resD (o : Option Nat) : AVal := match o with
  | some k => .tup [.int .i64 k, .bool true, .int .i64 0]
  | none => .tup [.int .i64 0, .bool false, .int .i64 0]
def namesD (a b : Ex) : List BL := (namesXs [a, b] []).mergeSort leS
theorem cloD (p b k : Nat) (hp0 : Heap) (hpb : p < b) (h : hget hp0 p = some (.cells [(.int .i64 k, false)])) : CloOk 106 [.ptr p 0] (fun _ => (k : Int)) b hp0 := by
  intro s ro nx hp hb he
  have q1 := (he p hpb).trans h
  rw [R_pure' K ro 106 _ nx hp [] Tryz.func106 rfl Tryz.ntmps106 Tryz.results106 (mu := []) rfl (by kernel_rfl) rfl rfl rfl]; simp only [slim, slimO, annO, List.map, List.zip, List.zipWith, List.lookup, holed, Nat.reduceBEq]
  simp [List.replicate, q1]
theorem check_loop (x y : Ex) (tm : List Cell) (nx : Nat) (hp : Heap) (hn : 2 ≤ nx) (ht : tm.length = 45) (h2 : getC tm 2 = (.ptr 0 0, false)) (h3 : getC tm 3 = (.ptr 1 0, false)) (h14 : getC tm 14 = (.lst [encX x, encX y], true)) (h15 : getC tm 15 = (.int .i64 2, false)) (h16 : getC tm 16 = (.int .i64 0, false)) (hx : hget hp 0 = some (cellsX x)) (hy : hget hp 1 = some (cellsX y)) :
    ∃ tm' n' hp', X K ⟨0, []⟩ (.loop (LB Tryz.prog 40 [] 0)) ⟨tm, nx, hp⟩ = some (if bothF x y = 0 then .exit 0 else .ret, ⟨tm', n', hp'⟩) ∧ tm'.length = 45 ∧ (bothF x y = 0 → getC tm' 2 = (.ptr 0 0, false) ∧ getC tm' 3 = (.ptr 1 0, false) ∧ 2 ≤ n' ∧ hget hp' 0 = some (cellsX x) ∧ hget hp' 1 = some (cellsX y)) ∧ (bothF x y ≠ 0 → getC tm' 4 = (.int .i64 0, false) ∧ getC tm' 5 = (.bool false, false) ∧ getC tm' 6 = (.int .i64 (bothF x y), false)) := by
  have el := LB_open (P := Tryz.prog) [] 0 Tryz.func40 rfl rfl (by kernel_rfl)
  simp only [slim, slimO, annO, List.map, List.zip, List.zipWith, List.lookup, holed, loopsOf, List.nil_append, List.cons_append, List.getD_cons_zero, List.getD_cons_succ, Nat.reduceBEq] at el
  have hcx := checkExpr_R x
  have hcy := checkExpr_R y
  rw [encX_eq] at hcx hcy
  rw [encX_eq x, encX_eq y] at h14
  refine rounds el 2 (fun k tm1 n h => tm1.length = 45 ∧ getC tm1 2 = (.ptr 0 0, false) ∧ getC tm1 3 = (.ptr 1 0, false) ∧ getC tm1 14 = getC tm 14 ∧ getC tm1 15 = (.int .i64 2, false) ∧ getC tm1 16 = (.int .i64 k, false) ∧ 2 ≤ n ∧ hget h 0 = some (cellsX x) ∧ hget h 1 = some (cellsX y) ∧ (0 < k → exF x 1 = 0) ∧ (1 < k → exF y 1 = 0))
    (fun r => ∃ tm' n' hp', r = some (if bothF x y = 0 then .exit 0 else .ret, ⟨tm', n', hp'⟩) ∧ tm'.length = 45 ∧ (bothF x y = 0 → getC tm' 2 = (.ptr 0 0, false) ∧ getC tm' 3 = (.ptr 1 0, false) ∧ 2 ≤ n' ∧ hget hp' 0 = some (cellsX x) ∧ hget hp' 1 = some (cellsX y)) ∧ (bothF x y ≠ 0 → getC tm' 4 = (.int .i64 0, false) ∧ getC tm' 5 = (.bool false, false) ∧ getC tm' 6 = (.int .i64 (bothF x y), false))) ?_ ?_ 0 tm nx hp (by omega) ⟨ht, h2, h3, rfl, h15, h16, hn, hx, hy, fun h => by omega, fun h => by omega⟩
  · rintro tm1 n h r ⟨ht, h2, h3, hl, h15, h16, hn, hx, hy, e1, e2⟩ hX
    have hb : bothF x y = 0 := by unfold bothF; rw [if_neg (by rw [e1 (by omega)]; simp)]; exact e2 (by omega)
    simp [ht, h15, h16] at hX
    subst hX
    exact ⟨_, _, rfl, by simp, _, _, _, by rw [if_pos hb], by simp [ht], fun _ => ⟨by simp [h2], by simp [h3], hn, hx, hy⟩, fun h => absurd hb h⟩
  · rintro k tm1 n h r hk ⟨ht, h2, h3, hl, h15, h16, hn, hx, hy, e1, e2⟩ hX
    have hl14 := hl.trans h14
    have w1 : ¬ n = 1 := by omega
    have w2 : ¬ 1 = n := by omega
    have w3 : ¬ n = 0 := by omega
    have w4 : ¬ 0 = n := by omega
    have v1 : IntKind.i64.wrap 1 = 1 := by decide
    have v2 : IntKind.i64.wrap 2 = 2 := by decide
    have hk2 : k = 0 ∨ k = 1 := by omega
    rcases hk2 with rfl | rfl
    · by_cases c : exF x 1 = 0
      · left
        simp [ht, h2, h3, hl14, h15, h16, hcx, c, v1] at hX
        subst hX
        exact ⟨_, _, _, rfl, by simp [ht], by simp [h2], by simp [h3], by simp [hl], by simp [h15], by simp [ht], by omega, by simp [w3, w4, hx], by simp [w1, w2, hy], fun _ => c, fun h => by omega⟩
      · right
        have hb : bothF x y = exF x 1 := by unfold bothF; rw [if_pos c]
        simp [ht, h2, h3, hl14, h15, h16, hcx, c, v1] at hX
        subst hX
        exact ⟨_, _, rfl, by simp, _, _, _, by rw [if_neg (by rw [hb]; exact c)], by simp [ht], fun h => absurd (hb ▸ h) c, fun _ => ⟨by simp [ht], by simp [ht], by simp [ht, hb]⟩⟩
    · have hx0 := e1 (by omega)
      have hb : bothF x y = exF y 1 := by unfold bothF; rw [if_neg (by rw [hx0]; simp)]
      by_cases c : exF y 1 = 0
      · left
        simp [ht, h2, h3, hl14, h15, h16, hcy, c, v2] at hX
        subst hX
        exact ⟨_, _, _, rfl, by simp [ht], by simp [h2], by simp [h3], by simp [hl], by simp [h15], by simp [ht], by omega, by simp [w3, w4, hx], by simp [w1, w2, hy], fun _ => hx0, fun _ => c⟩
      · right
        simp [ht, h2, h3, hl14, h15, h16, hcy, c, v2] at hX
        subst hX
        exact ⟨_, _, rfl, by simp, _, _, _, by rw [if_neg (by rw [hb]; exact c)], by simp [ht], fun h => absurd (hb ▸ h) c, fun _ => ⟨by simp [ht], by simp [ht], by simp [ht, hb]⟩⟩
theorem dif_loop (x y : Ex) (hex : exF x 1 = 0) (hey : exF y 1 = 0) (tm : List Cell) (nx : Nat) (hp : Heap) (hn : 2 ≤ nx) (ht : tm.length = 45) (h2 : getC tm 2 = (.ptr 0 0, false)) (h3 : getC tm 3 = (.ptr 1 0, false)) (h32 : getC tm 32 = (.int .i64 0, false)) (hx : hget hp 0 = some (cellsX x)) (hy : hget hp 1 = some (cellsX y)) :
    ∃ tm' n' hp', X K ⟨0, []⟩ (.loop (LB Tryz.prog 40 [] 1)) ⟨tm, nx, hp⟩ = some (if difGo x y 1000 0 = none then .exit 2 else .ret, ⟨tm', n', hp'⟩) ∧ tm'.length = 45 ∧ ∀ k, difGo x y 1000 0 = some k → getC tm' 4 = (.int .i64 k, false) ∧ getC tm' 5 = (.bool true, false) ∧ getC tm' 6 = (.int .i64 0, false) := by
  have el := LB_open (P := Tryz.prog) [] 1 Tryz.func40 rfl rfl (by kernel_rfl)
  simp only [slim, slimO, annO, List.map, List.zip, List.zipWith, List.lookup, holed, loopsOf, List.nil_append, List.cons_append, List.getD_cons_zero, List.getD_cons_succ, Nat.reduceBEq] at el
  refine rounds el 1000 (fun k tm1 n h => tm1.length = 45 ∧ getC tm1 2 = (.ptr 0 0, false) ∧ getC tm1 3 = (.ptr 1 0, false) ∧ getC tm1 32 = (.int .i64 k, false) ∧ 2 ≤ n ∧ hget h 0 = some (cellsX x) ∧ hget h 1 = some (cellsX y) ∧ difGo x y (1000 - k) k = difGo x y 1000 0)
    (fun r => ∃ tm' n' hp', r = some (if difGo x y 1000 0 = none then .exit 2 else .ret, ⟨tm', n', hp'⟩) ∧ tm'.length = 45 ∧ ∀ k, difGo x y 1000 0 = some k → getC tm' 4 = (.int .i64 k, false) ∧ getC tm' 5 = (.bool true, false) ∧ getC tm' 6 = (.int .i64 0, false)) ?_ ?_ 0 tm nx hp (by omega) ⟨ht, h2, h3, h32, hn, hx, hy, rfl⟩
  · rintro tm1 n h r ⟨ht, h2, h3, h32, hn, hx, hy, hf⟩ hX
    rw [show 1000 - 1000 = 0 from rfl, difGo] at hf
    simp [ht, h32] at hX
    subst hX
    exact ⟨_, _, rfl, by simp, _, _, _, by rw [if_pos hf.symm], by simp [ht], fun k hk => by rw [← hf] at hk; cases hk⟩
  · rintro k tm1 n h r hk ⟨ht, h2, h3, h32, hn, hx, hy, hf⟩ hX
    have w1 : ¬ n = 1 := by omega
    have w2 : ¬ 1 = n := by omega
    have w3 : ¬ n = 0 := by omega
    have w4 : ¬ 0 = n := by omega
    have hk1 : (k : Int) < 1000 := by omega
    have hw2 : IntKind.i64.wrap ((k : Int) + 1) = (k : Int) + 1 := wrap_small (by omega) (by omega)
    have hcl := cloD n (n + 1) k ((n, .cells [(.int .i64 k, false)]) :: h) (by omega) (by simp)
    have hox := fun ro => of_R _ _ _ (n + 1) _ hcl _ x 1 (Nat.lt_succ_self _) hex ro (n + 1) _ (Nat.le_refl _) (fun _ _ => rfl)
    have hoy := fun ro => of_R _ _ _ (n + 1) _ hcl _ y 1 (Nat.lt_succ_self _) hey ro (n + 1) _ (Nat.le_refl _) (fun _ _ => rfl)
    rw [encX_eq] at hox hoy
    rw [show 1000 - k = (1000 - (k + 1)) + 1 by omega, difGo] at hf
    unfold cellsX at hx hy
    by_cases c : valX (fun _ => (k : Int)) x = valX (fun _ => (k : Int)) y
    · left
      rw [if_neg (by simpa using c)] at hf
      rw [c] at hox
      simp [List.lookup, stayB, ht, h2, h3, h32, hk1, hw2, hx, hy, w1, w2, w3, w4, hox, hoy] at hX
      subst hX
      exact ⟨_, _, _, rfl, by simp [ht], by simp [h2], by simp [h3], by simp [ht], by omega, by simp [w3, w4, hx, cellsX], by simp [w1, w2, hy, cellsX], hf⟩
    · right
      rw [if_pos c] at hf
      simp [List.lookup, stayB, ht, h2, h3, h32, hk1, hw2, hx, hy, w1, w2, w3, w4, hox, hoy, c] at hX
      subst hX
      exact ⟨_, _, rfl, by simp, _, _, _, by rw [← hf, if_neg (by simp)], by simp [ht], fun j hj => by rw [← hf] at hj; cases hj; exact ⟨by simp [ht], by simp [ht], by simp [ht]⟩⟩
def diffF (x y : Ex) : AVal := if bothF x y ≠ 0 then .tup [.int .i64 0, .bool false, .int .i64 (bothF x y)] else if 1 < (namesD x y).length then .tup [.int .i64 0, .bool false, .int .i64 2] else resD (difGo x y 1000 0)
theorem vDiffer_R (x y : Ex) (ro nx : Nat) (hp : Heap) : R K 40 [encX x, encX y] ro nx hp = some ⟨diffF x y, false, nx, hp⟩ := by
  have hloop := fun tm nx hp => check_loop x y tm nx hp
  unfold diffF
  rw [R_val' K ro 40 _ nx hp [] Tryz.func40 rfl Tryz.ntmps40 Tryz.results40 (mu := []) rfl (by kernel_rfl) rfl rfl]; simp only [slim, slimO, annO, List.map, List.zip, List.zipWith, List.lookup, holed, Nat.reduceBEq]
  simp [List.replicate, encX_eq, encXs_len]
  generalize hg : X K _ (.loop _) _ = r
  obtain ⟨tm', n', hp', rfl, g1, g5, g6⟩ : ∃ tm' n' hp', r = some (if bothF x y = 0 then .exit 0 else .ret, ⟨tm', n', hp'⟩) ∧ tm'.length = 45 ∧ (bothF x y = 0 → getC tm' 2 = (.ptr 0 0, false) ∧ getC tm' 3 = (.ptr 1 0, false) ∧ 2 ≤ n' ∧ hget hp' 0 = some (cellsX x) ∧ hget hp' 1 = some (cellsX y)) ∧ (bothF x y ≠ 0 → getC tm' 4 = (.int .i64 0, false) ∧ getC tm' 5 = (.bool false, false) ∧ getC tm' 6 = (.int .i64 (bothF x y), false)) := by
    rw [← hg]
    refine hloop _ _ _ ?_ ?_ ?_ ?_ ?_ ?_ ?_ ?_ ?_
    all_goals simp [cellsX, encX_eq]
  clear hg hloop
  by_cases c1 : bothF x y = 0
  · obtain ⟨q1, q2, q3, q4, q5⟩ := g5 c1
    obtain ⟨e1, e2⟩ := both_zero c1
    have hv := fun ro nx hp => vars_R [x, y] (by simp) (fun z hz => by simp at hz; rcases hz with rfl | rfl <;> assumption) ro nx hp
    simp only [encXs, encX_eq] at hv
    have hlenD : ((namesXs [x, y] []).mergeSort leS).length = (namesD x y).length := rfl
    have q4' := q4
    have q5' := q5
    unfold cellsX at q4' q5'
    by_cases c2 : 1 < (namesD x y).length
    · have c2' : (1 : Int) < (namesD x y).length := by omega
      simp only [namesD, List.length_mergeSort] at c2 c2'
      simp [c1, g1, q1, q2, q4', q5', hv, c2, c2', namesD]
    · have c2' : ¬ (1 : Int) < (namesD x y).length := by omega
      simp only [namesD, List.length_mergeSort] at c2 c2'
      simp [c1, g1, q1, q2, q4', q5', hv, c2, c2', namesD]
      generalize hg : X K _ (.loop _) _ = r
      obtain ⟨tm2, n2, hp2, rfl, k1, k2⟩ : ∃ tm2 n2 hp2, r = some (if difGo x y 1000 0 = none then .exit 2 else .ret, ⟨tm2, n2, hp2⟩) ∧ tm2.length = 45 ∧ ∀ k, difGo x y 1000 0 = some k → getC tm2 4 = (.int .i64 k, false) ∧ getC tm2 5 = (.bool true, false) ∧ getC tm2 6 = (.int .i64 0, false) := by
        rw [← hg]
        exact dif_loop x y e1 e2 _ n' hp' q3 (by simp [g1]) (by simp [q1]) (by simp [q2]) (by simp [g1]) q4 q5
      clear hg
      cases hd : difGo x y 1000 0 with
      | none => simp [hd, k1, resD]
      | some k =>
        obtain ⟨p1, p2, p3⟩ := k2 k hd
        simp [hd, k1, p1, p2, p3, resD]
  · obtain ⟨q1, q2, q3⟩ := g6 c1
    simp [c1, g1, q1, q2, q3]
end Go.Proofs.YtleimfinniclgaaGreatDoor.M
/- DifferAt: all values are tried, by a map. -/
namespace Go.Proofs.YtleimfinniclgaaGreatDoor.M
open Go.Proofs Go.Proofs.YtleimfinniclgaaGreatDoor.X
set_option linter.unusedSimpArgs false
set_option linter.unusedVariables false
set_option maxRecDepth 100000
set_option pp.deepTerms false
set_option pp.deepTerms.threshold 6
set_option maxHeartbeats 4000000
def slD (l : List BL) (n : Int) : List Sl := l.map fun k => ⟨⟨k.toArray⟩, n⟩
theorem lookD {l : List BL} (hl : l.length ≤ 1) {k : BL} (hk : k ∈ l) (n : Int) : lookV (slD l n) ⟨k.toArray⟩ = n := by
  match l, hl, hk with
  | [j], _, hk =>
    simp at hk
    subst hk
    simp [slD, lookV]
theorem diffAt_inner (l : List BL) (hl : l.length ≤ 1) (v : Int) (m : Nat) (tm : List Cell) (nx : Nat) (hp : Heap) (c2 c3 c7 c19 : Cell) (ht : tm.length = 42) (h2 : getC tm 2 = c2) (h3 : getC tm 3 = c3) (h7 : getC tm 7 = c7) (h19 : getC tm 19 = c19) (h8 : getC tm 8 = (.int .i64 v, false)) (h9 : getC tm 9 = (.map m, false)) (h23 : getC tm 23 = (.lst (l.map encSA), false)) (h24 : getC tm 24 = (.int .i64 l.length, false)) (h25 : getC tm 25 = (.int .i64 0, false)) (hm : hget hp m = some (.map [])) :
    ∃ tm' hp', X K ⟨0, []⟩ (.loop (LB Tryz.prog 44 [] 1)) ⟨tm, nx, hp⟩ = some (.exit 2, ⟨tm', nx, hp'⟩) ∧ tm'.length = 42 ∧ getC tm' 2 = c2 ∧ getC tm' 3 = c3 ∧ getC tm' 7 = c7 ∧ getC tm' 19 = c19 ∧ getC tm' 8 = (.int .i64 v, false) ∧ getC tm' 9 = (.map m, false) ∧ hget hp' m = some (.map (mapSl (slD l v))) ∧ ∀ id, id ≠ m → hget hp' id = hget hp id := by
  have el := LB_open (P := Tryz.prog) [] 1 Tryz.func44 rfl rfl (by kernel_rfl)
  simp only [slim, slimO, annO, List.map, List.zip, List.zipWith, List.lookup, holed, loopsOf, List.nil_append, List.cons_append, List.getD_cons_zero, List.getD_cons_succ, Nat.reduceBEq] at el
  refine rounds el l.length (fun k tm1 n h => tm1.length = 42 ∧ getC tm1 2 = c2 ∧ getC tm1 3 = c3 ∧ getC tm1 7 = c7 ∧ getC tm1 19 = c19 ∧ getC tm1 8 = (.int .i64 v, false) ∧ getC tm1 9 = (.map m, false) ∧ getC tm1 23 = (.lst (l.map encSA), false) ∧ getC tm1 24 = (.int .i64 l.length, false) ∧ getC tm1 25 = (.int .i64 k, false) ∧ n = nx ∧ hget h m = some (.map (mapSl (slD (l.take k) v))) ∧ ∀ id, id ≠ m → hget h id = hget hp id)
    (fun r => ∃ tm' hp', r = some (.exit 2, ⟨tm', nx, hp'⟩) ∧ tm'.length = 42 ∧ getC tm' 2 = c2 ∧ getC tm' 3 = c3 ∧ getC tm' 7 = c7 ∧ getC tm' 19 = c19 ∧ getC tm' 8 = (.int .i64 v, false) ∧ getC tm' 9 = (.map m, false) ∧ hget hp' m = some (.map (mapSl (slD l v))) ∧ ∀ id, id ≠ m → hget hp' id = hget hp id) ?_ ?_ 0 tm nx hp (by omega) ⟨ht, h2, h3, h7, h19, h8, h9, h23, h24, h25, rfl, by rw [hm]; rfl, fun _ _ => rfl⟩
  · rintro tm1 n h r ⟨ht, h2, h3, h7, h19, h8, h9, h23, h24, h25, rfl, hm, ho⟩ hX
    rw [List.take_length] at hm
    simp [ht, h24, h25] at hX
    subst hX
    exact ⟨_, _, rfl, by simp, _, _, rfl, by simp [ht], by simp [h2], by simp [h3], by simp [h7], by simp [h19], by simp [h8], by simp [h9], hm, ho⟩
  · rintro k tm1 n h r hk ⟨ht, h2, h3, h7, h19, h8, h9, h23, h24, h25, rfl, hm, ho⟩ hX
    left
    obtain rfl : k = 0 := by omega
    obtain ⟨j, rfl⟩ : ∃ j, l = [j] := by
      match l, hl, hk with
      | [j], _, _ => exact ⟨j, rfl⟩
    have v1 : IntKind.i64.wrap 1 = 1 := by decide
    have ham := fun hp (hh : hget hp m = some (.map (mapSl []))) => amapset_V (lo := 0) hh ⟨⟨j.toArray⟩, v⟩ rfl (Nat.zero_le _)
    have hm' : hget h m = some (.map (mapSl [])) := hm
    simp only [List.nil_append] at ham
    simp [ht, h8, h9, h23, h24, h25, encSA, hm', ham, v1] at hX
    subst hX
    refine ⟨_, _, _, rfl, by simp [ht], by simp [h2], by simp [h3], by simp [h7], by simp [h19], by simp [h8], by simp [h9], by simp [h23, encSA], by simp [h24], by simp [ht], rfl, ?_, fun id hid => ?_⟩
    · simp [hm', slD]
    · simp [hid, ho id hid]
theorem diffAt_loop (x y : Ex) (l : List BL) (hl : l.length ≤ 1) (hlx : ∀ k ∈ nmL (partsX x), k ∈ l) (hly : ∀ k ∈ nmL (partsX y), k ∈ l) (hex : exF x 1 = 0) (hey : exF y 1 = 0) (tm : List Cell) (nx : Nat) (hp : Heap) (hn : 2 ≤ nx) (ht : tm.length = 42) (h2 : getC tm 2 = (.ptr 0 0, false)) (h3 : getC tm 3 = (.ptr 1 0, false)) (h7 : getC tm 7 = (.lst (l.map encSA), false)) (h19 : getC tm 19 = (.int .i64 0, false)) (hx : hget hp 0 = some (cellsX x)) (hy : hget hp 1 = some (cellsX y)) :
    ∃ tm' n' hp', X K ⟨0, []⟩ (.loop (LB Tryz.prog 44 [] 0)) ⟨tm, nx, hp⟩ = some (if difGo x y 1000 0 = none then .exit 0 else .ret, ⟨tm', n', hp'⟩) ∧ tm'.length = 42 ∧ ∀ k, difGo x y 1000 0 = some k → getC tm' 4 = (.int .i64 k, false) ∧ getC tm' 5 = (.bool true, false) ∧ getC tm' 6 = (.int .i64 0, false) := by
  have el := LB_open (P := Tryz.prog) [] 0 Tryz.func44 rfl rfl (by kernel_rfl)
  simp only [slim, slimO, annO, List.map, List.zip, List.zipWith, List.lookup, holed, loopsOf, List.nil_append, List.cons_append, List.getD_cons_zero, List.getD_cons_succ, Nat.reduceBEq] at el
  refine rounds el 1000 (fun k tm1 n h => tm1.length = 42 ∧ getC tm1 2 = (.ptr 0 0, false) ∧ getC tm1 3 = (.ptr 1 0, false) ∧ getC tm1 7 = (.lst (l.map encSA), false) ∧ getC tm1 19 = (.int .i64 k, false) ∧ 2 ≤ n ∧ hget h 0 = some (cellsX x) ∧ hget h 1 = some (cellsX y) ∧ difGo x y (1000 - k) k = difGo x y 1000 0)
    (fun r => ∃ tm' n' hp', r = some (if difGo x y 1000 0 = none then .exit 0 else .ret, ⟨tm', n', hp'⟩) ∧ tm'.length = 42 ∧ ∀ k, difGo x y 1000 0 = some k → getC tm' 4 = (.int .i64 k, false) ∧ getC tm' 5 = (.bool true, false) ∧ getC tm' 6 = (.int .i64 0, false)) ?_ ?_ 0 tm nx hp (by omega) ⟨ht, h2, h3, h7, h19, hn, hx, hy, rfl⟩
  · rintro tm1 n h r ⟨ht, h2, h3, h7, h19, hn, hx, hy, hf⟩ hX
    rw [show 1000 - 1000 = 0 from rfl, difGo] at hf
    simp [ht, h19] at hX
    subst hX
    exact ⟨_, _, rfl, by simp, _, _, _, by rw [if_pos hf.symm], by simp [ht], fun k hk => by rw [← hf] at hk; cases hk⟩
  · rintro k tm1 n h r hk ⟨ht, h2, h3, h7, h19, hn, hx, hy, hf⟩ hX
    have hk1 : (k : Int) < 1000 := by omega
    have hw2 : IntKind.i64.wrap ((k : Int) + 1) = (k : Int) + 1 := wrap_small (by omega) (by omega)
    have w1 : ¬ n = 1 := by omega
    have w2 : ¬ 1 = n := by omega
    have w3 : ¬ n = 0 := by omega
    have w4 : ¬ 0 = n := by omega
    simp [ht, h7, h19, hk1] at hX
    generalize hg : X K _ (.loop _) _ = r2 at hX
    obtain ⟨tm', hp', rfl, g1, g2, g3, g4, g5, g6, g7, g8, g9⟩ : ∃ tm' hp', r2 = some (.exit 2, ⟨tm', n + 1, hp'⟩) ∧ tm'.length = 42 ∧ getC tm' 2 = (.ptr 0 0, false) ∧ getC tm' 3 = (.ptr 1 0, false) ∧ getC tm' 7 = (.lst (l.map encSA), false) ∧ getC tm' 19 = (.int .i64 k, false) ∧ getC tm' 8 = (.int .i64 k, false) ∧ getC tm' 9 = (.map n, false) ∧ hget hp' n = some (.map (mapSl (slD l k))) ∧ ∀ id, id ≠ n → hget hp' id = hget ((n, .map []) :: h) id := by
      rw [← hg]
      exact diffAt_inner l hl k n _ (n + 1) _ _ _ _ _ (by simp [ht]) (by simp [h2]) (by simp [h3]) (by simp [h7]) (by simp [h19]) (by simp [ht]) (by simp [ht]) (by simp [ht]) (by simp [ht]) (by simp [ht]) (by simp)
    clear hg
    have g0 := g9 0 (by omega)
    have g01 := g9 1 (by omega)
    simp [w1, w2, w3, w4, hx, hy] at g0 g01
    have hcx : valX (lookV (slD l k)) x = valX (fun _ => (k : Int)) x := valX_congr _ x (Nat.lt_succ_self _) fun j hj => lookD hl (hlx j hj) k
    have hcy : valX (lookV (slD l k)) y = valX (fun _ => (k : Int)) y := valX_congr _ y (Nat.lt_succ_self _) fun j hj => lookD hl (hly j hj) k
    have hox := fun ro => valueOf_R (slD l k) n (lookV (slD l k)) (n + 1) hp' (Nat.lt_succ_self _) g8 rfl _ x 1 (Nat.lt_succ_self _) hex ro (n + 1) hp' (Nat.le_refl _) (fun _ _ => rfl)
    have hoy := fun ro => valueOf_R (slD l k) n (lookV (slD l k)) (n + 1) hp' (Nat.lt_succ_self _) g8 rfl _ y 1 (Nat.lt_succ_self _) hey ro (n + 1) hp' (Nat.le_refl _) (fun _ _ => rfl)
    rw [hcx] at hox
    rw [hcy] at hoy
    rw [encX_eq] at hox hoy
    rw [show 1000 - k = (1000 - (k + 1)) + 1 by omega, difGo] at hf
    unfold cellsX at g0 g01
    by_cases c : valX (fun _ => (k : Int)) x = valX (fun _ => (k : Int)) y
    · left
      rw [if_neg (by simpa using c)] at hf
      rw [c] at hox
      simp [List.lookup, stayB, g1, g2, g3, g4, g5, g6, g7, hw2, g0, g01, hox, hoy] at hX
      subst hX
      exact ⟨_, _, _, rfl, by simp [g1], by simp [g2], by simp [g3], by simp [g4], by simp [g1], by omega, by simp [g0, cellsX], by simp [g01, cellsX], hf⟩
    · right
      rw [if_pos c] at hf
      simp [List.lookup, stayB, g1, g2, g3, g4, g5, g6, g7, hw2, g0, g01, hox, hoy, c] at hX
      subst hX
      exact ⟨_, _, rfl, by simp, _, _, _, by rw [← hf, if_neg (by simp)], by simp [g1], fun j hj => by rw [← hf] at hj; cases hj; exact ⟨by simp [g1], by simp [g1], by simp [g1]⟩⟩
theorem diffAt_R (x y : Ex) (e1 : exF x 1 = 0) (e2 : exF y 1 = 0) (ro nx : Nat) (hp : Heap) : R K 44 [encX x, encX y] ro nx hp = some ⟨(if 1 < (namesD x y).length then .tup [.int .i64 0, .bool false, .int .i64 2] else resD (difGo x y 1000 0)), false, nx, hp⟩ := by
  have hv := fun ro nx hp => varsIn_R [x, y] (by simp) (fun z hz => by simp at hz; rcases hz with rfl | rfl <;> assumption) ro nx hp
  have hsp := namesXs_spec [x, y] []
  have hnl := names_law (xs := [x, y]) (l := namesXs [x, y] []) (hsp.1 List.nodup_nil) fun k => by rw [hsp.2.2]; simp
  rw [hnl] at hv
  simp only [encXs, encX_eq] at hv
  have hmem : ∀ k, k ∈ nmL (partsX x) ∨ k ∈ nmL (partsX y) → k ∈ namesD x y := by
    intro k hk
    unfold namesD
    rw [List.mem_mergeSort, hsp.2.2]
    right
    simp only [partsXs, List.append_nil, nmL_app, List.mem_append]
    exact hk
  have hD : (namesXs [x, y] []).mergeSort leS = namesD x y := rfl
  rw [hD] at hv
  generalize namesD x y = l at hv hmem
  rw [R_val' K ro 44 _ nx hp [] Tryz.func44 rfl Tryz.ntmps44 Tryz.results44 (mu := []) rfl (by kernel_rfl) rfl rfl]; simp only [slim, slimO, annO, List.map, List.zip, List.zipWith, List.lookup, holed, Nat.reduceBEq]
  by_cases c2 : 1 < l.length
  · have c2' : (1 : Int) < l.length := by omega
    simp [List.replicate, encX_eq, encXs_len, hv, c2, c2']
  · have c2' : ¬ (1 : Int) < l.length := by omega
    simp [List.replicate, encX_eq, encXs_len, hv, c2, c2']
    generalize hg : X K _ (.loop _) _ = r
    obtain ⟨tm2, n2, hp2, rfl, k1, k2⟩ : ∃ tm2 n2 hp2, r = some (if difGo x y 1000 0 = none then .exit 0 else .ret, ⟨tm2, n2, hp2⟩) ∧ tm2.length = 42 ∧ ∀ k, difGo x y 1000 0 = some k → getC tm2 4 = (.int .i64 k, false) ∧ getC tm2 5 = (.bool true, false) ∧ getC tm2 6 = (.int .i64 0, false) := by
      rw [← hg]
      exact diffAt_loop x y l (by omega) (fun k hk => hmem k (.inl hk)) (fun k hk => hmem k (.inr hk)) e1 e2 _ _ _ (by omega) (by simp) (by simp) (by simp) (by simp) (by simp) (by simp [cellsX]) (by simp [cellsX])
    clear hg
    cases hd : difGo x y 1000 0 with
    | none => simp [hd, k1, resD]
    | some k =>
      obtain ⟨p1, p2, p3⟩ := k2 k hd
      simp [hd, k1, p1, p2, p3, resD]
end Go.Proofs.YtleimfinniclgaaGreatDoor.M
/- The law ExprsSimple, run by the machine. -/
namespace Go.Proofs.YtleimfinniclgaaGreatDoor.M
open Go.Proofs Go.Proofs.YtleimfinniclgaaGreatDoor.X
set_option linter.unusedSimpArgs false
set_option linter.unusedVariables false
set_option maxRecDepth 100000
set_option pp.deepTerms false
set_option pp.deepTerms.threshold 6
set_option maxHeartbeats 4000000
theorem orBoth (a b : Int) : orF [a, b] = if a ≠ 0 then a else b := by
  by_cases h : a = 0
  · by_cases h2 : b = 0 <;> simp [orF, h, h2]
  · simp [orF, h]
theorem or2_R (a b : Int) (ro nx : Nat) (hp : Heap) : R K 16 [.lst [.int .i64 a, .int .i64 b]] ro nx hp = some ⟨.int .i64 (if a ≠ 0 then a else b), false, nx, hp⟩ := by
  have := or_R [a, b] (by simp) ro nx hp
  rw [orBoth] at this
  exact this
theorem law_R (l : List Int) (hl : l.length < 4611686018427387904) (ro nx : Nat) (hp : Heap) : R K 5 [.lst (ints' l)] ro nx hp = some ⟨.bool true, false, nx, hp⟩ := by
  have hB : Base 1 [(0, strm l 0)] := by constructor <;> simp [hlow, hclean, strm]
  obtain ⟨x, a1, hx, ha1, ha1'⟩ := anExpr_R l 0 0 0 1 [(0, strm l 0)] (by omega) (by omega) hl (by simp) (by omega) hB
  have hx' : hset [(0, strm l 0)] 0 (strm l a1) = [(0, strm l a1)] := by simp [hset]
  rw [hx'] at hx
  have hB1 : Base 1 [(0, strm l a1)] := by constructor <;> simp [hlow, hclean, strm]
  obtain ⟨y, a2, hy, ha2, ha2'⟩ := anExpr_R l a1 0 0 1 [(0, strm l a1)] (by omega) (by omega) hl (by simp) (by omega) hB1
  have hy' : hset [(0, strm l a1)] 0 (strm l a2) = [(0, strm l a2)] := by simp [hset]
  rw [hy'] at hy
  have hS := some_R l a2 [⟨#[120]⟩, ⟨#[120]⟩, ⟨#[121]⟩, ⟨#[122]⟩, ⟨#[65]⟩, ByteArray.empty] 0 0 1 [(0, strm l a2)] ⟨by omega, by omega⟩ (by simp) hl (by simp) (by omega)
  have hS' : hset [(0, strm l a2)] 0 (strm l (a2 + 1)) = [(0, strm l (a2 + 1))] := by simp [hset]
  rw [hS'] at hS
  simp only [strs, List.map_cons, List.map_nil] at hS
  generalize someF l a2 _ = nm at hS
  have hF := flip_R l (a2 + 1) 3 0 0 3 [(2, .cells [(.int .i64 y.op, false), (.int .i64 y.n, false), (.str y.name, false), (.lst (encXs y.args), false)]), (1, .cells [(.int .i64 x.op, false), (.int .i64 x.n, false), (.str x.name, false), (.lst (encXs x.args), false)]), (0, strm l (a2 + 1))] ⟨by omega, by omega⟩ (by omega) hl (by simp) (by omega)
  simp only [hset] at hF
  have he0 : (⟨#[]⟩ : ByteArray) = ByteArray.empty := rfl
  have hst : ABlk.cells [(.lst (ints' l), false), (.int .i64 0, false)] = strm l 0 := rfl
  have hor := or2_R
  have hva := valued_R
  have hnf := fun ro nx hp => nameFault_R nm ro nx hp
  have hok := fun (z : Ex) (h : exF z 1 = 0) => ok_sh (exF_okX _ z 1 (Nat.lt_succ_self _) h)
  have hzz : ∀ ro nx hp, R K 35 [.agg [.int .i64 0, .int .i64 0, .str ByteArray.empty, .lst []], .agg [.int .i64 0, .int .i64 0, .str ByteArray.empty, .lst []]] ro nx hp = some ⟨.bool true, false, nx, hp⟩ := by
    intro ro nx hp
    have := sameRef_R (x := zeroX) (by simp [zeroX, shX, shXs]) zeroX ro nx hp
    rw [same_refl', encX_eq] at this
    simpa [encXs] using this
  rw [encX_eq] at hx hy
  obtain ⟨z, hz⟩ : ∃ z, z = if nextF l (a2 + 1) 3 = 0 then x else y := ⟨_, rfl⟩
  have hefx := exprFaultQ_R x
  have hefz := exprFaultQ_R z
  have hsi := vSimple_R x
  have hpu := vPut_R nm z x
  have hdi := vDiffer_R x z
  have hda := diffAt_R x z
  rw [encX_eq x] at hefx hsi hpu hdi hda
  rw [encX_eq z] at hefz hpu hdi hda
  by_cases c1 : exF x 1 = 0
  · have hsx := fun ro nx hp => simplest_R _ x (Nat.lt_succ_self _) (exF_okX _ x 1 (Nat.lt_succ_self _) c1) ro nx hp
    have hshs := ok_sh (simpX_ok _ x (Nat.lt_succ_self _) (exF_okX _ x 1 (Nat.lt_succ_self _) c1))
    rw [encX_eq x] at hsx
    simp only [simpleF, c1, ne_eq, not_true_eq_false, if_false] at hsi
    generalize simpX x = sx at hsi hsx hshs
    have hss := fun ro nx hp => sameRef_R hshs sx ro nx hp
    rw [encX_eq sx] at hsi hsx hss
    simp only [same_refl'] at hss
    by_cases c2 : exF z 1 = 0
    · have hda' := hda c1 c2
      have hpi := fun ro nx hp => putIn_R nm z x (hok x c1) ro nx hp
      have hb : bothF x z = 0 := by unfold bothF; rw [if_neg (by simpa using c1)]; exact c2
      rw [encX_eq x, encX_eq z] at hpi
      simp only [putF, hb, ne_eq, not_true_eq_false, if_false] at hpu
      simp only [diffF, hb, ne_eq, not_true_eq_false, if_false] at hdi
      have hdd : ∃ (i : Int) (t : Bool) (f : Int), (if 1 < (namesD x z).length then AVal.tup [.int .i64 0, .bool false, .int .i64 2] else resD (difGo x z 1000 0)) = .tup [.int .i64 i, .bool t, .int .i64 f] := by
        split
        · exact ⟨_, _, _, rfl⟩
        · unfold resD; split <;> exact ⟨_, _, _, rfl⟩
      obtain ⟨di, dt, df, hdd⟩ := hdd
      rw [hdd] at hdi hda'
      cases c3 : nameB nm
      · simp only [c3, if_true] at hpu hnf
        rw [R_val' K ro 5 _ nx hp [] Tryz.func5 rfl Tryz.ntmps5 Tryz.results5 (mu := []) rfl (by kernel_rfl) rfl rfl]; simp only [slim, slimO, annO, List.map, List.zip, List.zipWith, List.lookup, holed, Nat.reduceBEq]
        by_cases c5 : nextF l (a2 + 1) 3 = 0
        all_goals
          simp only [c5, if_true, if_false] at hz
          subst hz
          simp (maxSteps := 2000000) [List.replicate, List.lookup, stayB, hst, hx, hy, hS, hF, c5, he0, hefx, hefz, hsi, hpu, hdi, hda', hor, hnf, hsx, hss, hzz, c1, c2, hva, encX_eq, encXs]
      · simp only [c3, Bool.true_eq_false, if_false] at hpu hnf
        have hsp := putX_sh nm z (hok z c2) _ x (Nat.lt_succ_self _) (hok x c1)
        by_cases c4 : exF (putX nm z x) 1 = 0
        · simp only [putInF, c4, ne_eq, not_true_eq_false, if_false] at hpu hpi
          generalize putX nm z x = px at hpu hpi hsp
          have hpp := fun ro nx hp => sameRef_R hsp px ro nx hp
          simp only [same_refl'] at hpp
          rw [encX_eq px] at hpu hpi hpp
          rw [R_val' K ro 5 _ nx hp [] Tryz.func5 rfl Tryz.ntmps5 Tryz.results5 (mu := []) rfl (by kernel_rfl) rfl rfl]; simp only [slim, slimO, annO, List.map, List.zip, List.zipWith, List.lookup, holed, Nat.reduceBEq]
          by_cases c5 : nextF l (a2 + 1) 3 = 0
          all_goals
            simp only [c5, if_true, if_false] at hz
            subst hz
            simp (maxSteps := 2000000) [List.replicate, List.lookup, stayB, hst, hx, hy, hS, hF, c5, he0, hefx, hefz, hsi, hpu, hpi, hpp, hdi, hda', hor, hnf, hsx, hss, hzz, c1, c2, hva]
        · have c4' : exF (putX nm z x) 1 ≠ 0 := c4
          simp only [putInF, if_pos c4'] at hpu hpi
          generalize exF (putX nm z x) 1 = pf at hpu hpi c4'
          rw [R_val' K ro 5 _ nx hp [] Tryz.func5 rfl Tryz.ntmps5 Tryz.results5 (mu := []) rfl (by kernel_rfl) rfl rfl]; simp only [slim, slimO, annO, List.map, List.zip, List.zipWith, List.lookup, holed, Nat.reduceBEq]
          by_cases c5 : nextF l (a2 + 1) 3 = 0
          all_goals
            simp only [c5, if_true, if_false] at hz
            subst hz
            simp (maxSteps := 2000000) [List.replicate, List.lookup, stayB, hst, hx, hy, hS, hF, c5, he0, hefx, hefz, hsi, hpu, hpi, hdi, hda', hor, hnf, hsx, hss, hzz, c1, c2, c4', hva, encX_eq, encXs]
    · have c2' : exF z 1 ≠ 0 := c2
      have hb : bothF x z = exF z 1 := by unfold bothF; rw [if_neg (by simpa using c1)]
      simp only [putF, hb, if_pos c2'] at hpu
      simp only [diffF, hb, if_pos c2'] at hdi
      rw [R_val' K ro 5 _ nx hp [] Tryz.func5 rfl Tryz.ntmps5 Tryz.results5 (mu := []) rfl (by kernel_rfl) rfl rfl]; simp only [slim, slimO, annO, List.map, List.zip, List.zipWith, List.lookup, holed, Nat.reduceBEq]
      by_cases c5 : nextF l (a2 + 1) 3 = 0
      all_goals
        simp only [c5, if_true, if_false] at hz
        subst hz
        try exact absurd c1 c2
        all_goals cases c3 : nameB nm
        all_goals
          simp (maxSteps := 2000000) [List.replicate, List.lookup, stayB, hst, hx, hy, hS, hF, c5, he0, hefx, hefz, hsi, hpu, hdi, hor, hnf, hsx, hss, hzz, c1, c2, c3, hva, encX_eq, encXs]
  · have c1' : exF x 1 ≠ 0 := c1
    have hb : bothF x z = exF x 1 := by unfold bothF; rw [if_pos c1']
    simp only [simpleF, if_pos c1'] at hsi
    simp only [putF, hb, if_pos c1'] at hpu
    simp only [diffF, hb, if_pos c1'] at hdi
    rw [R_val' K ro 5 _ nx hp [] Tryz.func5 rfl Tryz.ntmps5 Tryz.results5 (mu := []) rfl (by kernel_rfl) rfl rfl]; simp only [slim, slimO, annO, List.map, List.zip, List.zipWith, List.lookup, holed, Nat.reduceBEq]
    by_cases c5 : nextF l (a2 + 1) 3 = 0
    all_goals
      simp only [c5, if_true, if_false] at hz
      subst hz
      cases c3 : nameB nm
      all_goals
        simp [List.replicate, List.lookup, stayB, hst, hx, hy, hS, hF, c5, he0, hefx, hefz, hsi, hpu, hdi, hor, hnf, hzz, c1, c3, hva, encX_eq, encXs]
end Go.Proofs.YtleimfinniclgaaGreatDoor.M
/- The law holds. -/
namespace Go.Proofs.YtleimfinniclgaaGreatDoor.M
open Go.Proofs Go.Proofs.YtleimfinniclgaaGreatDoor.X Go.RowKit
set_option maxRecDepth 100000
theorem names_ok : (Tryz.prog).funcs.all (fun fn => fn.name != "runtime.NumGoroutine") = true := by kernel_rfl
theorem R_ok : GoodCall Tryz.prog (R K) := R_right K ext_good ext_safe fun f fn hf => by
  have := Array.all_eq_true'.1 names_ok fn (Array.mem_of_getElem? hf)
  simpa using this
theorem law_calls {xs : List Int} (hl : xs.length < 4611686018427387904) {W : World} {a : Option Addr} {cap : Nat} (hcap : xs.length ≤ cap) (hc : ∀ (i : Nat) p, xs[i]? = some p → ∃ x, a = some x ∧ W.cell? (x.add i) = some (.int .i64 p)) :
    Calls Tryz.prog 5 #[.slice a xs.length cap] W fun e w' => e = .returned (.bool true) ∧ Below W.heap.size W w' :=
  law_holds K R_ok (f := 5) Tryz.func5 rfl (by decide) (law_R xs hl 0 0 []) hcap hc
end Go.Proofs.YtleimfinniclgaaGreatDoor.M
/- ExprsSimple: Simple, Put and Differ do as the reference says, whatever numbers the inputs are drawn from. No condition beside the card's own. -/
namespace Go.Proofs.YtleimfinniclgaaGreatDoor.exprsSimple
open Go.ChangeShapes Go.WideShapes Go.ChangeAt Go.RowKit Go.Lib

theorem own : ownKnob Tryz.prog.godebug = none := by kernel_rfl
theorem laidOut : laidOutB Tryz.prog = true := by kernel_rfl
/-- A world for the witness: the settled one, the two tables as their initialisers lay them. -/
noncomputable def laidWorld (os : Os) : World :=
  let w0 := World.holding Tryz.prog os ⟨#[], #[], []⟩
  let put (h : Array Obj) (g : Nat) (cs : Array Value) : Array Obj := h.modify g fun
    | .cells _ t frozen => .cells cs t frozen
    | o => o
  let h1 := put w0.heap 1 (Lib.firstTab.map fun z => Value.int .u8 z).toArray
  let h2 := put h1 2 ((List.range 16).flatMap fun i => [Value.int .u8 (Lib.accLo i), Value.int .u8 (Lib.accHi i)]).toArray
  { w0 with heap := h2 }
theorem laid_met (os : Os) (args : Array Value) : laidMet Tryz.prog Rows.exprsSimpleRow.laid ((laidWorld os).forCall (fun _ _ => 0) ⟨#[], args, []⟩).memory :=
  (LaidIn.of_run (l := [("unicode/utf8.acceptRanges", Rows.laid_unicode_utf8_acceptRanges), ("unicode/utf8.first", Rows.laid_unicode_utf8_first)]) [2, 1] 8 (by kernel_rfl) (by kernel_rfl) (by kernel_rfl) (by kernel_rfl)).met
theorem witness_row (os : Os) {H : Type} (enc : TypeId × Value → H) :
    (OpenSpec.ofChange Rows.exprsSimpleSpec).preRow enc Tryz.prog Tryz.f5 Rows.exprsSimpleRow.domain false Rows.exprsSimpleRow.laid ((laidWorld os).forCall (fun _ _ => 0) ⟨#[], #[.slice none 0 0], []⟩).memory #[.slice none 0 0] := by
  have hw : (DataW.whole enc Tryz.prog ((laidWorld os).forCall (fun _ _ => 0) ⟨#[], #[.slice none 0 0], []⟩).memory Tryz.f5.params.toList Rows.exprsSimpleSpec.vars false #[Value.slice none 0 0].toList 8).map (fun x => (x.1, x.2.1)) =
      some ([.nil], []) := by kernel_rfl
  obtain ⟨⟨x1, x2, x3⟩, hx, hx1⟩ := Option.map_eq_some_iff.1 hw
  simp only [Prod.mk.injEq] at hx1
  obtain ⟨rfl, rfl⟩ := hx1
  exact OpenSpec.preRow_of_cond 8 hx (by kernel_rfl) (fun k hk => by cases hk) (by kernel_rfl) (laid_met os _)

/-- The argument's numbers, as the walk's words have them. -/
theorem row_of_trod {H : Type} {enc : TypeId × Value → H} {W : World} {base : Nat} {spare : Nat → Bool} {held : Bool} {a : Option Addr} {len cap : Nat} {d : DataW H} {ps : List MemPlace} {ts : List TypeId} {ds : List (DataW H)} {j : Nat}
    (hsz : (DataW.weightsEach Tryz.prog ts ds).all (· ≤ reachBytes) = true) (ht : ts[j]? = some 22) (hd : ds[j]? = some d) (h : DataW.Trod enc Tryz.prog W base spare held 22 (.slice a len cap) d ps) :
    ∃ xs : List Int, xs.length = len ∧ xs.length ≤ cap ∧ xs.length < 4611686018427387904 ∧ ∀ (i : Nat) p, xs[i]? = some p → ∃ x, a = some x ∧ W.cell? (x.add i) = some (.int .i64 p) := by
  obtain ⟨fuel, hf⟩ := h
  rcases open_ints Tryz.underlying22 Tryz.underlying3 (by kernel_rfl) hf with ⟨hcs, _⟩ | ⟨x, l, c, zs, hcs, _, hl, _, hz, hx, hcell, _⟩
  · simp [Value.cells] at hcs
    obtain ⟨rfl, rfl, rfl⟩ := hcs
    exact ⟨[], rfl, Nat.le_refl _, by decide, fun i p h => by simp at h⟩
  · simp [Value.cells] at hcs
    obtain ⟨rfl, rfl, rfl⟩ := hcs
    obtain ⟨hx, _⟩ := Prod.mk.inj hx
    subst hx
    have z := sized_slice hsz ht hd Tryz.underlying22
    rw [show Tryz.prog.bytesOf 3 = 8 by kernel_rfl] at z
    have hl2 : len ≤ zs.length := by
      rw [hz]
      split
      · exact hl
      · exact Nat.le_refl _
    have hlen : (zs.take len).length = len := by rw [List.length_take]; omega
    have h1 : (lits (H := H) .i64 (zs.take len)).length + (lits (H := H) .i64 (zs.drop len)).length = zs.length := by
      simp [lits]
      omega
    rw [h1] at z
    have hr := reachBytes_lt
    refine ⟨zs.take len, hlen, by omega, by omega, fun i p hi => ⟨x, rfl, ?_⟩⟩
    have hi' : i < len := by rw [← hlen]; exact (List.getElem?_eq_some_iff.1 hi).1
    have hc := hcell i (by omega)
    rw [List.getElem?_take, if_pos hi'] at hi
    rw [List.getD_eq_getElem?_getD, hi] at hc
    simpa using hc

set_option maxRecDepth 100000 in
theorem lifted (os : Os) (started : os.Started) (H : Type) (enc : TypeId × Value → H) (F : Stop.Interp) :
    ReturnsInHanded {} Tryz.checked os 5 .any ((OpenSpec.ofChange Rows.exprsSimpleSpec).preRow enc Tryz.prog Tryz.f5 Rows.exprsSimpleRow.domain false Rows.exprsSimpleRow.laid) (((OpenSpec.ofChange Rows.exprsSimpleSpec).at F).post enc Tryz.prog Tryz.f5 false true false false) := by
  refine returnsInHanded_of_row (C := Tryz.checked) (s := OpenSpec.ofChange Rows.exprsSimpleSpec) own started (by kernel_rfl) Tryz.func5
    (witness_row_atRef (enc := enc) (C := Tryz.checked) false (laidWorld os) #[.slice none 0 0] rfl (by kernel_rfl) (by kernel_rfl) (by kernel_rfl) (witness_row os enc)) ?_
  intro W base args ds gs before hval0 hW _ _ hsz0 _ _ _
  have hsz : (DataW.weightsEach Tryz.prog (Tryz.f5.params.toList ++ Rows.exprsSimpleSpec.plain.varTypes Tryz.prog) (ds ++ gs)).all (· ≤ reachBytes) = true := hsz0
  have hval : ∀ (j : Nat) t v, Tryz.f5.params[j]? = some t → args[j]? = some v → Value.okWide Tryz.prog W .any base t v := hval0
  have hW' := hW
  obtain ⟨p, q, hA0, hV, rfl, hfz, hnd⟩ := hW
  have hA : DataW.TrodAll enc Tryz.prog W 0 (fun _ => true) true Tryz.f5.params.toList args.toList ds p := hA0
  rw [Tryz.params5] at hA hval hsz
  obtain ⟨v0, vs0, d0, ds0, p0, q0, hargs, rfl, rfl, h0, r0⟩ := trodAll_cons hA
  obtain ⟨rfl, rfl, rfl⟩ := trodAll_nil r0
  obtain rfl : args = #[v0] := by cases args; simp_all
  obtain ⟨rfl, rfl⟩ := trodVars_none hV
  obtain ⟨a0, len0, cap0, rfl⟩ := okWide_slice Tryz.underlying22 (hval 0 22 v0 rfl rfl)
  have k0 := h0
  have lt0 : ∀ x ∈ p0, x.block < W.heap.size := by obtain ⟨m, hm⟩ := k0; exact DataW.trod_lt m _ _ _ hm
  obtain ⟨xs, rfl, hc, hl, hr⟩ := row_of_trod hsz (j := 0) rfl rfl h0
  clear hA0 hval0 hsz0 hsz
  refine (M.law_calls hl hc hr).mono fun e W' ⟨he, bel⟩ => ?_
  subst he
  exact ⟨_, rfl, _, _, _, [], _, [], hW', trodAll_mk1 (shut_bool Tryz.underlying4 _), (trodAll_cons_mk (Below.trod laidOut (by kernel_rfl) (of_decide_eq_true (by kernel_rfl)) k0 bel lt0) trodAll_mk0), rfl, bel.frame _, fun h => by cases h⟩

set_option maxHeartbeats 400000000 in
theorem closed : joinedFacts Tryz.pinned.checked.prog 5 Tryz.f5 (OpenSpec.ofChange Rows.exprsSimpleSpec).bare Rows.exprsSimpleRow = true := by
  simp only [joinedFacts, Bool.and_eq_true]
  repeat' apply And.intro
  all_goals as_aux_lemma => kernel_rfl
theorem said : Rows.ExprsSimpleSaid :=
  OpenClaim.holds_of_cond 5 Tryz.f5 rfl rfl rfl rfl rfl rfl rfl ⟨rfl, rfl, rfl, rfl, rfl⟩ rfl rfl rfl rfl rfl (by as_aux_lemma => kernel_rfl) Tryz.func5 closed
    (of_decide_eq_true (by as_aux_lemma => kernel_rfl)) (by unfold Func.isWrapper; first | (rw [if_pos (by decide +kernel)]; kernel_rfl) | (rw [if_neg (by decide +kernel)]; exact ⟨rfl, rfl⟩))
    (fun os started H enc _ F => by rw [OpenClaim.pre_eq_preRow]; exact lifted os started H enc F)

/-- No parameter wants a stand-in; the program's own looks are on: what the card asks. -/
theorem plain (f : FuncId) (fn : Func) (hf : Tryz.pinned.checked.prog.funcNamed "promptbook/pblaw1.ExprsSimple" = some f) (hfn : Tryz.pinned.checked.prog.funcs[f]? = some fn) :
    true = Tryz.pinned.checked.prog.looks [] ∧ ∀ (j : Nat) t, fn.params[j]? = some t → Tryz.pinned.checked.prog.wantsStandIn t = false := by
  obtain rfl : f = 5 := Option.some.inj ((show Tryz.prog.funcNamed "promptbook/pblaw1.ExprsSimple" = some 5 by kernel_rfl).symm.trans hf) |>.symm
  obtain rfl : fn = Tryz.f5 := (Option.some.inj (Tryz.func5.symm.trans hfn)).symm
  refine ⟨by as_aux_lemma => kernel_rfl, fun j t ht => ?_⟩
  rw [Tryz.params5] at ht
  obtain rfl : t = 22 := by simpa using Array.mem_of_getElem? ht
  exact (show Tryz.prog.wantsStandIn 22 = false by kernel_rfl)
end Go.Proofs.YtleimfinniclgaaGreatDoor.exprsSimple
namespace Go.Proofs.YtleimfinniclgaaGreatDoor
/-- The card of ExprsSimple. -/
theorem exprsSimple_card : Rows.ExprsSimpleCardSaid :=
  Claim7.holds_tied_plain_at .later [] _ _ _ _ exprsSimple.said (fun _ h => by cases h) (by as_aux_lemma => kernel_rfl) (fun _ h => by cases h) exprsSimple_row_tie rfl ⟨rfl, rfl⟩ (by as_aux_lemma => kernel_rfl) rfl exprsSimple.plain (by as_aux_lemma => kernel_rfl)
#print axioms exprsSimple_card
end Go.Proofs.YtleimfinniclgaaGreatDoor
