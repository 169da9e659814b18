/- append(s, make([]int, k)...): zeros behind a row of the call's own. -/
import Derived.Test.YtlkklaahnkcnkaaDoorLib
import Derived.Lib.AppendZerosOnto
namespace Go.Proofs.YtlkklaahnkcnkaaDoor.X
open Go.RowKit

theorem zeroInts (k : Nat) : Builtin.zeroCells (Value.int .i64 0).cells k = Array.replicate k (Value.int .i64 0) := by
  apply Array.toList_inj.1
  rw [Array.toList_replicate]
  apply List.ext_getElem?
  intro j
  by_cases hj : j < k
  · simp [Builtin.zeroCells, Value.cells, hj, Nat.mod_one]
  · simp [Builtin.zeroCells, Value.cells, hj]
theorem run_append_zeros (w : World) (base k : Nat) (ty : TypeId) (v : Value) (n : Nat) (xs : List Value) (hown : w.ownsRow base 3 1 v n xs) (hb : (n + k) * 8 ≤ 140737488355328) (hbase : base ≤ w.heap.size) :
    ∃ v' w', (Builtin.append_ #[22, 3] ty #[v, .int .i64 k]).run Tryd.prog w = .ok v' w' ∧ w'.ownsRow base 3 1 v' (n + k) (xs ++ List.replicate k (.int .i64 0)) ∧ w.grownBy w' v.ownBlock := by
  obtain ⟨i0, hi, hzz⟩ := Option.map_eq_some_iff.1 infoInt
  simp only [Prod.mk.injEq] at hzz
  obtain ⟨hz, hs1, hb8⟩ := hzz
  have hw : IntKind.i64.wrap (k : Int) = k := by rw [IntKind.wrap_i64]; omega
  have hneg : ¬ ((k : Int) < 0) := by omega
  have h48i : ¬ (281474976710656 < (k : Int) * (i0.bytes : Int)) := by rw [hb8]; omega
  have hxl := hown.1
  have hlen : (xs ++ List.replicate k (Value.int .i64 0)).length = (n + k) * 1 := by rw [List.length_append, List.length_replicate, hxl]; omega
  rcases hown.2 with ⟨rfl, rfl⟩ | ⟨g, cap, cur, rfl, hbg, hg, hnc, hcm, hcs, htake⟩
  · obtain rfl : xs = [] := List.eq_nil_of_length_eq_zero (by simpa using hxl)
    by_cases hk : k = 0
    · subst hk
      refine ⟨.slice none 0 0, w, ?_, World.ownsRow_nil w base _ 1, ⟨rfl, rfl, rfl, Nat.le_refl _, fun _ _ _ => rfl⟩⟩
      simp [Builtin.append_, run_underlying Tryd.underlying22, run_underlying Tryd.underlying3, sizeOf, typeInfo, hi, asInt, asIntOf, IntKind.wrap_i64]
    · have hr := Lib.run_append_nil_zeros (P := Tryd.prog) w 22 3 ty 3 i0 (.int .i64 0) .i64 .i64 Tryd.underlying22 Tryd.underlying3 hi hz k (by omega) (by omega) (by omega) (by rw [hb8]; omega)
      have hge := grownCap_ge w k 0 3
      have hcm := grownCap_le_maxLen w k 0 3 (by simp only [maxLen]; omega)
      refine ⟨_, _, hr, ⟨by simp, .inr ⟨w.heap.size, _, _, by rw [Nat.zero_add], hbase, heap_alloc_new w.drew _, by omega, hcm, ?_, ?_⟩⟩, ⟨rfl, rfl, rfl, by simp, fun j hj _ => Below.heap_alloc w.drew _ j hj⟩⟩
      · rw [zeroInts, zeroInts]; simp; omega
      · rw [zeroInts, zeroInts]; simp
  · by_cases hroom : n + k ≤ cap
    · have hst := run_storeCells_at Tryd.prog g n 3 (List.replicate k (Value.int .i64 0)) 0 cur w hg (by rw [List.length_replicate]; omega) (by intro u hu; rw [(List.mem_replicate.1 hu).2]; rfl)
      simp only [Nat.add_zero, List.length_replicate] at hst
      refine ⟨.slice (some ⟨g, 0, none⟩) (n + k) cap, w.setRow g (cur.toList.take n ++ List.replicate k (Value.int .i64 0) ++ cur.toList.drop (n + k)).toArray, ?_, ⟨hlen, .inr ⟨g, cap, (cur.toList.take n ++ List.replicate k (Value.int .i64 0) ++ cur.toList.drop (n + k)).toArray, rfl, hbg, setRow_heap w g cur _ _ _ hg, hroom, hcm, ?_, ?_⟩⟩, ⟨rfl, rfl, rfl, by simp, fun j _ hj => setRow_other w g j _ (fun e => hj (by simp [Value.ownBlock, e]))⟩⟩
      · by_cases hk : k = 0
        · subst hk
          simp only [List.replicate_zero, List.append_nil, Nat.add_zero] at hst ⊢
          simp [Builtin.append_, run_underlying Tryd.underlying22, run_underlying Tryd.underlying3, sizeOf, typeInfo, hi, hs1, asInt, asIntOf, IntKind.wrap_i64, hnc, Addr.add_lit]
          simp only [List.take_append_drop, Array.toArray_toList] at hst
          rw [hst]
          rfl
        · simp [Builtin.append_, run_underlying Tryd.underlying22, run_underlying Tryd.underlying3, sizeOf, typeInfo, zeroValue, hi, hz, hs1, asInt, asIntOf, hw, hneg, h48i, hk, hroom, Addr.add_lit, zeroInts]
          simp only [List.append_assoc] at hst
          rw [hst]
          rfl
      · simp only [List.size_toArray, List.length_append, List.length_take, List.length_drop, List.length_replicate, Array.length_toList]
        omega
      · have h2 : cur.toList.take n = xs := by simpa using htake
        rw [h2, ← hlen, List.toList_toArray]
        exact List.take_left
    · have holds : ∀ j u, xs[j]? = some u → w.cell? ((⟨g, 0, none⟩ : Addr).add j) = some u := hown.cells (g := g) rfl
      have hf := run_firstCells_some (P := Tryd.prog) w.drew 1 n ⟨g, 0, none⟩ n cap xs (by simpa using hxl) holds
      have hr := Lib.run_append_grow_zeros (P := Tryd.prog) w 22 3 ty 3 i0 (.int .i64 0) .i64 .i64 Tryd.underlying22 Tryd.underlying3 hi hz (some ⟨g, 0, none⟩) n cap xs (by rw [hs1]; exact hf) k (by omega) (by omega) (by omega) (by omega) (by rw [hb8]; omega) (by rw [hb8]; exact growslice_fits (by omega) hb)
      have hge := grownCap_ge w (n + k) cap 3
      have hcm' := grownCap_le_maxLen w (n + k) cap 3 (by simp only [maxLen]; omega)
      refine ⟨_, _, hr, ⟨hlen, .inr ⟨w.heap.size, _, _, rfl, hbase, heap_alloc_new w.drew _, hge, hcm', ?_, ?_⟩⟩, ⟨rfl, rfl, rfl, by simp, fun j hj _ => Below.heap_alloc w.drew _ j hj⟩⟩
      · rw [zeroInts, zeroInts]; simp; omega
      · rw [zeroInts, zeroInts]
        simp only [Array.toList_append, Array.toList_replicate]
        rw [← hlen]
        exact List.take_left
end Go.Proofs.YtlkklaahnkcnkaaDoor.X
