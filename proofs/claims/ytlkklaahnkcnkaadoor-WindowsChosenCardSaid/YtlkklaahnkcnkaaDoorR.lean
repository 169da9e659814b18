/- Rows are copied. -/
import Derived.Test.YtlkklaahnkcnkaaDoorLib
import Derived.Laws.AppendOwnNone
import Derived.Deep.RegionHeldLaw
namespace Go.Proofs.YtlkklaahnkcnkaaDoor.X
open Go.RowKit

theorem Row.cells {α : Type} {d : Kn α} {w : World} {ok : Nat → Prop} {ad : Addr} {xs : List α} (h : Row d w ok (some ad) xs) : ∀ n, n ≤ xs.length → ∃ cells, Reps (d.V w ok) d.sz (xs.take n) cells ∧ (∀ j u, cells[j]? = some u → w.cell? (ad.add j) = some u) ∧ ∀ u ∈ cells, u.oneCell' = true
  | 0, _ => ⟨[], Reps.none _ _, fun j u h => by simp at h, fun u h => by simp at h⟩
  | n + 1, hn => by
    obtain ⟨cells, h1, h2, h3⟩ := Row.cells h n (by omega)
    obtain ⟨ad', cs, e, -, hv, hc⟩ := h.get (j := n) (by omega)
    obtain rfl : ad = ad' := by simpa using e
    refine ⟨cells ++ cs, ?_, ?_, ?_⟩
    · rw [List.take_succ_eq_append_getElem (by omega)]
      exact h1.snoc hv (d.len hv)
    · intro j u hu
      have hl : cells.length = n * d.sz := by rw [h1.1, List.length_take, Nat.min_eq_left (by omega)]
      rcases Nat.lt_or_ge j cells.length with hj | hj
      · rw [List.getElem?_append_left hj] at hu
        exact h2 j u hu
      · rw [List.getElem?_append_right hj] at hu
        have := hc _ u hu
        rwa [show n * d.sz + (j - cells.length) = j by omega] at this
    · intro u hu
      rcases List.mem_append.1 hu with hu | hu
      · exact h3 u hu
      · exact d.one hv u hu
theorem Reps.list {α : Type} {R : α → List Value → Prop} {size : Nat} {ps : List α} {cs : List Value} (h : Reps R size ps cs) : cs.length = ps.length * size := h.1
section
variable {P : Program} {ops : Array Oper} {rest : List Oper} {o : Oper} {a : Act} {Q : Exit → Act → World → Prop} {K : Act → World → Prop} {E : Prop}
theorem run_row_copy {α : Type} {d : Kn α} {W : World} {base t e bytes c n : Nat} {v z : Value} {A : Option Addr} {ok : Nat → Prop} {xs : List α} (ty : TypeId) (hr : Row d W ok A xs) (hA : A = none → c = 0) (hn : n = xs.length)
    (HO : W.ownsRow base e d.sz v 0 []) (hne : ∀ k, ok k → some k ≠ v.ownBlock) (hbase : base ≤ W.heap.size)
    (ht : P.underlying t = some (.slice e)) (hinfo : (P.info? e).map (fun i => (i.zero, i.size, i.bytes)) = some (some z, d.sz, bytes)) (hzs : z.cells.size = d.sz) (hl : xs.length * bytes ≤ 140737488355328) :
    ∃ v1 w1, (Builtin.append_ #[t, t] ty #[v, .slice A n c]).run P W = .ok v1 w1 ∧ Own d e w1 base (fun k => ok k ∨ base ≤ k) v1 xs ∧ W.grownBy w1 v.ownBlock := by
  obtain ⟨i0, hi, hzz⟩ := Option.map_eq_some_iff.1 hinfo
  simp only [Prod.mk.injEq] at hzz
  obtain ⟨hz0, hz1, hz2⟩ := hzz
  subst hn
  have hlx : xs.length ≤ 140737488355328 := hr.1
  cases A with
  | none =>
    have hc0 := hA rfl
    subst hc0
    have hx0 : xs = [] := by
      rcases Nat.eq_zero_or_pos xs.length with h0 | h0
      · exact List.eq_nil_of_length_eq_zero h0
      · obtain ⟨ad, e1, -⟩ := hr.2 h0
        cases e1
    subst hx0
    exact ⟨v, W, run_append_owned_none (P := P) (w := W) base t ty e i0 d.sz ht hi v 0 [] HO, ⟨by simp, fun k hk => .inr (own_base HO k hk), [], HO, Reps.none _ _⟩, ⟨rfl, rfl, rfl, Nat.le_refl _, fun _ _ _ => rfl⟩⟩
  | some ad =>
    obtain ⟨cells, h1, h2, h3⟩ := hr.cells xs.length (Nat.le_refl _)
    rw [List.take_length] at h1
    obtain ⟨v1, w1, hrun, hown, hg, hz, hat⟩ := run_append_own_at (P := P) W base t ty e i0 z d.sz bytes ht hi hz0 hz1 hz2 hzs d.pos v 0 [] HO ad xs.length c cells h1.1 h2 h3 (by simp only [maxLen]; omega) (by rw [Nat.zero_add]; exact hl) hbase
    rw [List.nil_append, Nat.zero_add] at hown
    refine ⟨v1, w1, hrun, ⟨hlx, fun k hk => .inr (own_base hown k hk), cells, hown, ?_⟩, hg⟩
    refine ⟨h1.1, fun j p hj => ?_⟩
    have hp := d.bound (h1.2 j p hj)
    refine d.mono (ok := fun k => ok k ∧ k < W.heap.size) (fun k hk => ⟨.inl hk.1, fun e1 => ?_⟩) (d.move (fun k hk => hg.block k hk.2 (hne k hk.1)) hp)
    rcases hat with hat | hat
    · exact hne k hk.1 (e1.trans hat)
    · rw [hat] at e1
      injection e1 with e1
      omega
/-- append(v, xs..), v empty and the call's own. -/
theorem row_copy {α : Type} {d : Kn α} {W : World} {base t e bytes c n : Nat} {s x : Operand} {v z : Value} {A : Option Addr} {ok : Nat → Prop} {xs : List α} (hr : Row d W ok A xs) (hA : A = none → c = 0) (hn : n = xs.length)
    (HO : W.ownsRow base e d.sz v 0 []) (hne : ∀ k, ok k → some k ≠ v.ownBlock) (hbase : base ≤ W.heap.size)
    (ht : P.underlying t = some (.slice e)) (hinfo : (P.info? e).map (fun i => (i.zero, i.size, i.bytes)) = some (some z, d.sz, bytes)) (hzs : z.cells.size = d.sz) (hl : xs.length * bytes ≤ 140737488355328)
    (hgd : o.guard = none) (ho : o.op = .call { callee := .builtin .append, args := #[s, x], argTypes := #[t, t] })
    (hs : a.eval s = v) (hx : a.eval x = .slice A n c)
    (h : ∀ v1 w1, Own d e w1 base (fun k => ok k ∨ base ≤ k) v1 xs → W.grownBy w1 v.ownBlock → wpList P ops Q rest (a.put o.dst v1) w1) :
    wpList P ops Q (o :: rest) a W := by
  refine wpList_plain hgd fun K hK => ?_
  obtain ⟨v1, w1, hrun, h1, h2⟩ := run_row_copy (P := P) o.type hr hA hn HO hne hbase ht hinfo hzs hl
  unfold Oper.wp execOp
  simp only [ho, resolve, invoke, builtin, Sem.run_bind, Sem.run_pure, Result.andThen_ok, List.map_toArray, List.map_cons, List.map_nil, hs, hx, hrun]
  exact hK _ _ (h v1 w1 h1 h2)
/-- The same in a region that draws its order. -/
theorem step_row_copy {α : Type} {d : Kn α} {W : World} {base t e bytes c n : Nat} {s x : Operand} {v z : Value} {A : Option Addr} {ok : Nat → Prop} {xs : List α} (hr : Row d W ok A xs) (hA : A = none → c = 0) (hn : n = xs.length)
    (HO : W.ownsRow base e d.sz v 0 []) (hne : ∀ k, ok k → some k ≠ v.ownBlock) (hbase : base ≤ W.heap.size)
    (ht : P.underlying t = some (.slice e)) (hinfo : (P.info? e).map (fun i => (i.zero, i.size, i.bytes)) = some (some z, d.sz, bytes)) (hzs : z.cells.size = d.sz) (hl : xs.length * bytes ≤ 140737488355328)
    (hgd : o.guard = none) (ho : o.op = .call { callee := .builtin .append, args := #[s, x], argTypes := #[t, t] })
    (hs : a.eval s = v) (hx : a.eval x = .slice A n c)
    (h : ∀ v1 w1, Own d e w1 base (fun k => ok k ∨ base ≤ k) v1 xs → W.grownBy w1 v.ownBlock → K (a.put o.dst v1) w1) :
    if Region.wanted o (yielded ops a.tmps) = true then Oper.wp P o a W K Q else E := by
  have hw : Region.wanted o (yielded ops a.tmps) = true := by simp [Region.wanted, hgd]
  rw [if_pos hw]
  obtain ⟨v1, w1, hrun, h1, h2⟩ := run_row_copy (P := P) o.type hr hA hn HO hne hbase ht hinfo hzs hl
  unfold Oper.wp execOp
  simp only [ho, resolve, invoke, builtin, Sem.run_bind, Sem.run_pure, Result.andThen_ok, List.map_toArray, List.map_cons, List.map_nil, hs, hx, hrun]
  exact h v1 w1 h1 h2
end
end Go.Proofs.YtlkklaahnkcnkaaDoor.X
