/- Texts of this claim, joined: The rules of simple expressions: the reference. -/
import Derived.Sort.Walk0
import Derived.Test.YtleimfinniclgaaGreatDoorJ3
import Derived.Test.YtleimfinniclgaaGreatDoorJ4
/- Expressions as values of the machine. -/
namespace Go.Proofs.YtleimfinniclgaaGreatDoor.M
open Go.Proofs Go.Proofs.YtleimfinniclgaaGreatDoor.X
set_option linter.unusedSimpArgs false
set_option linter.unusedVariables false
mutual
def encX : Ex → AVal
  | .mk o n s a => .agg [.int .i64 o, .int .i64 n, .str s, .lst (encXs a)]
def encXs : List Ex → List AVal
  | [] => []
  | x :: r => encX x :: encXs r
end
theorem encX_eq (x : Ex) : encX x = .agg [.int .i64 x.op, .int .i64 x.n, .str x.name, .lst (encXs x.args)] := by cases x; rw [encX]; rfl
theorem encXs_eq (l : List Ex) : encXs l = l.map encX := by induction l with | nil => rfl | cons x r ih => simp [encXs, ih]
mutual
theorem encX_ids (n : Nat) : ∀ x : Ex, (encX x).idsLt n = true
  | .mk o m s a => by rw [encX]; simp [encXs_ids n a]
theorem encXs_ids (n : Nat) : ∀ l : List Ex, idsLts n (encXs l) = true
  | [] => by rw [encXs]; simp
  | x :: r => by rw [encXs]; simp [encX_ids n x, encXs_ids n r]
end
attribute [simp] encX_ids encXs_ids
@[simp] theorem encX_flat (x : Ex) : (encX x).flat = [.int .i64 x.op, .int .i64 x.n, .str x.name, .lst (encXs x.args)] := by rw [encX_eq]; rfl
@[simp] theorem encXs_len (l : List Ex) : (encXs l).length = l.length := by rw [encXs_eq, List.length_map]
@[simp] theorem encXs_head (l : List Ex) : headOk (encXs l) 4 = true := by cases l with | nil => rfl | cons x r => simp [encXs]
theorem encXs_at {l : List Ex} {k : Nat} {x : Ex} (h : l[k]? = some x) : (encXs l)[k]? = some (encX x) := by rw [encXs_eq, List.getElem?_map, h]; rfl
theorem encXs_app (l r : List Ex) : encXs (l ++ r) = encXs l ++ encXs r := by simp [encXs_eq]
theorem args_lt {x y : Ex} (h : y ∈ x.args) : SizeOf.sizeOf y < SizeOf.sizeOf x := by
  have h1 := List.sizeOf_lt_of_mem h
  cases x
  simp [Ex.args] at h1 ⊢
  omega
def exprT : Recs := ⟨fun _ => ⟨true, [.int, .int, .str, .row 0]⟩, fun _ => true, 100, fun _ => by decide, fun _ h => by cases h⟩
theorem fr_int {T : Recs} {v : AVal} (h : Fr T .int v) : ∃ n, v = .int .i64 n := by cases h; exact ⟨_, rfl⟩
theorem fr_str {T : Recs} {v : AVal} (h : Fr T .str v) : ∃ n, v = .str n := by cases h; exact ⟨_, rfl⟩
theorem fr_row {c : CK} {v : AVal} (h : Fr exprT c v) : ∀ k, c = .row k → ∃ l, v = .lst (encXs l) := by
  induction h with
  | int n => intro k e; cases e
  | bool b => intro k e; cases e
  | str s => intro k e; cases e
  | row k xs hl ha h ih =>
    intro k' _
    have : ∀ x, x ∈ xs → ∃ y, x = encX y := by
      intro x hx
      obtain ⟨cs, rfl⟩ := ha x hx
      have hlen : cs.length = 4 := hl _ hx
      have at_ : ∀ i t, i < 4 → (exprT.of k).cs[i]? = some t → ∃ u, cs[i]? = some u ∧ Fr exprT t u := fun i t hi ht => by
        have hc : cs[i]? = some (cs[i]'(by omega)) := List.getElem?_eq_getElem (by omega)
        exact ⟨_, hc, h _ hx i t _ ht hc⟩
      obtain ⟨u0, e0, h0⟩ := at_ 0 .int (by omega) rfl
      obtain ⟨u1, e1, h1⟩ := at_ 1 .int (by omega) rfl
      obtain ⟨u2, e2, h2⟩ := at_ 2 .str (by omega) rfl
      obtain ⟨u3, e3, h3⟩ := at_ 3 (.row 0) (by omega) rfl
      obtain ⟨l, hl3⟩ := ih _ hx 3 (.row 0) u3 rfl e3 0 rfl
      obtain ⟨o, rfl⟩ := fr_int h0
      obtain ⟨n, rfl⟩ := fr_int h1
      obtain ⟨s, rfl⟩ := fr_str h2
      subst hl3
      refine ⟨.mk o n s l, ?_⟩
      rw [encX]
      congr 1
      refine List.ext_getElem? fun i => ?_
      match i with
      | 0 => exact e0
      | 1 => exact e1
      | 2 => exact e2
      | 3 => exact e3
      | i + 4 => rw [List.getElem?_eq_none (by omega)]; rfl
    clear ih h ha hl
    induction xs with
    | nil => exact ⟨[], rfl⟩
    | cons x r ihr =>
      obtain ⟨y, rfl⟩ := this x (.head _)
      obtain ⟨l, hl⟩ := ihr fun z hz => this z (.tail _ hz)
      injection hl with hl
      exact ⟨y :: l, by rw [hl, encXs]⟩
end Go.Proofs.YtleimfinniclgaaGreatDoor.M
/- Generators of expressions and spans. -/
namespace Go.Proofs.YtleimfinniclgaaGreatDoor.M
open Go.Proofs
set_option linter.unusedSimpArgs false
set_option linter.unusedVariables false
set_option maxRecDepth 100000
set_option pp.deepTerms false
set_option pp.deepTerms.threshold 6
set_option maxHeartbeats 4000000
def Base (n : Nat) (hp : Heap) : Prop := hlow n hp = hp ∧ hclean n hp = true
theorem ints_ids (n : Nat) (l : List Int) : idsLts n (ints' l) = true := by
  unfold ints'
  induction l with
  | nil => simp
  | cons x r ih => simpa using ih
theorem Base.set {n s : Nat} {hp : Heap} (h : Base n hp) (l : List Int) (a : Int) : Base n (hset hp s (strm l a)) := by
  refine ⟨by rw [hlow_hset, h.1], ?_⟩
  unfold strm
  exact hclean_hset h.2 (by simp [ints_ids])
theorem hget_strm {hp : Heap} {s : Nat} {l : List Int} {a : Int} (hs : hget hp s = some (strm l a)) (b : Int) : hget (hset hp s (strm l b)) s = some (strm l b) := by rw [hget_hset_same]; simp [hs]
theorem hget_lt {n : Nat} {hp : Heap} (h : Base n hp) {s : Nat} {b : ABlk} (hs : hget hp s = some b) : s < n := by
  rw [← h.1] at hs
  by_cases hl : s < n
  · exact hl
  · exfalso
    have : ∀ hp : Heap, hget (hlow n hp) s = none := by
      intro hp
      induction hp with
      | nil => rfl
      | cons p hp ih =>
        obtain ⟨i, c⟩ := p
        rw [hlow_cons]
        split
        · rw [hget_cons, if_neg (by omega)]; exact ih
        · exact ih
    rw [this] at hs
    cases hs
theorem hset_cons_ne {i j : Nat} (b v : ABlk) (h : Heap) (hn : j ≠ i) : hset ((i, b) :: h) j v = (i, b) :: hset h j v := by simp [hn]
theorem leaf_R (l : List Int) (a : Int) (s ro nx : Nat) (hp : Heap) (ha : 0 ≤ a ∧ a < 4611686018427387000) (hl : l.length < 4611686018427387904) (hs : hget hp s = some (strm l a)) (hro : ro ≤ s) (hsn : s < nx) :
    ∃ op n nm b, R K 153 [.ptr s 0] ro nx hp = some ⟨.agg [.int .i64 op, .int .i64 n, .str nm, .lst []], false, nx + 1, (nx, b) :: hset hp s (strm l (a + 2))⟩ := by
  have hne : ¬ s = nx := by omega
  have e2 : a + 1 + 1 = a + 2 := by omega
  have hs1 : hget ((nx, ABlk.cells [(.int .i64 0, false), (.int .i64 0, false), (.str ByteArray.empty, false), (.lst [], true)]) :: hp) s = some (strm l a) := by simp [hne, hs]
  have hF := flip_R l a 2 s ro (nx + 1) _ (by omega) (by omega) hl hs1 hro
  have hs2 : hget ((nx, ABlk.cells [(.int .i64 0, false), (.int .i64 0, false), (.str ByteArray.empty, false), (.lst [], true)]) :: hset hp s (strm l (a + 1))) s = some (strm l (a + 1)) := by simp [hne, hget_strm hs]
  have hP := pick_R l (a + 1) [0, 1, 2, 5, 999] s ro (nx + 1) _ (by omega) (by simp) hl hs2 hro
  have hS := some_R l (a + 1) [⟨#[120]⟩, ⟨#[121]⟩, ⟨#[120]⟩, ⟨#[122]⟩] s ro (nx + 1) _ (by omega) (by simp) hl hs2 hro
  simp only [ints', strs, List.map_cons, List.map_nil] at hP hS
  have hro' : ro ≤ nx := by omega
  by_cases h0 : nextF l a 2 = 0
  · refine ⟨1, pickF l (a + 1) [0, 1, 2, 5, 999], ByteArray.empty, .cells [(.int .i64 1, false), (.int .i64 (pickF l (a + 1) [0, 1, 2, 5, 999]), false), (.str ByteArray.empty, false), (.lst [], true)], ?_⟩
    rw [R_body' K ro 153 _ nx hp [] Tryz.func153 rfl Tryz.ntmps153 Tryz.results153 (mu := []) rfl (by kernel_rfl) rfl rfl rfl]; simp only [slim, slimO, annO, List.map, List.zip, List.zipWith, List.lookup, holed, Nat.reduceBEq]
    simp [List.replicate, hF, hne, h0, hP, e2, hro']
  · refine ⟨2, 0, someF l (a + 1) [⟨#[120]⟩, ⟨#[121]⟩, ⟨#[120]⟩, ⟨#[122]⟩], .cells [(.int .i64 2, false), (.int .i64 0, false), (.str (someF l (a + 1) [⟨#[120]⟩, ⟨#[121]⟩, ⟨#[120]⟩, ⟨#[122]⟩]), false), (.lst [], true)], ?_⟩
    rw [R_body' K ro 153 _ nx hp [] Tryz.func153 rfl Tryz.ntmps153 Tryz.results153 (mu := []) rfl (by kernel_rfl) rfl rfl rfl]; simp only [slim, slimO, annO, List.map, List.zip, List.zipWith, List.lookup, holed, Nat.reduceBEq]
    simp [List.replicate, hF, hne, h0, hS, e2, hro']
/-- What a generator leaves: old variables as they were but for the stream's, new ones above. -/
structure Gen (l : List Int) (s nx : Nat) (hp : Heap) (n' : Nat) (hp' : Heap) (a' : Int) : Prop where
  le : nx ≤ n'
  low : hlow nx hp' = hset hp s (strm l a')
  fresh : Fresh n' hp'
theorem Gen.old {l : List Int} {s nx n' : Nat} {hp hp' : Heap} {a' : Int} (h : Gen l s nx hp n' hp' a') {j : Nat} (hj : j < nx) (hs : j ≠ s) : hget hp' j = hget hp j := by
  have := congrArg (fun h => hget h j) h.low
  simp only [hget_hlow', if_pos hj] at this
  rw [this, hget_hset, if_neg hs]
theorem Gen.strm {l : List Int} {s nx n' : Nat} {hp hp' : Heap} {a a' : Int} (h : Gen l s nx hp n' hp' a') (hs : hget hp s = some (M.strm l a)) (hsn : s < nx) : hget hp' s = some (M.strm l a') := by
  have := congrArg (fun h => hget h s) h.low
  simp only [hget_hlow', if_pos hsn] at this
  rw [this]; exact hget_strm hs a'
theorem Gen.trans {l : List Int} {s nx n1 n2 : Nat} {hp h1 h2 : Heap} {a1 a2 : Int} (h : Gen l s nx hp n1 h1 a1) (k : Gen l s n1 h1 n2 h2 a2) : Gen l s nx hp n2 h2 a2 :=
  ⟨Nat.le_trans h.le k.le, by rw [← hlow_hlow h.le, k.low, hlow_hset, h.low, hset_hset], k.fresh⟩
theorem Gen.push {l : List Int} {s nx n : Nat} {hp h1 : Heap} {a : Int} (h : Gen l s nx hp n h1 a) (b : ABlk) : Gen l s nx hp (n + 1) ((n, b) :: h1) a :=
  ⟨by have := h.le; omega, by rw [hlow_cons, if_neg (by have := h.le; omega), h.low], h.fresh.push b⟩
theorem Gen.set {l : List Int} {s nx n : Nat} {hp h1 : Heap} {a : Int} (h : Gen l s nx hp n h1 a) {i : Nat} (hi : nx ≤ i) (b : ABlk) : Gen l s nx hp n (hset h1 i b) a :=
  ⟨h.le, by rw [hlow_hset' _ _ _ _ hi, h.low], h.fresh.hset i b⟩
theorem Gen.del {l : List Int} {s nx n : Nat} {hp h1 : Heap} {a : Int} (h : Gen l s nx hp n h1 a) {i : Nat} (hi : nx ≤ i) : Gen l s nx hp n (hdel h1 i) a :=
  ⟨h.le, by rw [hlow_hdel' _ _ _ hi, h.low], h.fresh.hdel i⟩
theorem Gen.next {l : List Int} {s nx n : Nat} {hp h1 : Heap} {a : Int} (h : Gen l s nx hp n h1 a) (hsn : s < nx) (a' : Int) : Gen l s nx hp n (hset h1 s (M.strm l a')) a' :=
  ⟨h.le, by rw [hlow_hset, h.low, hset_hset], h.fresh.hset s _⟩
theorem hset_self {hp : Heap} {s : Nat} {b : ABlk} (h : hget hp s = some b) : hset hp s b = hp := by
  induction hp with
  | nil => rfl
  | cons p hp ih =>
    obtain ⟨i, c⟩ := p
    simp only [hget] at h
    simp only [hset]
    split
    · rename_i e
      rw [if_pos e] at h; cases h; rfl
    · rename_i e
      rw [if_neg e] at h; rw [ih h]
theorem Gen.start {l : List Int} {s nx : Nat} {hp : Heap} {a : Int} (hf : Fresh nx hp) (hs : hget hp s = some (M.strm l a)) : Gen l s nx hp nx hp a :=
  ⟨Nat.le_refl _, by rw [hset_self hs]; exact hf, hf⟩
def treeB : Nat → Int
  | 0 => 4
  | d + 1 => 3 + 3 * treeB d
theorem treeB_pos (d : Nat) : 4 ≤ treeB d := by induction d with | zero => decide | succ d ih => simp only [treeB]; omega
def blkB : Nat → Nat
  | 0 => 2
  | d + 1 => 8 + 3 * blkB d
theorem blkB_pos (d : Nat) : 2 ≤ blkB d := by induction d with | zero => decide | succ d ih => simp only [blkB]; omega
def TreeOk (l : List Int) (s ro : Nat) (d : Nat) : Prop := ∀ (a : Int) (nx : Nat) (hp : Heap), 0 ≤ a → a + treeB d < 4611686018427387000 → hget hp s = some (strm l a) → Fresh nx hp →
  ∃ op n nm av n' hp' a', R K 72 [.ptr s 0, .int .i64 d] ro nx hp = some ⟨.agg [.int .i64 op, .int .i64 n, .str nm, av], false, n', hp'⟩ ∧ Gen l s nx hp n' hp' a' ∧ a ≤ a' ∧ a' ≤ a + treeB d ∧ Tv exprT hp' nx n' (.row 0) av ∧ n' ≤ nx + blkB d
/-- The list of arguments while it grows. -/
def Args (hp : Heap) (lo n : Nat) (k : Nat) (v : AVal) (f : Bool) : Prop := (k = 0 ∧ v = .lst [] ∧ f = true) ∨ (∃ id cs, v = .sl id 0 k 4 true ∧ f = false ∧ lo ≤ id ∧ id < n ∧ hget hp id = some (.cells cs) ∧ cs.length = 4 * k ∧ k ≤ 3 ∧ ∀ (j : Nat) (c : Cell) t, cs[j]? = some c → (exprT.of 0).cs[j % 4]? = some t → Tv exprT hp lo id t c.1)
theorem Args.tv {hp : Heap} {lo n k : Nat} {v : AVal} {f : Bool} (h : Args hp lo n k v f) : Tv exprT hp lo n (.row 0) v := by
  rcases h with ⟨_, rfl, _⟩ | ⟨id, cs, rfl, _, h0, h1, hg, hl, hk, hc⟩
  · exact .fr (Leaf.nil 0)
  · have := Tv.sl (T := exprT) (hp := hp) (lo := lo) n 0 id 0 k cs h0 h1 hg (by show (0 + k) * 4 ≤ _; omega) (by show _ ≤ 100; omega) hc
    rwa [Nat.zero_mul] at this
theorem tree_loop (l : List Int) (s ro d : Nat) (hl : l.length < 4611686018427387904) (hd : d + 1 < 100) (ih : TreeOk l s ro d) (nx : Nat) (hp0 : Heap) (hsn : s < nx) (hro : ro ≤ s) (op : Int) (a0 : Int) (hs0 : hget hp0 s = some (strm l a0)) (mm : Int) : ∀ (r k : Nat) (tm : List Cell) (n : Nat) (hp : Heap) (a : Int) (av : AVal) (f : Bool), r + k ≤ 3 → mm = r + k →
    tm.length = 39 → getC tm 0 = (.ptr s 0, false) → getC tm 1 = (.int .i64 (d + 1), false) → getC tm 4 = (.ptr nx 0, false) → getC tm 5 = (.ptr (nx + 1) 0, false) → getC tm 25 = (.int .i64 mm, false) → getC tm 26 = (.int .i64 k, false) →
    0 ≤ a → a + r * treeB d < 4611686018427387000 → nx + 2 ≤ n → Gen l s nx hp0 n hp a → hget hp nx = some (.cells [(.int .i64 0, false), (.int .i64 0, false), (.str ByteArray.empty, false), (.lst [], true)]) → hget hp (nx + 1) = some (.cells [(.int .i64 op, false), (.int .i64 0, false), (.str ByteArray.empty, false), (av, f)]) → Args hp (nx + 2) n k av f →
    ∃ tm' n' hp' a' av' f', X K ⟨ro, [26]⟩ (.loop (LB Tryz.prog 72 [(12, [[], [1], [], [], [], [1], [1], [], [], []])] 0)) ⟨tm, n, hp⟩ = some (.exit 1, ⟨tm', n', hp'⟩) ∧ tm'.length = 39 ∧ getC tm' 4 = (.ptr nx 0, false) ∧ getC tm' 5 = (.ptr (nx + 1) 0, false) ∧ a ≤ a' ∧ a' ≤ a + r * treeB d ∧ nx + 2 ≤ n' ∧ Gen l s nx hp0 n' hp' a' ∧
      hget hp' nx = some (.cells [(.int .i64 0, false), (.int .i64 0, false), (.str ByteArray.empty, false), (.lst [], true)]) ∧ hget hp' (nx + 1) = some (.cells [(.int .i64 op, false), (.int .i64 0, false), (.str ByteArray.empty, false), (av', f')]) ∧ Args hp' (nx + 2) n' (r + k) av' f' ∧ n' ≤ n + r * (blkB d + 2) := by
  have e := LB_open (P := Tryz.prog) [(12, [[], [1], [], [], [], [1], [1], [], [], []])] 0 Tryz.func72 rfl rfl (by kernel_rfl)
  simp only [slim, slimO, annO, List.map, List.zip, List.zipWith, List.lookup, holed, loopsOf, List.nil_append, List.cons_append, List.getD_cons_zero, List.getD_cons_succ, Nat.reduceBEq] at e
  intro r
  induction r with
  | zero =>
    intro k tm n hp a av f hk hmm ht h0 h1 h4 h5 h25 h26 ha hb hn hG hg1 hg2 hA
    rw [Y_loop_eq _ _ e]
    generalize hX : X K _ _ _ = x
    have hk1 : ¬ (k : Int) < mm := by omega
    simp [ht, h25, h26, hk1] at hX
    subst hX
    exact ⟨_, n, hp, a, av, f, rfl, by simp [ht], by simp [h4], by simp [h5], by omega, by omega, hn, hG, hg1, hg2, by rw [Nat.zero_add]; exact hA, by omega⟩
  | succ r ihr =>
    intro k tm n hp a av f hk hmm ht h0 h1 h4 h5 h25 h26 ha hb hn hG hg1 hg2 hA
    rw [Y_loop_eq _ _ e]
    have hpos := treeB_pos d
    have hmul : ((r + 1 : Nat) : Int) * treeB d = r * treeB d + treeB d := by rw [Int.natCast_add, Int.add_mul]; simp
    have hr0 : 0 ≤ (r : Int) * treeB d := Int.mul_nonneg (by omega) (by omega)
    obtain ⟨op1, n1, nm1, av1, n2, hp2, a2, hR, hG2, ha1, ha2, hT2, hnb⟩ := ih a n hp ha (by omega) (hG.strm hs0 hsn) hG.fresh
    have hk1 : (k : Int) < mm := by omega
    have hw1 : IntKind.i64.wrap (d : Int) = d := wrap_small (by omega) (by omega)
    have hw2 : IntKind.i64.wrap ((k : Int) + 1) = (k : Int) + 1 := wrap_small (by omega) (by omega)
    have g2a := (hG2.old (j := nx) (by omega) (by omega)).trans hg1
    have g2b := (hG2.old (j := nx + 1) (by omega) (by omega)).trans hg2
    have hn2 := hG2.le
    have ne1 : ¬ nx + 1 = n2 := by omega
    have ne2 : ¬ nx + 1 = n2 + 1 := by omega
    have key : ∀ (tm2 : List Cell) (n3 : Nat) (hp3 : Heap) (av3 : AVal) (f3 : Bool), tm2.length = 39 → getC tm2 0 = (.ptr s 0, false) → getC tm2 1 = (.int .i64 (d + 1), false) → getC tm2 4 = (.ptr nx 0, false) → getC tm2 5 = (.ptr (nx + 1) 0, false) → getC tm2 25 = (.int .i64 mm, false) → getC tm2 26 = (.int .i64 (k + 1), false) → n3 = n2 + 2 →
        Gen l s nx hp0 n3 hp3 a2 → hget hp3 nx = some (.cells [(.int .i64 0, false), (.int .i64 0, false), (.str ByteArray.empty, false), (.lst [], true)]) → hget hp3 (nx + 1) = some (.cells [(.int .i64 op, false), (.int .i64 0, false), (.str ByteArray.empty, false), (av3, f3)]) → Args hp3 (nx + 2) n3 (k + 1) av3 f3 →
        ∃ tm' n' hp' a' av' f', XK K ⟨ro, [26]⟩ (.loop (LB Tryz.prog 72 [(12, [[], [1], [], [], [], [1], [1], [], [], []])] 0)) (some (.normal, ⟨tm2, n3, hp3⟩)) = some (.exit 1, ⟨tm', n', hp'⟩) ∧ tm'.length = 39 ∧ getC tm' 4 = (.ptr nx 0, false) ∧ getC tm' 5 = (.ptr (nx + 1) 0, false) ∧ a ≤ a' ∧ a' ≤ a + (r + 1 : Nat) * treeB d ∧ nx + 2 ≤ n' ∧ Gen l s nx hp0 n' hp' a' ∧
      hget hp' nx = some (.cells [(.int .i64 0, false), (.int .i64 0, false), (.str ByteArray.empty, false), (.lst [], true)]) ∧ hget hp' (nx + 1) = some (.cells [(.int .i64 op, false), (.int .i64 0, false), (.str ByteArray.empty, false), (av', f')]) ∧ Args hp' (nx + 2) n' (r + 1 + k) av' f' ∧ n' ≤ n + (r + 1) * (blkB d + 2) := by
      intro tm2 n3 hp3 av3 f3 q1 q2 q3 q4 q5 q6 q7 q8 q9 q10 q11 q12
      rw [XK_normal]
      obtain ⟨tm', n', hp', a', av', f', w1, w2, w3, w4, w5, w6, w7, w8, w9, w10, w11, w12⟩ := ihr (k + 1) tm2 n3 hp3 a2 av3 f3 (by omega) (by omega) q1 q2 q3 q4 q5 q6 (by rw [q7]; rfl) (by omega) (by omega) (by omega) q9 q10 q11 q12
      exact ⟨tm', n', hp', a', av', f', w1, w2, w3, w4, by omega, by omega, w7, w8, w9, w10, by rw [show r + 1 + k = r + (k + 1) by omega]; exact w11, by rw [Nat.succ_mul]; omega⟩
    have typed : ∀ (hp3 : Heap), (∀ j, n ≤ j → j < n2 → hget hp3 j = hget hp2 j) → ∀ (j : Nat) (c : Cell) t, [((AVal.int .i64 op1 : AVal), false), (.int .i64 n1, false), (.str nm1, false), (av1, false)][j]? = some c → (exprT.of 0).cs[j]? = some t → Tv exprT hp3 (nx + 2) (n2 + 1) t c.1 := by
      intro hp3 hk3 j c t hj hc
      match j with
      | 0 => cases hj; cases hc; exact .fr (Leaf.int _)
      | 1 => cases hj; cases hc; exact .fr (Leaf.int _)
      | 2 => cases hj; cases hc; exact .fr (Leaf.str _)
      | 3 => cases hj; cases hc; exact hT2.keep hn (by omega) hk3
      | j + 4 => simp at hj
    have h1av := hT2.one
    have hw3 : IntKind.i64.wrap 1 = 1 := wrap_small (by omega) (by omega)
    have ne0 : ¬ nx = n2 := by omega
    have hro2 : ro ≤ nx + 1 := by omega
    generalize hX : X K _ _ _ = x
    rcases hA with ⟨rfl, rfl, rfl⟩ | ⟨id, cs, rfl, rfl, i0, i1, ig, il, ik, ic⟩
    · have hk0 : 0 < mm := by omega
      simp [ht, h0, h1, h4, h5, h25, h26, hk0, hg2, hw1, hR, h1av, hro2, ne0, g2b, ne1, ne2, hw2] at hX
      subst hX
      refine key _ _ _ (.sl (n2 + 1) 0 1 4 true) false ?_ ?_ ?_ ?_ ?_ ?_ ?_ rfl ((((hG.trans hG2).set (i := nx + 1) (by omega) _).push _).push _) ?_ ?_ (.inr ⟨n2 + 1, _, rfl, rfl, by omega, by omega, hget_same _ _ _, ?_, by omega, fun j c t hj hc => ?_⟩)
      · simp [ht]
      · simp [h0]
      · simp [h1]
      · simp [h4]
      · simp [h5]
      · simp [h25]
      · simp [ht, hw3]
      · simp [g2a, hget_hset, show ¬ nx = n2 + 1 by omega, show ¬ nx = n2 by omega]
      · simp [g2b, ne0, ne1, ne2, hget_hset]
      · rfl
      · have hj4 : j < 4 := (List.getElem?_eq_some_iff.1 hj).1
        rw [Nat.mod_eq_of_lt hj4] at hc
        exact typed _ (fun i hi1 hi2 => by simp [hget_hset, show ¬ i = n2 + 1 by omega, show ¬ i = n2 by omega, show ¬ i = nx + 1 by omega]) j c t hj hc
    · have g2c := (hG2.old (j := id) (by omega) (by omega)).trans ig
      have ne3 : ¬ id = n2 := by omega
      have ne4 : ¬ nx + 1 = id := by omega
      have hg' : hget ((n2, ABlk.cells [(AVal.int .i64 op1, false), (.int .i64 n1, false), (.str nm1, false), (av1, false)]) :: hp2) id = some (.cells cs) := by simp [ne3, g2c]
      have hap := apM_sl hg' ro 56 4 true true false (.tmp 29) (n2 + 1) k 4 1 [AVal.int .i64 op1, .int .i64 n1, .str nm1, av1]
      rw [if_pos ⟨by omega, rfl, by omega, by omega⟩] at hap
      simp [ht, h0, h1, h4, h5, h25, h26, hk1, hg2, hw1, hR, h1av, hro2, ne0, g2b, g2c, ne1, ne2, ne3, ne4, hw2, hap] at hX
      subst hX
      refine key _ _ _ (.sl (n2 + 1) 0 (k + 1) 4 true) false ?_ ?_ ?_ ?_ ?_ ?_ ?_ rfl (((((hG.trans hG2).push _).del (i := id) (by omega)).set (i := nx + 1) (by omega) _).push _) ?_ ?_ (.inr ⟨n2 + 1, _, rfl, rfl, by omega, by omega, hget_same _ _ _, ?_, by omega, fun j c t hj hc => ?_⟩)
      · simp [ht]
      · simp [h0]
      · simp [h1]
      · simp [h4]
      · simp [h5]
      · simp [h25]
      · simp [ht, hw3]
      · simp [g2a, hget_hset, hget_hdel, show ¬ nx = n2 + 1 by omega, show ¬ nx = n2 by omega, show ¬ nx = id by omega]
      · simp [g2b, ne0, ne1, ne2, hget_hset, hget_hdel, show ¬ nx + 1 = id by omega]
      · simp; omega
      · by_cases hj4 : j < k * 4
        · rw [List.getElem?_append_left (by simp; omega), List.getElem?_take, if_pos hj4, List.getElem?_map] at hj
          obtain ⟨c0, hc0, rfl⟩ := Option.map_eq_some_iff.1 hj
          exact (ic j c0 t hc0 hc).keep (Nat.le_refl _) (by omega) fun i hi1 hi2 => by
            have := hG2.old (j := i) (by omega) (by omega)
            simp [hget_hset, this, show ¬ i = n2 + 1 by omega, show ¬ i = n2 by omega, show ¬ i = nx + 1 by omega, show ¬ i = id by omega]
        · have hlen : (List.take (k * 4) (List.map ((fun v => ((v : AVal), false)) ∘ fun (x : Cell) => x.1) cs)).length = k * 4 := by simp; omega
          rw [List.getElem?_append_right (by omega), hlen] at hj
          have hj4' : j - k * 4 < 4 := (List.getElem?_eq_some_iff.1 hj).1
          have hm : j % 4 = j - k * 4 := by omega
          rw [hm] at hc
          exact typed _ (fun i hi1 hi2 => by simp [hget_hset, show ¬ i = n2 + 1 by omega, show ¬ i = n2 by omega, show ¬ i = nx + 1 by omega, show ¬ i = id by omega]) _ c t hj hc
theorem tree_zero (l : List Int) (s ro d : Nat) (hl : l.length < 4611686018427387904) (hro : ro ≤ s) (hd : d < 2) : TreeOk l s ro d := by
  intro a nx hp ha hb hs hf
  have hsn := hf.lt hs
  have hne : ¬ s = nx := by omega
  have hro' : ro ≤ nx := by omega
  have hpos := treeB_pos d
  have hs1 : hget ((nx, ABlk.cells [(.int .i64 0, false), (.int .i64 0, false), (.str ByteArray.empty, false), (.lst [], true)]) :: hp) s = some (strm l a) := by simp [hne, hs]
  obtain ⟨op, n, nm, b, hL⟩ := leaf_R l a s ro (nx + 1) _ ⟨ha, by omega⟩ hl hs1 hro (by omega)
  have hd' : (d : Int) < 2 := by omega
  refine ⟨op, n, nm, .lst [], nx + 2, (nx + 1, b) :: (nx, .cells [(.int .i64 op, false), (.int .i64 n, false), (.str nm, false), (.lst [], false)]) :: hset hp s (strm l (a + 2)), a + 2, ?_, (((Gen.start hf hs).next hsn _).push _).push _, by omega, by omega, .fr (Leaf.nil 0), by have := blkB_pos d; omega⟩
  rw [R_body' K ro 72 _ nx hp [(12, [[], [1], [], [], [], [1], [1], [], [], []])] Tryz.func72 rfl Tryz.ntmps72 Tryz.results72 (mu := [26]) rfl (by kernel_rfl) rfl rfl rfl]; simp only [slim, slimO, annO, List.map, List.zip, List.zipWith, List.lookup, holed, Nat.reduceBEq]
  simp [List.replicate, hd', hL, hne, hro']
theorem tree_R (l : List Int) (s ro : Nat) (hl : l.length < 4611686018427387904) (hro : ro ≤ s) : ∀ d : Nat, d < 90 → TreeOk l s ro d := by
  intro d
  induction d with
  | zero => intro _; exact tree_zero l s ro 0 hl hro (by omega)
  | succ d ih =>
    intro hd
    by_cases hd2 : d + 1 < 2
    · exact tree_zero l s ro _ hl hro hd2
    intro a nx hp ha hb hs hf
    have hsn := hf.lt hs
    have hne : ¬ s = nx := by omega
    have hne' : ¬ s = nx + 1 := by omega
    have hro' : ro ≤ nx := by omega
    have hro2 : ro ≤ nx + 1 := by omega
    have hpos := treeB_pos d
    simp only [treeB] at hb ⊢
    have hs1 : hget ((nx, ABlk.cells [(.int .i64 0, false), (.int .i64 0, false), (.str ByteArray.empty, false), (.lst [], true)]) :: hp) s = some (strm l a) := by simp [hne, hs]
    have hF := flip_R l a 3 s ro (nx + 1) _ ⟨ha, by omega⟩ (by omega) hl hs1 hro
    have hs2 : hget ((nx, ABlk.cells [(.int .i64 0, false), (.int .i64 0, false), (.str ByteArray.empty, false), (.lst [], true)]) :: hset hp s (strm l (a + 1))) s = some (strm l (a + 1)) := by simp [hne, hget_strm hs]
    have hd' : ¬ ((d : Int) + 1 < 2) := by omega
    by_cases h0 : nextF l a 3 = 0
    · obtain ⟨op, n, nm, b, hL⟩ := leaf_R l (a + 1) s ro (nx + 1) _ ⟨by omega, by omega⟩ hl hs2 hro (by omega)
      refine ⟨op, n, nm, .lst [], nx + 2, (nx + 1, b) :: (nx, .cells [(.int .i64 op, false), (.int .i64 n, false), (.str nm, false), (.lst [], false)]) :: hset hp s (strm l (a + 1 + 2)), a + 1 + 2, ?_, (((Gen.start hf hs).next hsn _).push _).push _, by omega, by omega, .fr (Leaf.nil 0), by have := blkB_pos d; simp only [blkB]; omega⟩
      rw [R_body' K ro 72 _ nx hp [(12, [[], [1], [], [], [], [1], [1], [], [], []])] Tryz.func72 rfl Tryz.ntmps72 Tryz.results72 (mu := [26]) rfl (by kernel_rfl) rfl rfl rfl]; simp only [slim, slimO, annO, List.map, List.zip, List.zipWith, List.lookup, holed, Nat.reduceBEq]
      simp [List.replicate, hd', hF, h0, hL, hne, hro']
    · have hP := pick_R l (a + 1) [3, 4, 5, 6, 7, 8, 9] s ro (nx + 1) _ ⟨by omega, by omega⟩ (by simp) hl hs2 hro
      simp only [ints', List.map_cons, List.map_nil] at hP
      generalize hop : pickF l (a + 1) [3, 4, 5, 6, 7, 8, 9] = op at hP
      have hG0 := (((Gen.start hf hs).next hsn (a + 2)).push (ABlk.cells [(.int .i64 0, false), (.int .i64 0, false), (.str ByteArray.empty, false), (.lst [], true)])).push (ABlk.cells [(.int .i64 op, false), (.int .i64 0, false), (.str ByteArray.empty, false), (.lst [], true)])
      have hloop := fun (m : Nat) (hm : m ≤ 3) tm q1 q2 q3 q4 q5 q6 q7 => tree_loop l s ro d hl (by omega) (ih (by omega)) nx hp hsn hro op a hs m m 0 tm (nx + 2) _ (a + 2) (.lst []) true (by omega) (by omega) q1 q2 q3 q4 q5 q6 q7 (by omega) (by have : (m : Int) * treeB d ≤ 3 * treeB d := Int.mul_le_mul_of_nonneg_right (by omega) (by omega); omega) (by omega) hG0 (by simp) (by simp) (.inl ⟨rfl, rfl, rfl⟩)
      have fin : ∀ (m : Nat) (tm' : List Cell) (n' : Nat) (hp' : Heap) (a' : Int) (av' : AVal) (f' : Bool), a + 2 ≤ a' → a' ≤ a + 2 + 3 * treeB d → nx + 2 ≤ n' → Gen l s nx hp n' hp' a' →
          hget hp' (nx + 1) = some (.cells [(.int .i64 op, false), (.int .i64 0, false), (.str ByteArray.empty, false), (av', f')]) → Args hp' (nx + 2) n' (m + 0) av' f' →
          Gen l s nx hp n' (hset hp' nx (.cells [(.int .i64 op, false), (.int .i64 0, false), (.str ByteArray.empty, false), (av', false)])) a' ∧ a ≤ a' ∧ a' ≤ a + (3 + 3 * treeB d) ∧ Tv exprT (hset hp' nx (.cells [(.int .i64 op, false), (.int .i64 0, false), (.str ByteArray.empty, false), (av', false)])) nx n' (.row 0) av' :=
        fun m tm' n' hp' a' av' f' h1 h2 h3 h4 h5 h6 => ⟨h4.set (Nat.le_refl nx) _, by omega, by omega, h6.tv.keep (by omega) (Nat.le_refl _) fun i hi1 hi2 => by rw [hget_hset, if_neg (by omega)]⟩
      generalize hX : R K _ _ _ _ _ = x
      rw [R_body' K ro 72 _ nx hp [(12, [[], [1], [], [], [], [1], [1], [], [], []])] Tryz.func72 rfl Tryz.ntmps72 Tryz.results72 (mu := [26]) rfl (by kernel_rfl) rfl rfl rfl] at hX; simp only [slim, slimO, annO, List.map, List.zip, List.zipWith, List.lookup, holed, Nat.reduceBEq] at hX
      by_cases h8 : op = 8
      · subst h8
        simp [List.replicate, hd', hF, h0, hP, hne, hne', hro', hro2] at hX
        generalize hb' : X K _ (.loop _) _ = r at hX
        have hk : ∃ tm' n' hp' a' av' f', r = some (.exit 1, ⟨tm', n', hp'⟩) ∧ tm'.length = 39 ∧ getC tm' 4 = (.ptr nx 0, false) ∧ getC tm' 5 = (.ptr (nx + 1) 0, false) ∧ a + 2 ≤ a' ∧ a' ≤ a + 2 + (1 : Nat) * treeB d ∧ nx + 2 ≤ n' ∧ Gen l s nx hp n' hp' a' ∧
            hget hp' nx = some (.cells [(.int .i64 0, false), (.int .i64 0, false), (.str ByteArray.empty, false), (.lst [], true)]) ∧ hget hp' (nx + 1) = some (.cells [(.int .i64 8, false), (.int .i64 0, false), (.str ByteArray.empty, false), (av', f')]) ∧ Args hp' (nx + 2) n' (1 + 0) av' f' ∧ n' ≤ nx + 2 + 1 * (blkB d + 2) := by
          rw [← hb']
          have e2 : a + 1 + 1 = a + 2 := by omega
          simp only [e2]
          apply hloop 1 (by omega)
          all_goals simp
        obtain ⟨tm', n', hp', a', av', f', rfl, w2, w3, w4, w5, w6, w7, w8, w9, w10, w11, w12⟩ := hk
        simp [w2, w3, w4, w9, w10, hro', show ¬ nx = nx + 1 by omega, w11.tv.one, w11.tv.unS] at hX
        obtain ⟨g1, g2, g3, g4⟩ := fin 1 tm' n' hp' a' av' f' w5 (by omega) w7 w8 w10 w11
        subst hX
        exact ⟨_, _, _, _, _, _, _, rfl, g1, g2, g3, g4, by simp only [blkB]; omega⟩
      · by_cases h9 : op = 9
        · subst h9
          simp [List.replicate, hd', hF, h0, hP, hne, hne', hro', hro2] at hX
          generalize hb' : X K _ (.loop _) _ = r at hX
          have hk : ∃ tm' n' hp' a' av' f', r = some (.exit 1, ⟨tm', n', hp'⟩) ∧ tm'.length = 39 ∧ getC tm' 4 = (.ptr nx 0, false) ∧ getC tm' 5 = (.ptr (nx + 1) 0, false) ∧ a + 2 ≤ a' ∧ a' ≤ a + 2 + (3 : Nat) * treeB d ∧ nx + 2 ≤ n' ∧ Gen l s nx hp n' hp' a' ∧
              hget hp' nx = some (.cells [(.int .i64 0, false), (.int .i64 0, false), (.str ByteArray.empty, false), (.lst [], true)]) ∧ hget hp' (nx + 1) = some (.cells [(.int .i64 9, false), (.int .i64 0, false), (.str ByteArray.empty, false), (av', f')]) ∧ Args hp' (nx + 2) n' (3 + 0) av' f' ∧ n' ≤ nx + 2 + 3 * (blkB d + 2) := by
            rw [← hb']
            have e2 : a + 1 + 1 = a + 2 := by omega
            simp only [e2]
            apply hloop 3 (by omega)
            all_goals simp
          obtain ⟨tm', n', hp', a', av', f', rfl, w2, w3, w4, w5, w6, w7, w8, w9, w10, w11, w12⟩ := hk
          simp [w2, w3, w4, w9, w10, hro', show ¬ nx = nx + 1 by omega, w11.tv.one, w11.tv.unS] at hX
          obtain ⟨g1, g2, g3, g4⟩ := fin 3 tm' n' hp' a' av' f' w5 (by omega) w7 w8 w10 w11
          subst hX
          exact ⟨_, _, _, _, _, _, _, rfl, g1, g2, g3, g4, by simp only [blkB]; omega⟩
        · skip
          simp [List.replicate, hd', hF, h0, hP, hne, hne', hro', hro2, h8, h9] at hX
          generalize hb' : X K _ (.loop _) _ = r at hX
          have hk : ∃ tm' n' hp' a' av' f', r = some (.exit 1, ⟨tm', n', hp'⟩) ∧ tm'.length = 39 ∧ getC tm' 4 = (.ptr nx 0, false) ∧ getC tm' 5 = (.ptr (nx + 1) 0, false) ∧ a + 2 ≤ a' ∧ a' ≤ a + 2 + (2 : Nat) * treeB d ∧ nx + 2 ≤ n' ∧ Gen l s nx hp n' hp' a' ∧
              hget hp' nx = some (.cells [(.int .i64 0, false), (.int .i64 0, false), (.str ByteArray.empty, false), (.lst [], true)]) ∧ hget hp' (nx + 1) = some (.cells [(.int .i64 op, false), (.int .i64 0, false), (.str ByteArray.empty, false), (av', f')]) ∧ Args hp' (nx + 2) n' (2 + 0) av' f' ∧ n' ≤ nx + 2 + 2 * (blkB d + 2) := by
            rw [← hb']
            have e2 : a + 1 + 1 = a + 2 := by omega
            simp only [e2]
            apply hloop 2 (by omega)
            all_goals simp
          obtain ⟨tm', n', hp', a', av', f', rfl, w2, w3, w4, w5, w6, w7, w8, w9, w10, w11, w12⟩ := hk
          simp [w2, w3, w4, w9, w10, hro', show ¬ nx = nx + 1 by omega, w11.tv.one, w11.tv.unS] at hX
          obtain ⟨g1, g2, g3, g4⟩ := fin 2 tm' n' hp' a' av' f' w5 (by omega) w7 w8 w10 w11
          subst hX
          exact ⟨_, _, _, _, _, _, _, rfl, g1, g2, g3, g4, by simp only [blkB]; omega⟩
end Go.Proofs.YtleimfinniclgaaGreatDoor.M
/- AnExpr: a tree with a change in one place. -/
namespace Go.Proofs.YtleimfinniclgaaGreatDoor.M
open Go.Proofs
set_option linter.unusedSimpArgs false
set_option linter.unusedVariables false
set_option maxRecDepth 100000
set_option pp.deepTerms false
set_option pp.deepTerms.threshold 6
set_option maxHeartbeats 4000000
/-- A pointer to a record of the forest. -/
def Pt (G : Kd) (hp : Heap) (p off : Nat) : Prop := G.kind p 0 ∧ off % 4 = 0 ∧ ∃ cs, hget hp p = some (.cells cs) ∧ off + 4 ≤ cs.length
structure AE (l : List Int) (s nx : Nat) (hp0 : Heap) (n1 n : Nat) (hp : Heap) (a : Int) (G : Kd) : Prop where
  gen : Gen l s nx hp0 n hp a
  forest : Forest exprT G (nx + 1) hp
  root : Pt G hp n1 0
  small : ∀ id cs, G.kind id 0 → hget hp id = some (.cells cs) → cs.length ≤ 100
  four : ∀ cs, hget hp n1 = some (.cells cs) → cs.length = 4
  ret : hget hp nx = some (.cells [(.int .i64 0, false), (.int .i64 0, false), (.str ByteArray.empty, false), (.lst [], true)])
theorem pt_cells {G : Kd} {hp : Heap} {lo p off : Nat} (F : Forest exprT G lo hp) (h : Pt G hp p off) : ∃ cs o n nm v f0 f1 f2 f3, hget hp p = some (.cells cs) ∧ off + 4 ≤ cs.length ∧ cs[off]? = some (.int .i64 o, f0) ∧ cs[off + 1]? = some (.int .i64 n, f1) ∧ cs[off + 2]? = some (.str nm, f2) ∧ cs[off + 3]? = some (v, f3) ∧ Hv exprT G hp (G.rank p) (.row 0) v := by
  obtain ⟨hk, h4, cs, hg, hl⟩ := h
  have at_ : ∀ i t, i < 4 → (exprT.of 0).cs[i]? = some t → ∃ c : Cell, cs[off + i]? = some c ∧ Hv exprT G hp (G.rank p) t c.1 := fun i t hi ht => by
    refine ⟨_, List.getElem?_eq_getElem (show off + i < cs.length by omega), F.cells p 0 cs hk hg (off + i) _ t (List.getElem?_eq_getElem (by omega)) ?_⟩
    show (exprT.of 0).cs[(off + i) % 4]? = some t
    rw [show (off + i) % 4 = i by omega]; exact ht
  obtain ⟨⟨v0, f0⟩, e0, h0⟩ := at_ 0 .int (by omega) rfl
  obtain ⟨⟨v1, f1⟩, e1, h1⟩ := at_ 1 .int (by omega) rfl
  obtain ⟨⟨v2, f2⟩, e2, h2⟩ := at_ 2 .str (by omega) rfl
  obtain ⟨⟨v3, f3⟩, e3, h3⟩ := at_ 3 (.row 0) (by omega) rfl
  have i0 : ∀ v r, Hv exprT G hp r .int v → ∃ n, v = .int .i64 n := fun v r h => by
    cases h with
    | fr h => cases h.1; exact ⟨_, rfl⟩
  have i2 : ∀ v r, Hv exprT G hp r .str v → ∃ n, v = .str n := fun v r h => by
    cases h with
    | fr h => cases h.1; exact ⟨_, rfl⟩
  obtain ⟨o, rfl⟩ := i0 v0 _ h0
  obtain ⟨n, rfl⟩ := i0 v1 _ h1
  obtain ⟨nm, rfl⟩ := i2 v2 _ h2
  exact ⟨cs, o, n, nm, v3, f0, f1, f2, f3, hg, hl, e0, e1, e2, e3, h3⟩
theorem hv_row {G : Kd} {hp : Heap} {r : Nat} {v : AVal} (h : Hv exprT G hp r (.row 0) v) : v = .lst [] ∨ ∃ id m len cs, v = .sl id (m * 4) len 4 true ∧ G.kind id 0 ∧ G.rank id < r ∧ hget hp id = some (.cells cs) ∧ (m + len) * 4 ≤ cs.length := by
  cases h with
  | fr h =>
    obtain ⟨h1, h2⟩ := h
    cases h1 with
    | row k xs _ _ _ => left; rw [h2 0 xs rfl rfl rfl]
  | sl k id m len cs hk hr hg hl => exact .inr ⟨id, m, len, cs, rfl, hk, hr, hg, hl⟩
theorem AE.next {l : List Int} {s nx n1 n : Nat} {hp0 hp : Heap} {a a0 : Int} {G : Kd} (h : AE l s nx hp0 n1 n hp a G) (hs0 : hget hp0 s = some (strm l a0)) (hsn : s < nx) (a' : Int) : AE l s nx hp0 n1 n (hset hp s (strm l a')) a' G := by
  have ne : ∀ id k, G.kind id k → id ≠ s := fun id k hk => by have := h.forest.lo id k hk; omega
  have hn1 := ne n1 0 h.root.1
  refine ⟨h.gen.next hsn a', h.forest.move fun id k hk => by rw [hget_hset, if_neg (ne id k hk)], ?_, fun id cs hk hc => h.small id cs hk (by rwa [hget_hset, if_neg (ne id 0 hk)] at hc), fun cs hc => h.four cs (by rwa [hget_hset, if_neg hn1] at hc), by rw [hget_hset, if_neg (by omega)]; exact h.ret⟩
  obtain ⟨q1, q2, cs, q3, q4⟩ := h.root
  exact ⟨q1, q2, cs, by rw [hget_hset, if_neg hn1]; exact q3, q4⟩
theorem Pt.next {l : List Int} {s nx n1 n : Nat} {hp0 hp : Heap} {a : Int} {G : Kd} (h : AE l s nx hp0 n1 n hp a G) (hsn : s < nx) {p off : Nat} (hp' : Pt G hp p off) (a' : Int) : Pt G (hset hp s (strm l a')) p off := by
  obtain ⟨q1, q2, cs, q3, q4⟩ := hp'
  have := h.forest.lo p 0 q1
  exact ⟨q1, q2, cs, by rw [hget_hset, if_neg (by omega)]; exact q3, q4⟩
theorem anExpr_walk (l : List Int) (s ro nx : Nat) (hp0 : Heap) (n1 n : Nat) (hl : l.length < 4611686018427387904) (hro : ro ≤ s) (hsn : s < nx) (a0 : Int) (hs0 : hget hp0 s = some (strm l a0)) (G : Kd) : ∀ (m p off : Nat) (tm : List Cell) (hp : Heap) (a : Int), G.rank p < m → tm.length = 90 → getC tm 0 = (.ptr s 0, false) → getC tm 2 = (.ptr nx 0, false) → getC tm 3 = (.ptr n1 0, false) → getC tm 4 = (.ptr p off, false) →
    0 ≤ a → a + 2 * m < 4611686018427387000 → AE l s nx hp0 n1 n hp a G → Pt G hp p off →
    ∃ tm' p' off' a', X K ⟨ro, [26]⟩ (.loop (LB Tryz.prog 9 [(5, [[], [], [], [3], [], [], [], [], [], [3], [3], [], []]), (18, [[], [], [], [], [4], [], [], [], [], [4], [], [], [], [], []])] 0)) ⟨tm, n, hp⟩ = some (.exit 0, ⟨tm', n, hset hp s (strm l a')⟩) ∧ tm'.length = 90 ∧ getC tm' 0 = (.ptr s 0, false) ∧ getC tm' 2 = (.ptr nx 0, false) ∧ getC tm' 3 = (.ptr n1 0, false) ∧ getC tm' 4 = (.ptr p' off', false) ∧ a ≤ a' ∧ a' ≤ a + 2 * m ∧ AE l s nx hp0 n1 n (hset hp s (strm l a')) a' G ∧ Pt G (hset hp s (strm l a')) p' off' := by
  have e := LB_open (P := Tryz.prog) [(5, [[], [], [], [3], [], [], [], [], [], [3], [3], [], []]), (18, [[], [], [], [], [4], [], [], [], [], [4], [], [], [], [], []])] 0 Tryz.func9 rfl rfl (by kernel_rfl)
  simp only [slim, slimO, annO, List.map, List.zip, List.zipWith, List.lookup, holed, loopsOf, List.nil_append, List.cons_append, List.getD_cons_zero, List.getD_cons_succ, Nat.reduceBEq] at e
  intro m
  induction m with
  | zero => intro p off tm hp a hm; omega
  | succ m ih =>
    intro p off tm hp a hm ht h0 h2 h3 h4 ha hb hA hp'
    rw [Y_loop_eq _ _ e]
    have hs := hA.gen.strm hs0 hsn
    obtain ⟨cs, o, nn, nm, v, f0, f1, f2, f3, hg, hlen, c0, c1, c2, c3, hv⟩ := pt_cells hA.forest hp'
    have hps : ¬ p = s := by have := hA.forest.lo p 0 hp'.1; omega
    have hF := flip_R l a 2 s ro n hp ⟨ha, by omega⟩ (by omega) hl hs hro
    have stay : ∀ a', AE l s nx hp0 n1 n (hset hp s (strm l a')) a' G ∧ Pt G (hset hp s (strm l a')) p off := fun a' => ⟨hA.next hs0 hsn a', hp'.1, hp'.2.1, cs, by rw [hget_hset, if_neg hps]; exact hg, hlen⟩
    have hx : cs[off + 3]? = some (v, false) ∨ cs[off + 3]? = some (v, true) := by cases f3 <;> simp [c3]
    generalize hX : X K _ _ _ = x
    rcases hv_row hv with rfl | ⟨id, mm, len, cs', rfl, hk, hr, hg', hl'⟩
    · have hx' : x = some (.exit 0, ⟨(((((((((tm.set 12 (.ptr p off, false)).set 13 (.ptr p off, false)).set 14 (.ptr p (off + 3), false)).set 15 (.lst [], false)).set 16 (.int .i64 0, false)).set 17 (.bool false, false)).set 18 (.bool false, false)).set 19 (.tup [], false)).set 20 (.tup [], false)).set 21 (.bool false, false), n, hp⟩) := by
        rw [← hX]
        rcases hx with hx | hx <;> simp [ht, h0, h2, h3, h4, hg, hx]
      subst hx'
      exact ⟨_, p, off, a, by rw [hset_self hs]; rfl, by simp [ht], by simp [h0], by simp [h2], by simp [h3], by simp [h4], by omega, by omega, stay a⟩
    · by_cases hz : (len : Int) = 0
      · have hx' : x = some (.exit 0, ⟨(((((((((tm.set 12 (.ptr p off, false)).set 13 (.ptr p off, false)).set 14 (.ptr p (off + 3), false)).set 15 (.sl id (mm * 4) len 4 true, false)).set 16 (.int .i64 len, false)).set 17 (.bool false, false)).set 18 (.bool false, false)).set 19 (.tup [], false)).set 20 (.tup [], false)).set 21 (.bool false, false), n, hp⟩) := by
          rw [← hX]
          rcases hx with hx | hx <;> simp [ht, h0, h2, h3, h4, hg, hx, hz]
        subst hx'
        exact ⟨_, p, off, a, by rw [hset_self hs]; rfl, by simp [ht], by simp [h0], by simp [h2], by simp [h3], by simp [h4], by omega, by omega, stay a⟩
      · have hpos : 0 < len := by omega
        have hs1 : hget (hset hp s (strm l (a + 1))) s = some (strm l (a + 1)) := by simp [hs]
        have hN := next_R l (a + 1) len s ro n (hset hp s (strm l (a + 1))) ⟨by omega, by omega⟩ (by have := hA.small id cs' hk hg'; omega) hl hs1 hro
        have hr2 := (nextF_range l (a + 1) len).1 (by omega)
        by_cases h1 : nextF l a 2 = 0
        · have hx' : ∃ tm', x = some (.normal, ⟨tm', n, hset hp s (strm l (a + 1 + 1))⟩) ∧ tm'.length = 90 ∧ getC tm' 0 = (.ptr s 0, false) ∧ getC tm' 2 = (.ptr nx 0, false) ∧ getC tm' 3 = (.ptr n1 0, false) ∧ getC tm' 4 = (.ptr id (mm * 4 + (nextF l (a + 1) len).toNat * 4), false) := by
            rw [← hX]
            rcases hx with hx | hx <;> simp [ht, h0, h2, h3, h4, hg, hx, hpos, hF, h1, hps, hN, hr2]
          obtain ⟨tm', rfl, q1, q2, q3, q4, q5⟩ := hx'
          rw [XK_normal]
          have hids : ¬ id = s := by have := hA.forest.lo id 0 hk; omega
          obtain ⟨tm2, p', off', a', w1, w2, w3, w4, w5, w6, w7, w8, w9⟩ := ih id (mm * 4 + (nextF l (a + 1) len).toNat * 4) tm' (hset hp s (strm l (a + 1 + 1))) (a + 1 + 1) (by omega) q1 q2 q3 q4 q5 (by omega) (by omega) (hA.next hs0 hsn _) ⟨hk, by omega, cs', by rw [hget_hset, if_neg hids]; exact hg', by omega⟩
          rw [hset_hset] at w1 w9
          exact ⟨tm2, p', off', a', w1, w2, w3, w4, w5, w6, by omega, by omega, w9⟩
        · have hx' : ∃ tm', x = some (.exit 0, ⟨tm', n, hset hp s (strm l (a + 1))⟩) ∧ tm'.length = 90 ∧ getC tm' 0 = (.ptr s 0, false) ∧ getC tm' 2 = (.ptr nx 0, false) ∧ getC tm' 3 = (.ptr n1 0, false) ∧ getC tm' 4 = (.ptr p off, false) := by
            rw [← hX]
            rcases hx with hx | hx <;> simp [ht, h0, h2, h3, h4, hg, hx, hpos, hF, h1]
          obtain ⟨tm', rfl, q1, q2, q3, q4, q5⟩ := hx'
          exact ⟨tm', p, off, a + 1, by rw [XK_exit], q1, q2, q3, q4, q5, by omega, by omega, stay (a + 1)⟩
/-- Cells of a record are written. -/
theorem AE.put {l : List Int} {s nx n1 n : Nat} {hp0 hp : Heap} {a : Int} {G : Kd} (h : AE l s nx hp0 n1 n hp a G) {p off : Nat} (hp' : Pt G hp p off) {cs : List Cell} (hg : hget hp p = some (.cells cs)) (cs' : List Cell) (hl : cs'.length = cs.length) (hc : ∀ (j : Nat) (c : Cell) t, cs'[j]? = some c → (exprT.of 0).cs[j % 4]? = some t → cs[j]? = some c ∨ Hv exprT G hp (G.rank p) t c.1) :
    AE l s nx hp0 n1 n (hset hp p (.cells cs')) a G ∧ Pt G (hset hp p (.cells cs')) p off := by
  have hlo := h.forest.lo p 0 hp'.1
  obtain ⟨r1, r2, csr, r3, r4⟩ := h.root
  refine ⟨⟨h.gen.set (by omega) _, h.forest.set hg cs' hl fun k _ => hc, ?_, fun id cs0 hk hc0 => ?_, fun cs0 hc0 => ?_, by rw [hget_hset, if_neg (by omega)]; exact h.ret⟩, ?_⟩
  · by_cases e : n1 = p
    · subst e
      rw [hg] at r3; cases r3
      exact ⟨r1, r2, cs', by rw [hget_hset, if_pos rfl, hg]; rfl, by omega⟩
    · exact ⟨r1, r2, csr, by rw [hget_hset, if_neg e]; exact r3, r4⟩
  · rw [hget_hset] at hc0
    split at hc0
    · rename_i e; subst e
      rw [hg] at hc0; cases hc0
      have := h.small id cs hk hg
      omega
    · exact h.small id cs0 hk hc0
  · rw [hget_hset] at hc0
    split at hc0
    · rename_i e; subst e
      rw [hg] at hc0; cases hc0
      have := h.four cs hg
      omega
    · exact h.four cs0 hc0
  · obtain ⟨q1, q2, cs0, q3, q4⟩ := hp'
    rw [hg] at q3; cases q3
    exact ⟨q1, q2, cs', by rw [hget_hset, if_pos rfl, hg]; rfl, by omega⟩
theorem AE.put1 {l : List Int} {s nx n1 n : Nat} {hp0 hp : Heap} {a : Int} {G : Kd} (h : AE l s nx hp0 n1 n hp a G) {p off : Nat} (hp' : Pt G hp p off) {cs : List Cell} (hg : hget hp p = some (.cells cs)) (i : Nat) (hi : i < 4) {t : CK} (ht : (exprT.of 0).cs[i]? = some t) {v : AVal} {f : Bool} (hv : Hv exprT G hp (G.rank p) t v) :
    AE l s nx hp0 n1 n (hset hp p (.cells (cs.set (off + i) (v, f)))) a G := by
  refine (h.put hp' hg _ (by simp) fun j c t' hj ht' => ?_).1
  rw [List.getElem?_set] at hj
  split at hj
  · rename_i e
    split at hj
    · cases hj
      have := hp'.2.1
      have e2 : j % 4 = i := by omega
      rw [e2, ht] at ht'; cases ht'
      exact .inr hv
    · cases hj
  · exact .inl hj
/-- The record goes into a new one, that takes its place. -/
theorem AE.wrap {l : List Int} {s nx n1 n : Nat} {hp0 hp : Heap} {a : Int} {G : Kd} (h : AE l s nx hp0 n1 n hp a G) {p off : Nat} (hp' : Pt G hp p off) {cs : List Cell} (hg : hget hp p = some (.cells cs)) {o nn : Int} {nm : ByteArray} {v : AVal} (hv : Hv exprT G hp (G.rank p) (.row 0) v) (op : Int) (f : Bool) :
    ∃ G', AE l s nx hp0 n1 (n + 1) ((n, .cells [(.int .i64 o, false), (.int .i64 nn, false), (.str nm, false), (v, false)]) :: hset hp p (.cells (setCs cs off [(.int .i64 op, false), (.int .i64 0, false), (.str ByteArray.empty, false), (.sl n 0 1 4 true, f)]))) a G' ∧
      Pt G' ((n, .cells [(.int .i64 o, false), (.int .i64 nn, false), (.str nm, false), (v, false)]) :: hset hp p (.cells (setCs cs off [(.int .i64 op, false), (.int .i64 0, false), (.str ByteArray.empty, false), (.sl n 0 1 4 true, f)]))) p off := by
  have hpn : p < n := h.gen.fresh.lt hg
  have hnn : hget hp n = none := by
    cases hx : hget hp n with
    | none => rfl
    | some b => have := h.gen.fresh.lt hx; omega
  have hlo := h.forest.lo p 0 hp'.1
  obtain ⟨r1, r2, csr, r3, r4⟩ := h.root
  have hrn : n1 < n := h.gen.fresh.lt r3
  have hret : nx < n := h.gen.fresh.lt h.ret
  let b : ABlk := .cells [(.int .i64 o, false), (.int .i64 nn, false), (.str nm, false), (v, false)]
  have F1 : Forest exprT (G.between n p 0) (nx + 1) ((n, b) :: hp) := h.forest.between (by omega) hnn (fun j c t hj ht => by
    have hj4 : j < 4 := (List.getElem?_eq_some_iff.1 hj).1
    have ht : (exprT.of 0).cs[j % 4]? = some t := ht
    rw [Nat.mod_eq_of_lt hj4] at ht
    match j with
    | 0 => cases hj; cases ht; exact .fr (Leaf.int _)
    | 1 => cases hj; cases ht; exact .fr (Leaf.int _)
    | 2 => cases hj; cases ht; exact .fr (Leaf.str _)
    | 3 => cases hj; cases ht; exact hv
    | j + 4 => omega)
  have kold : ∀ id, G.kind id 0 → id ≠ n → (G.between n p 0).kind id 0 := fun id hk hne => .inr ⟨hne, hk⟩
  have A1 : AE l s nx hp0 n1 (n + 1) ((n, b) :: hp) a (G.between n p 0) := by
    refine ⟨h.gen.push b, F1, ⟨kold n1 r1 (by omega), r2, csr, by rw [hget_cons, if_neg (by omega)]; exact r3, r4⟩, fun id cs0 hk hc0 => ?_, fun cs0 hc0 => h.four cs0 (by rwa [hget_cons, if_neg (by omega)] at hc0), by rw [hget_cons, if_neg (by omega)]; exact h.ret⟩
    rcases hk with ⟨rfl, _⟩ | ⟨hne, hk⟩
    · rw [hget_same] at hc0
      injection hc0 with e
      injection e with e
      rw [← e]; show 4 ≤ 100; decide
    · rw [hget_cons, if_neg hne] at hc0; exact h.small id cs0 hk hc0
  have hp1 : Pt (G.between n p 0) ((n, b) :: hp) p off := by
    obtain ⟨q1, q2, cs0, q3, q4⟩ := hp'
    exact ⟨kold p q1 (by omega), q2, cs0, by rw [hget_cons, if_neg (by omega)]; exact q3, q4⟩
  have hg1 : hget ((n, b) :: hp) p = some (.cells cs) := by rw [hget_cons, if_neg (by omega)]; exact hg
  have hrk : (G.between n p 0).rank p = 2 * G.rank p + 1 := if_neg (by omega)
  have hrn2 : (G.between n p 0).rank n = 2 * G.rank p := if_pos rfl
  have hsl : Hv exprT (G.between n p 0) ((n, b) :: hp) ((G.between n p 0).rank p) (.row 0) (.sl n 0 1 4 true) := by
    have := Hv.sl (T := exprT) (G := G.between n p 0) (hp := (n, b) :: hp) (r := (G.between n p 0).rank p) 0 n 0 1 _ (.inl ⟨rfl, rfl⟩) (by rw [hrk, hrn2]; omega) (hget_same _ _ _) (by show (0 + 1) * 4 ≤ 4; decide)
    exact this
  have := A1.put hp1 hg1 (setCs cs off [(.int .i64 op, false), (.int .i64 0, false), (.str ByteArray.empty, false), (.sl n 0 1 4 true, f)]) (setCs_len _ _ _) fun j c t hj ht => by
    rw [setCs_get] at hj
    split at hj
    · rename_i hin
      obtain ⟨i1, i2, i3⟩ := hin
      simp only [List.length_cons, List.length_nil] at i2
      have hm := hp'.2.1
      have e : j % 4 = j - off := by omega
      rw [e] at ht
      right
      generalize j - off = i at hj ht
      match i with
      | 0 => cases hj; cases ht; exact .fr (Leaf.int _)
      | 1 => cases hj; cases ht; exact .fr (Leaf.int _)
      | 2 => cases hj; cases ht; exact .fr (Leaf.str _)
      | 3 => cases hj; cases ht; exact hsl
      | i + 4 => simp at hj
    · exact .inl hj
  refine ⟨G.between n p 0, ?_⟩
  have e : hset ((n, b) :: hp) p (.cells (setCs cs off [(.int .i64 op, false), (.int .i64 0, false), (.str ByteArray.empty, false), (.sl n 0 1 4 true, f)])) = (n, b) :: hset hp p (.cells (setCs cs off [(.int .i64 op, false), (.int .i64 0, false), (.str ByteArray.empty, false), (.sl n 0 1 4 true, f)])) := by
    rw [hset_cons, if_neg (by omega)]
  rw [e] at this
  exact this
theorem cells4 {cs : List Cell} {off : Nat} {c0 c1 c2 c3 : Cell} (h0 : cs[off]? = some c0) (h1 : cs[off + 1]? = some c1) (h2 : cs[off + 2]? = some c2) (h3 : cs[off + 3]? = some c3) : ((cs.drop off).take 4).map (·.1) = [c0.1, c1.1, c2.1, c3.1] := by
  have g : ∀ i c, i < 4 → cs[off + i]? = some c → (((cs.drop off).take 4).map (·.1))[i]? = some c.1 := fun i c hi hc => by
    rw [List.getElem?_map, List.getElem?_take, if_pos hi, List.getElem?_drop, hc]; rfl
  have hlen : (((cs.drop off).take 4).map (·.1)).length = 4 := by
    have := (List.getElem?_eq_some_iff.1 h3).1
    simp; omega
  refine List.ext_getElem? fun i => ?_
  match i with
  | 0 => exact g 0 c0 (by omega) h0
  | 1 => exact g 1 c1 (by omega) h1
  | 2 => exact g 2 c2 (by omega) h2
  | 3 => exact g 3 c3 (by omega) h3
  | i + 4 => rw [List.getElem?_eq_none (by omega)]; rfl
theorem hv_one {T : Recs} {G : Kd} {hp : Heap} {r : Nat} {c : CK} {v : AVal} (h : Hv T G hp r c v) : v.one = true ∧ unS v = (v, false) := by
  cases h with
  | fr h => exact ⟨h.1.one, h.1.unS⟩
  | sl => exact ⟨rfl, rfl⟩
theorem anExpr_wrap (l : List Int) (s ro nx : Nat) (hp0 : Heap) (n1 : Nat) (hro : ro ≤ nx) (mm : Int) (hmm : mm ≤ 100) (p off : Nat) (a : Int) : ∀ (r : Nat) (k : Int) (tm : List Cell) (n : Nat) (hp : Heap) (G : Kd), 0 ≤ k → r + k = mm → tm.length = 90 → getC tm 2 = (.ptr nx 0, false) → getC tm 3 = (.ptr n1 0, false) → getC tm 4 = (.ptr p off, false) → getC tm 38 = (.int .i64 mm, false) → getC tm 39 = (.int .i64 k, false) →
    AE l s nx hp0 n1 n hp a G → Pt G hp p off →
    ∃ tm' n' hp' G', X K ⟨ro, [26]⟩ (.loop (LB Tryz.prog 9 [(5, [[], [], [], [3], [], [], [], [], [], [3], [3], [], []]), (18, [[], [], [], [], [4], [], [], [], [], [4], [], [], [], [], []])] 1)) ⟨tm, n, hp⟩ = some (.exit 3, ⟨tm', n', hp'⟩) ∧ tm'.length = 90 ∧ getC tm' 2 = (.ptr nx 0, false) ∧ getC tm' 3 = (.ptr n1 0, false) ∧ AE l s nx hp0 n1 n' hp' a G' := by
  have e := LB_open (P := Tryz.prog) [(5, [[], [], [], [3], [], [], [], [], [], [3], [3], [], []]), (18, [[], [], [], [], [4], [], [], [], [], [4], [], [], [], [], []])] 1 Tryz.func9 rfl rfl (by kernel_rfl)
  simp only [slim, slimO, annO, List.map, List.zip, List.zipWith, List.lookup, holed, loopsOf, List.nil_append, List.cons_append, List.getD_cons_zero, List.getD_cons_succ, Nat.reduceBEq] at e
  intro r
  induction r with
  | zero =>
    intro k tm n hp G hk0 hk ht h2 h3 h4 h38 h39 hA hP
    rw [Y_loop_eq _ _ e]
    have hk1 : ¬ k < mm := by omega
    generalize hX : X K _ _ _ = x
    simp [ht, h38, h39, hk1] at hX
    subst hX
    exact ⟨_, n, hp, G, rfl, by simp [ht], by simp [h2], by simp [h3], hA⟩
  | succ r ih =>
    intro k tm n hp G hk0 hk ht h2 h3 h4 h38 h39 hA hP
    rw [Y_loop_eq _ _ e]
    have hk1 : k < mm := by omega
    have hw : IntKind.i64.wrap (k + 1) = k + 1 := wrap_small (by omega) (by omega)
    obtain ⟨cs, o, nn, nm, v, f0, f1, f2, f3, hg, hlen, c0, c1, c2, c3, hv⟩ := pt_cells hA.forest hP
    have h4c := cells4 c0 c1 c2 c3
    simp only [List.map_take, List.map_drop] at h4c
    have hpn : ¬ p = n := by have := hA.gen.fresh.lt hg; omega
    have hrop : ro ≤ p := by have := hA.forest.lo p 0 hP.1; omega
    obtain ⟨G', hA', hP'⟩ := hA.wrap hP hg hv 8 false (o := o) (nn := nn) (nm := nm)
    have h1 := hv_one hv
    generalize hX : X K _ _ _ = x
    simp [ht, h2, h3, h4, h38, h39, hk1, hw, hg, hlen, h4c, hpn, hrop, h1.1, h1.2] at hX
    subst hX
    rw [XK_normal]
    exact ih (k + 1) _ (n + 1) _ G' (by omega) (by omega) (by simp [ht]) (by simp [h2]) (by simp [h3]) (by simp [h4]) (by simp [h38]) (by simp [ht]) hA' hP'
end Go.Proofs.YtleimfinniclgaaGreatDoor.M
/- AnExpr gives an expression. -/
namespace Go.Proofs.YtleimfinniclgaaGreatDoor.M
open Go.Proofs Go.Proofs.YtleimfinniclgaaGreatDoor.X
set_option linter.unusedSimpArgs false
set_option linter.unusedVariables false
set_option maxRecDepth 100000
set_option pp.deepTerms false
set_option pp.deepTerms.threshold 6
set_option maxHeartbeats 4000000
theorem pickF_mem (l : List Int) (a : Int) (ls : List Int) (h : 1 ≤ ls.length) : pickF l a ls ∈ ls := by
  unfold pickF
  have hr := (nextF_range l a ls.length).1 (by omega)
  rw [List.getD_eq_getElem?_getD, List.getElem?_eq_getElem (show (nextF l a ls.length).toNat < ls.length by omega)]
  exact List.getElem_mem _
theorem Forest.lower {T : Recs} {G : Kd} {lo lo' : Nat} {hp : Heap} (F : Forest T G lo hp) (h : lo' ≤ lo) : Forest T G lo' hp := ⟨fun id k hk => Nat.le_trans h (F.lo id k hk), F.cells⟩
theorem AE.done {l : List Int} {s nx n1 n : Nat} {hp0 hp : Heap} {a : Int} {G : Kd} (h : AE l s nx hp0 n1 n hp a G) (hb : Base nx hp0) :
    ∃ o nn nm v f0 f1 f2 f3, hget hp n1 = some (.cells [(.int .i64 o, f0), (.int .i64 nn, f1), (.str nm, f2), (v, f3)]) ∧ v.one = true ∧ unS v = (v, false) ∧ ∀ cs', ∃ x, Tidied nx (some ⟨.agg [.int .i64 o, .int .i64 nn, .str nm, v], false, n, hset hp nx (.cells cs')⟩) = some ⟨encX x, false, nx, hset hp0 s (strm l a)⟩ := by
  obtain ⟨cs, o, nn, nm, v, f0, f1, f2, f3, hg, hlen, c0, c1, c2, c3, hv⟩ := pt_cells h.forest h.root
  have h4 := h.four cs hg
  have hcs : cs = [(.int .i64 o, f0), (.int .i64 nn, f1), (.str nm, f2), (v, f3)] := by
    refine List.ext_getElem? fun i => ?_
    match i with
    | 0 => exact c0
    | 1 => exact c1
    | 2 => exact c2
    | 3 => exact c3
    | i + 4 => rw [List.getElem?_eq_none (by omega)]; rfl
  subst hcs
  have h1 := hv_one hv
  have key : ∀ cs', ∃ us, FZ nx (hset hp nx (.cells cs')) (.agg [.int .i64 o, .int .i64 nn, .str nm, v]) = some (.agg us) ∧ us.length = 4 ∧ ∀ (i : Nat) u t, us[i]? = some u → (exprT.of 0).cs[i]? = some t → Fr exprT t u := fun cs' => by
    have hne : ∀ id k, G.kind id k → id ≠ nx := fun id k hk => by have := h.forest.lo id k hk; omega
    have F : Forest exprT G nx (hset hp nx (.cells cs')) := (h.forest.move fun id k hk => by rw [hget_hset, if_neg (hne id k hk)]).lower (Nat.le_succ nx)
    refine agg_FZ F (G.rank n1) _ _ rfl fun i c t hc ht => ?_
    match i with
    | 0 => cases hc; cases ht; exact .fr (Leaf.int _)
    | 1 => cases hc; cases ht; exact .fr (Leaf.int _)
    | 2 => cases hc; cases ht; exact .fr (Leaf.str _)
    | 3 => cases hc; cases ht; exact hv.move fun id k cs q1 q2 q3 => ⟨q1, q2, cs, by rw [hget_hset, if_neg (hne id k q1)]; exact q3, Nat.le_refl _⟩
    | i + 4 => simp at hc
  have fin : ∀ us, us.length = 4 → (∀ (i : Nat) u t, us[i]? = some u → (exprT.of 0).cs[i]? = some t → Fr exprT t u) → ∃ x, AVal.agg us = encX x := by
    intro us hl hu
    have at_ : ∀ i t, i < 4 → (exprT.of 0).cs[i]? = some t → ∃ u, us[i]? = some u ∧ Fr exprT t u := fun i t hi ht => by
      have hc : us[i]? = some (us[i]'(by omega)) := List.getElem?_eq_getElem (by omega)
      exact ⟨_, hc, hu i _ t hc ht⟩
    obtain ⟨u0, e0, h0⟩ := at_ 0 .int (by omega) rfl
    obtain ⟨u1, e1, h1⟩ := at_ 1 .int (by omega) rfl
    obtain ⟨u2, e2, h2⟩ := at_ 2 .str (by omega) rfl
    obtain ⟨u3, e3, h3⟩ := at_ 3 (.row 0) (by omega) rfl
    obtain ⟨l, rfl⟩ := fr_row h3 0 rfl
    obtain ⟨o, rfl⟩ := fr_int h0
    obtain ⟨n, rfl⟩ := fr_int h1
    obtain ⟨s, rfl⟩ := fr_str h2
    refine ⟨.mk o n s l, ?_⟩
    rw [encX]
    congr 1
    refine List.ext_getElem? fun i => ?_
    match i with
    | 0 => exact e0
    | 1 => exact e1
    | 2 => exact e2
    | 3 => exact e3
    | i + 4 => rw [List.getElem?_eq_none (by omega)]; rfl
  refine ⟨o, nn, nm, v, f0, f1, f2, f3, hg, h1.1, h1.2, fun cs' => ?_⟩
  obtain ⟨us, q1, q2, q3⟩ := key cs'
  obtain ⟨x, hx⟩ := fin us q2 q3
  refine ⟨x, ?_⟩
  have hlow : hlow nx (hset hp nx (.cells cs')) = hset hp0 s (strm l a) := by rw [hlow_hset' _ _ _ _ (Nat.le_refl nx), h.gen.low]
  have hcl : hclean nx (hset hp nx (.cells cs')) = true := by rw [← hclean_hlow, hlow]; exact (hb.set l a).2
  simp only [Tidied, q1, hx, encX_ids, hcl, Bool.and_true, if_true, slOwn, hlow, Bool.false_and]
theorem anExpr_R (l : List Int) (a : Int) (s ro nx : Nat) (hp : Heap) (ha : 0 ≤ a) (hb : a + 100000 < 4611686018427387000) (hl : l.length < 4611686018427387904) (hs : hget hp s = some (strm l a)) (hro : ro ≤ s) (hB : Base nx hp) :
    ∃ x a', R K 9 [.ptr s 0] ro nx hp = some ⟨encX x, false, nx, hset hp s (strm l a')⟩ ∧ a ≤ a' ∧ a' ≤ a + 100000 := by
  have hf : Fresh nx hp := hB.1
  have hsn := hf.lt hs
  have hne : ¬ s = nx := by omega
  have hro1 : ro ≤ nx := by omega
  have hs1 : hget ((nx, ABlk.cells [(.int .i64 0, false), (.int .i64 0, false), (.str ByteArray.empty, false), (.lst [], true)]) :: hp) s = some (strm l a) := by simp [hne, hs]
  have hP := pick_R l a [1, 2, 3, 4] s ro (nx + 1) _ ⟨ha, by omega⟩ (by simp) hl hs1 hro
  have hPm := pickF_mem l a [1, 2, 3, 4] (by simp)
  obtain ⟨d, hd, hd4⟩ : ∃ d : Nat, pickF l a [1, 2, 3, 4] = d ∧ d ≤ 4 := by
    refine ⟨(pickF l a [1, 2, 3, 4]).toNat, ?_, ?_⟩ <;> simp at hPm <;> omega
  rw [hd] at hP
  simp only [ints', List.map_cons, List.map_nil] at hP
  have hs2 : hget ((nx, ABlk.cells [(.int .i64 0, false), (.int .i64 0, false), (.str ByteArray.empty, false), (.lst [], true)]) :: hset hp s (strm l (a + 1))) s = some (strm l (a + 1)) := by simp [hne, hs]
  have hG1 := ((Gen.start hf hs).next hsn (a + 1)).push (ABlk.cells [(.int .i64 0, false), (.int .i64 0, false), (.str ByteArray.empty, false), (.lst [], true)])
  have htb : treeB d ≤ 500 := by
    match d, hd4 with
    | 0, _ => decide
    | 1, _ => decide
    | 2, _ => decide
    | 3, _ => decide
    | 4, _ => decide
  have hbb : blkB d ≤ 1000 := by
    match d, hd4 with
    | 0, _ => decide
    | 1, _ => decide
    | 2, _ => decide
    | 3, _ => decide
    | 4, _ => decide
  obtain ⟨op, n0, nm, av, n1, hp1, a1, hR, hG2, ha1, ha2, hT, hnb⟩ := tree_R l s ro hl hro d (by omega) (a + 1) (nx + 1) _ (by omega) (by omega) hs2 hG1.fresh
  have hle := hG2.le
  have hnn : hget hp1 n1 = none := by
    cases hx : hget hp1 n1 with
    | none => rfl
    | some b => have := hG2.fresh.lt hx; omega
  have hT1 := hT.one
  have hTu := hT.unS
  have hrt := (hG2.old (j := nx) (by omega) (by omega)).trans (hget_same nx _ _)
  have hA : AE l s nx hp n1 (n1 + 1) ((n1, .cells [(.int .i64 op, false), (.int .i64 n0, false), (.str nm, false), (av, false)]) :: hp1) a1 (Kd.age exprT ((n1, .cells [(.int .i64 op, false), (.int .i64 n0, false), (.str nm, false), (av, false)]) :: hp1) (nx + 1)) := by
    refine ⟨(hG1.trans hG2).push _, age_forest _ _ _, ⟨⟨hle, _, hget_same _ _ _, by show 4 ≤ 100; decide, fun j c t hj ht => ?_⟩, rfl, _, hget_same _ _ _, by show 0 + 4 ≤ 4; decide⟩, fun id cs hk hc => ?_, fun cs hc => ?_, by rw [hget_cons, if_neg (by omega)]; exact hrt⟩
    · have hj4 : j < 4 := (List.getElem?_eq_some_iff.1 hj).1
      have ht : (exprT.of 0).cs[j % 4]? = some t := ht
      rw [Nat.mod_eq_of_lt hj4] at ht
      match j with
      | 0 => cases hj; cases ht; exact .fr (Leaf.int _)
      | 1 => cases hj; cases ht; exact .fr (Leaf.int _)
      | 2 => cases hj; cases ht; exact .fr (Leaf.str _)
      | 3 => cases hj; cases ht; exact hT.keep (Nat.le_refl _) (Nat.le_refl _) fun i hi1 hi2 => by rw [hget_cons, if_neg (by omega)]
      | j + 4 => omega
    · obtain ⟨_, cs', q1, q2, _⟩ := hk
      rw [hc] at q1; cases q1; exact q2
    · rw [hget_same] at hc
      injection hc with e; injection e with e; rw [← e]; rfl
  have hne2 : ¬ s = n1 := by omega
  have hs3 : hget ((n1, ABlk.cells [(.int .i64 op, false), (.int .i64 n0, false), (.str nm, false), (av, false)]) :: hp1) s = some (strm l a1) := by rw [hget_cons, if_neg (by omega)]; exact hG2.strm hs2 (by omega)
  have hF := flip_R l a1 12 s ro (n1 + 1) _ ⟨by omega, by omega⟩ (by omega) hl hs3 hro
  have hro2 : ro ≤ n1 := by omega
  have hne3 : ¬ nx = n1 := by omega
  have hne4 : ¬ nx = s := by omega
  generalize hX : R K _ _ _ _ _ = x
  rw [R_tidy' K ro 9 _ nx hp [(5, [[], [], [], [3], [], [], [], [], [], [3], [3], [], []]), (18, [[], [], [], [], [4], [], [], [], [], [4], [], [], [], [], []])] Tryz.func9 rfl Tryz.ntmps9 Tryz.results9 (mu := [26]) rfl (by kernel_rfl) rfl rfl rfl] at hX; simp only [slim, slimO, annO, List.map, List.zip, List.zipWith, List.lookup, holed, Nat.reduceBEq] at hX
  simp [List.replicate, hP, hne, hR, hT1, hTu, hro1, hro2, hF, hne2, hne3] at hX
  by_cases h0 : nextF l a1 12 = 0
  · have hA2 := hA.next hs hsn (a1 + 1)
    rw [hset_cons, if_neg hne2] at hA2
    simp [h0] at hX
    generalize hb' : X K _ (.loop _) _ = r at hX
    have hk : ∃ tm' p' off' a', r = some (.exit 0, ⟨tm', n1 + 1, hset ((n1, ABlk.cells [(.int .i64 op, false), (.int .i64 n0, false), (.str nm, false), (av, false)]) :: hset hp1 s (strm l (a1 + 1))) s (strm l a')⟩) ∧ tm'.length = 90 ∧ getC tm' 0 = (.ptr s 0, false) ∧ getC tm' 2 = (.ptr nx 0, false) ∧ getC tm' 3 = (.ptr n1 0, false) ∧ getC tm' 4 = (.ptr p' off', false) ∧ a1 + 1 ≤ a' ∧ a' ≤ a1 + 1 + 2 * (n1 - nx + 1 : Nat) ∧
        AE l s nx hp n1 (n1 + 1) (hset ((n1, ABlk.cells [(.int .i64 op, false), (.int .i64 n0, false), (.str nm, false), (av, false)]) :: hset hp1 s (strm l (a1 + 1))) s (strm l a')) a' (Kd.age exprT ((n1, .cells [(.int .i64 op, false), (.int .i64 n0, false), (.str nm, false), (av, false)]) :: hp1) (nx + 1)) ∧ Pt (Kd.age exprT ((n1, .cells [(.int .i64 op, false), (.int .i64 n0, false), (.str nm, false), (av, false)]) :: hp1) (nx + 1)) (hset ((n1, ABlk.cells [(.int .i64 op, false), (.int .i64 n0, false), (.str nm, false), (av, false)]) :: hset hp1 s (strm l (a1 + 1))) s (strm l a')) p' off' := by
      rw [← hb']
      refine anExpr_walk l s ro nx hp n1 (n1 + 1) hl hro hsn a hs _ (n1 - nx + 1) n1 0 _ _ (a1 + 1) ?_ ?_ ?_ ?_ ?_ ?_ ?_ ?_ hA2 hA2.root
      · show n1 - (nx + 1) < _; omega
      all_goals first | omega | simp
    obtain ⟨tm', p', off', a2, rfl, t1, t2, t3, t4, t5, t6, t7, hA3, hp3⟩ := hk
    generalize hset ((n1, ABlk.cells [(.int .i64 op, false), (.int .i64 n0, false), (.str nm, false), (av, false)]) :: hset hp1 s (strm l (a1 + 1))) s (strm l a2) = h3 at *
    clear hb' hF hs3 hA2 hrt hT hA
    generalize Kd.age exprT _ _ = G at *
    have hs4 := hA3.gen.strm hs hsn
    have hN := next_R l a2 5 s ro (n1 + 1) h3 ⟨by omega, by omega⟩ (by omega) hl hs4 hro
    have hr5 := (nextF_range l a2 5).1 (by omega)
    simp [t1, t2, t3, t4, t5, hN] at hX
    have hpl := hA3.forest.lo p' 0 hp3.1
    have hps : ¬ p' = s := by omega
    have hpx : ¬ p' = nx := by omega
    have hxp : ¬ nx = p' := by omega
    have hns : ¬ n1 = s := by omega
    have hrop : ro ≤ p' := by omega
    have hs5 : hget (hset h3 s (strm l (a2 + 1))) s = some (strm l (a2 + 1)) := by simp [hs4]
    have hret3 := hA3.ret
    have lens : ∀ cs : List Cell, off' + 4 ≤ cs.length → off' + 1 ≤ cs.length ∧ off' + 1 + 1 ≤ cs.length ∧ off' + 2 + 1 ≤ cs.length ∧ off' + 3 + 1 ≤ cs.length := fun cs h => by omega
    by_cases c0 : nextF l a2 5 = 0
    · have hO := odd_R l (a2 + 1) 1 9 s ro (n1 + 1) _ ⟨by omega, by omega⟩ (by omega) (by omega) (by omega) hl hs5 hro
      rw [hset_hset, show a2 + 1 + 2 = a2 + 3 by omega] at hO
      have hA5 := hA3.next hs hsn (a2 + 3)
      have hp5 := hp3.next hA3 hsn (a2 + 3)
      obtain ⟨cs, o, nn, nm', v, f0, f1, f2, f3, hg, hlen, _, _, _, e3, hv⟩ := pt_cells hA5.forest hp5
      have hg' : hget h3 p' = some (.cells cs) := by simpa [hps] using hg
      have hA6 := hA5.put1 hp5 hg 0 (by omega) (t := .int) rfl (v := .int .i64 (oddF l (a2 + 1) 1 9).1) (f := false) (.fr (Leaf.int _))
      obtain ⟨o, nn, nm', v, g0, g1, g2, g3, w1, w2, w3, w4⟩ := hA6.done hB
      try simp only [Nat.add_zero] at w1 w4
      simp [c0, hO, hg', t1, t2, t3, t4, t5, hps, hpx, hxp, lens cs hlen, hrop, hret3, hne4, hro1, ↓w1, w2, w3] at hX
      obtain ⟨x', hx'⟩ := w4 [(.int .i64 o, false), (.int .i64 nn, false), (.str nm', false), (v, false)]
      subst hX
      exact ⟨x', a2 + 3, hx', by omega, by omega⟩
    by_cases c1 : nextF l a2 5 = 1
    · have hO := odd_R l (a2 + 1) 0 999 s ro (n1 + 1) _ ⟨by omega, by omega⟩ (by omega) (by omega) (by omega) hl hs5 hro
      rw [hset_hset, show a2 + 1 + 2 = a2 + 3 by omega] at hO
      have hA5 := hA3.next hs hsn (a2 + 3)
      have hp5 := hp3.next hA3 hsn (a2 + 3)
      obtain ⟨cs, o, nn, nm', v, f0, f1, f2, f3, hg, hlen, _, _, _, e3, hv⟩ := pt_cells hA5.forest hp5
      have hg' : hget h3 p' = some (.cells cs) := by simpa [hps] using hg
      have hA6 := hA5.put1 hp5 hg 1 (by omega) (t := .int) rfl (v := .int .i64 (oddF l (a2 + 1) 0 999).1) (f := false) (.fr (Leaf.int _))
      obtain ⟨o, nn, nm', v, g0, g1, g2, g3, w1, w2, w3, w4⟩ := hA6.done hB
      try simp only [Nat.add_zero] at w1 w4
      simp [c0, c1, hO, hg', t1, t2, t3, t4, t5, hps, hpx, hxp, lens cs hlen, hrop, hret3, hne4, hro1, ↓w1, w2, w3] at hX
      obtain ⟨x', hx'⟩ := w4 [(.int .i64 o, false), (.int .i64 nn, false), (.str nm', false), (v, false)]
      subst hX
      exact ⟨x', a2 + 3, hx', by omega, by omega⟩
    by_cases c2 : nextF l a2 5 = 2
    · obtain ⟨r40, h40⟩ := repeat_R ⟨#[97]⟩ 40 (by decide) ro (n1 + 1) (hset h3 s (strm l (a2 + 1)))
      obtain ⟨r41, h41⟩ := repeat_R ⟨#[97]⟩ 41 (by decide) ro (n1 + 1) (hset h3 s (strm l (a2 + 1)))
      have hO := some_R l (a2 + 1) [⟨#[]⟩, ⟨#[105, 102]⟩, ⟨#[120]⟩, ⟨#[65]⟩, r40, r41] s ro (n1 + 1) _ ⟨by omega, by omega⟩ (by simp) hl hs5 hro
      rw [hset_hset, show a2 + 1 + 1 = a2 + 2 by omega] at hO
      simp only [strs, List.map_cons, List.map_nil] at hO
      generalize hsm : someF l (a2 + 1) _ = sm at hO
      have hA5 := hA3.next hs hsn (a2 + 2)
      have hp5 := hp3.next hA3 hsn (a2 + 2)
      obtain ⟨cs, o, nn, nm', v, f0, f1, f2, f3, hg, hlen, _, _, _, e3, hv⟩ := pt_cells hA5.forest hp5
      have hg' : hget h3 p' = some (.cells cs) := by simpa [hps] using hg
      have hA6 := hA5.put1 hp5 hg 2 (by omega) (t := .str) rfl (v := .str sm) (f := false) (.fr (Leaf.str _))
      obtain ⟨o, nn, nm', v, g0, g1, g2, g3, w1, w2, w3, w4⟩ := hA6.done hB
      try simp only [Nat.add_zero] at w1 w4
      simp [c0, c1, c2, h40, h41, hO, hg', t1, t2, t3, t4, t5, hps, hpx, hxp, lens cs hlen, hrop, hret3, hne4, hro1, ↓w1, w2, w3] at hX
      obtain ⟨x', hx'⟩ := w4 [(.int .i64 o, false), (.int .i64 nn, false), (.str nm', false), (v, false)]
      subst hX
      exact ⟨x', a2 + 2, hx', by omega, by omega⟩
    by_cases c3 : nextF l a2 5 = 3
    · have hA5 := hA3.next hs hsn (a2 + 1)
      have hp5 := hp3.next hA3 hsn (a2 + 1)
      obtain ⟨cs, o, nn, nm', v, f0, f1, f2, f3, hg, hlen, _, _, _, e3, hv⟩ := pt_cells hA5.forest hp5
      have hg' : hget h3 p' = some (.cells cs) := by simpa [hps] using hg
      have he3 : cs[off' + 3]? = some (v, false) ∨ cs[off' + 3]? = some (v, true) := by cases f3 <;> simp [e3]
      rcases hv_row hv with rfl | ⟨id, m, len, cs', rfl, hk, hr, hgc, hlc⟩
      · have hA6 := hA5.put1 hp5 hg 3 (by omega) (t := .row 0) rfl (v := .lst []) (f := false) (.fr (Leaf.nil 0))
        obtain ⟨o, nn, nm', v, g0, g1, g2, g3, w1, w2, w3, w4⟩ := hA6.done hB
        have hw : IntKind.i64.wrap 0 = 0 := by decide
        obtain ⟨x', hx'⟩ := w4 [(.int .i64 o, false), (.int .i64 nn, false), (.str nm', false), (v, false)]
        refine ⟨x', a2 + 1, ?_, by omega, by omega⟩
        rw [← hX, ← hx']
        rcases he3 with he3 | he3 <;> simp [c0, c1, c2, c3, hg', he3, hw, t1, t2, t3, t4, t5, hps, hpx, hxp, lens cs hlen, hrop, hret3, hne4, hro1, ↓w1, w2, w3]
      · have hl100 := hA5.small id cs' hk hgc
        obtain ⟨q, hw, hle2⟩ : ∃ q : Nat, IntKind.i64.wrap ((len : Int) / 2) = q ∧ q ≤ len := ⟨len / 2, by
          have hq : (len : Int) / 2 = ((len / 2 : Nat) : Int) := by omega
          rw [hq]; exact wrap_small (by omega) (by omega), by omega⟩
        have hA6 := hA5.put1 hp5 hg 3 (by omega) (t := .row 0) rfl (v := .sl id (m * 4) q 4 true) (f := false) (.sl 0 id m q cs' hk hr hgc (by show (m + q) * 4 ≤ _; omega))
        obtain ⟨o, nn, nm', v, g0, g1, g2, g3, w1, w2, w3, w4⟩ := hA6.done hB
        obtain ⟨x', hx'⟩ := w4 [(.int .i64 o, false), (.int .i64 nn, false), (.str nm', false), (v, false)]
        refine ⟨x', a2 + 1, ?_, by omega, by omega⟩
        rw [← hX, ← hx']
        rcases he3 with he3 | he3 <;> simp [c0, c1, c2, c3, hg', he3, hw, hle2, t1, t2, t3, t4, t5, hps, hpx, hxp, lens cs hlen, hrop, hret3, hne4, hro1, ↓w1, w2, w3]
    · have hRg := range_R l (a2 + 1) 1 4 s ro (n1 + 1) _ ⟨by omega, by omega⟩ (by omega) (by omega) (by omega) hl hs5 hro
      rw [hset_hset, show a2 + 1 + 1 = a2 + 2 by omega] at hRg
      have hrr := (nextF_range l (a2 + 1) (4 - 1 + 1)).1 (by omega)
      generalize hw0 : 1 + nextF l (a2 + 1) (4 - 1 + 1) = w at hRg
      have hA5 := hA3.next hs hsn (a2 + 2)
      have hp5 := hp3.next hA3 hsn (a2 + 2)
      have hw : IntKind.i64.wrap (20 - w) = 20 - w := wrap_small (by omega) (by omega)
      simp [c0, c1, c2, c3, hRg, hw, t1, t2, t3, t4, t5] at hX
      generalize hb2 : X K _ (.loop _) _ = r at hX
      have hk : ∃ tm' n' hp' G', r = some (.exit 3, ⟨tm', n', hp'⟩) ∧ tm'.length = 90 ∧ getC tm' 2 = (.ptr nx 0, false) ∧ getC tm' 3 = (.ptr n1 0, false) ∧ AE l s nx hp n1 n' hp' (a2 + 2) G' := by
        rw [← hb2]
        refine anExpr_wrap l s ro nx hp n1 hro1 (20 - w) (by omega) p' off' (a2 + 2) (20 - w).toNat 0 _ _ _ G (by omega) (by omega) ?_ ?_ ?_ ?_ ?_ ?_ hA5 hp5
        all_goals simp [t1, t3, t4, t5]
      obtain ⟨tm2, n2, hp2, G2, rfl, u1, u2, u3, hA6⟩ := hk
      obtain ⟨o, nn, nm', v, g0, g1, g2, g3, w1, w2, w3, w4⟩ := hA6.done hB
      obtain ⟨x', hx'⟩ := w4 [(.int .i64 o, false), (.int .i64 nn, false), (.str nm', false), (v, false)]
      refine ⟨x', a2 + 2, ?_, by omega, by omega⟩
      have hret2 := hA6.ret
      rw [← hX, ← hx']
      simp [u1, u2, u3, hret2, hro1, w1, w2, w3]
  · have hA2 := hA.next hs hsn (a1 + 1)
    obtain ⟨o, nn, nm', v, f0, f1, f2, f3, w1, w2, w3, w4⟩ := hA2.done hB
    rw [hset_cons, if_neg hne2] at w1 w4
    simp [h0, w1, w2, w3, hne3, hne4, hrt, hro1] at hX
    obtain ⟨x', hx'⟩ := w4 [(.int .i64 o, false), (.int .i64 nn, false), (.str nm', false), (v, false)]
    simp [hne3, hset_cons] at hx'
    subst hX
    exact ⟨x', a1 + 1, hx', by omega, by omega⟩
end Go.Proofs.YtleimfinniclgaaGreatDoor.M
/- A loop by its invariant. -/
namespace Go.Proofs.YtleimfinniclgaaGreatDoor.M
/-- A loop of n rounds at most: what holds at its head, what it comes to. -/
theorem rounds {K : Cfg} {ro : Md} {L b : Code} (e : L = b) (n : Nat) (I : Nat → List Cell → Nat → Heap → Prop) (Post : Option (AExit × St) → Prop)
    (done : ∀ tm nx hp r, I n tm nx hp → X K ro b ⟨tm, nx, hp⟩ = r → ∃ x s, r = some (x, s) ∧ x ≠ .normal ∧ Post r)
    (step : ∀ k tm nx hp r, k < n → I k tm nx hp → X K ro b ⟨tm, nx, hp⟩ = r → (∃ tm' nx' hp', r = some (.normal, ⟨tm', nx', hp'⟩) ∧ I (k + 1) tm' nx' hp') ∨ ∃ x s, r = some (x, s) ∧ x ≠ .normal ∧ Post r) :
    ∀ k tm nx hp, k ≤ n → I k tm nx hp → Post (X K ro (.loop L) ⟨tm, nx, hp⟩) := by
  have key : ∀ m k tm nx hp, k + m = n → I k tm nx hp → Post (X K ro (.loop L) ⟨tm, nx, hp⟩) := by
    intro m
    induction m with
    | zero =>
      intro k tm nx hp hk hI
      obtain rfl : k = n := by omega
      rw [Y_loop_eq _ _ e]
      obtain ⟨x, s, h1, h2, h3⟩ := done _ _ _ _ hI rfl
      rw [h1] at h3 ⊢
      cases x with
      | normal => exact absurd rfl h2
      | ret => rw [XK_ret]; exact h3
      | exit j => rw [XK_exit]; exact h3
    | succ m ih =>
      intro k tm nx hp hk hI
      rw [Y_loop_eq _ _ e]
      rcases step k _ _ _ _ (by omega) hI rfl with ⟨tm', nx', hp', h1, h2⟩ | ⟨x, s, h1, h2, h3⟩
      · rw [h1, XK_normal]; exact ih (k + 1) _ _ _ (by omega) h2
      · rw [h1] at h3 ⊢
        cases x with
        | normal => exact absurd rfl h2
        | ret => rw [XK_ret]; exact h3
        | exit j => rw [XK_exit]; exact h3
  exact fun k tm nx hp hk hI => key (n - k) k tm nx hp (by omega) hI
end Go.Proofs.YtleimfinniclgaaGreatDoor.M
/- exprFault, as the program has it and as the reference has it. -/
namespace Go.Proofs.YtleimfinniclgaaGreatDoor.M
open Go.Proofs Go.Proofs.YtleimfinniclgaaGreatDoor.X
set_option linter.unusedSimpArgs false
set_option linter.unusedVariables false
set_option maxRecDepth 100000
set_option pp.deepTerms false
set_option pp.deepTerms.threshold 6
set_option maxHeartbeats 4000000
def outside (x lo hi : Int) : Bool := decide (x < lo) || decide (x > hi)
@[simp] theorem outside_R (x lo hi : Int) (ro nx : Nat) (hp : Heap) : R K 89 [.int .i64 x, .int .i64 lo, .int .i64 hi] ro nx hp = some ⟨.bool (outside x lo hi), false, nx, hp⟩ := by
  rw [R_val' K ro 89 _ nx hp [] Tryz.func89 rfl Tryz.ntmps89 Tryz.results89 (mu := []) rfl (by kernel_rfl) rfl rfl]; simp only [slim, slimO, annO, List.map, List.zip, List.zipWith, List.lookup, holed, Nat.reduceBEq]
  by_cases h1 : x < lo
  all_goals
    simp [List.replicate, h1, outside]
def within (x lo hi : Int) : Bool := decide (lo ≤ x) && decide (x ≤ hi)
theorem within_not (x lo hi : Int) : within x lo hi = !outside x lo hi := by
  unfold within outside
  by_cases h1 : x < lo
  · have h2 : ¬ lo ≤ x := by omega
    simp [h1, h2]
  · by_cases h2 : x > hi
    · have h3 : ¬ x ≤ hi := by omega
      simp [h2, h3]
    · simp [h1, h2, show lo ≤ x by omega, show x ≤ hi by omega]
@[simp] theorem in2_R (x lo hi : Int) (ro nx : Nat) (hp : Heap) : R K 79 [.int .i64 x, .int .i64 lo, .int .i64 hi] ro nx hp = some ⟨.bool (within x lo hi), false, nx, hp⟩ := by
  rw [R_val' K ro 79 _ nx hp [] Tryz.func79 rfl Tryz.ntmps79 Tryz.results79 (mu := []) rfl (by kernel_rfl) rfl rfl]; simp only [slim, slimO, annO, List.map, List.zip, List.zipWith, List.lookup, holed, Nat.reduceBEq]
  by_cases h1 : lo ≤ x
  all_goals
    simp [List.replicate, h1, within]
@[simp] theorem in1_R (x lo hi : Int) (ro nx : Nat) (hp : Heap) : R K 138 [.int .i64 x, .int .i64 lo, .int .i64 hi] ro nx hp = some ⟨.bool (within x lo hi), false, nx, hp⟩ := by
  rw [R_val' K ro 138 _ nx hp [] Tryz.func138 rfl Tryz.ntmps138 Tryz.results138 (mu := []) rfl (by kernel_rfl) rfl rfl]; simp only [slim, slimO, annO, List.map, List.zip, List.zipWith, List.lookup, holed, Nat.reduceBEq]
  by_cases h1 : lo ≤ x
  all_goals
    simp [List.replicate, h1, within]
@[simp] theorem arity_R (op : Int) (ro nx : Nat) (hp : Heap) : R K 98 [.int .i64 op] ro nx hp = some ⟨.int .i64 (arityF op), false, nx, hp⟩ := by
  rw [R_val' K ro 98 _ nx hp [] Tryz.func98 rfl Tryz.ntmps98 Tryz.results98 (mu := []) rfl (by kernel_rfl) rfl rfl]; simp only [slim, slimO, annO, List.map, List.zip, List.zipWith, List.lookup, holed, Nat.reduceBEq]
  have e : arityF op = if outside op 1 9 then -1 else if op ≤ 2 then 0 else if op = 8 then 1 else if op = 9 then 3 else 2 := by
    unfold arityF outside
    by_cases h : 1 ≤ op ∧ op ≤ 9
    · have : ¬ op < 1 := by omega
      have : ¬ op > 9 := by omega
      simp [*]
    · rw [if_pos h, if_pos]
      simp
      omega
  cases h1 : outside op 1 9
  · by_cases h2 : op ≤ 2
    · simp [List.replicate, h1, h2, e]
    · by_cases h3 : op = 8
      · subst h3; simp [List.replicate, h1, e]
      · by_cases h4 : op = 9
        · subst h4; simp [List.replicate, h1, e]
        · simp [List.replicate, h1, h2, h3, h4, e]
  · simp [List.replicate, h1, e]
@[simp] theorem arity2_R (op : Int) (ro nx : Nat) (hp : Heap) : R K 158 [.int .i64 op] ro nx hp = some ⟨.int .i64 (arityF op), false, nx, hp⟩ := by
  rw [R_val' K ro 158 _ nx hp [] Tryz.func158 rfl Tryz.ntmps158 Tryz.results158 (mu := []) rfl (by kernel_rfl) rfl rfl]; simp only [slim, slimO, annO, List.map, List.zip, List.zipWith, List.lookup, holed, Nat.reduceBEq]
  by_cases h : 1 ≤ op ∧ op ≤ 9
  · have h1 : within op 1 9 = true := by simp [within, h]
    have hw : IntKind.i64.wrap (op - 1) = op - 1 := wrap_small (by omega) (by omega)
    have h0 : (1 : Int) ≤ op := h.1
    obtain ⟨k, hk⟩ : ∃ k : Nat, op - 1 = k := ⟨_, (Int.toNat_of_nonneg (by omega)).symm⟩
    have hk9 : k ≤ 8 := by omega
    have ho : op = k + 1 := by omega
    subst ho
    match k, hk9 with
    | 0, _ => simp [List.replicate, within, arityF, show IntKind.i64.wrap 0 = 0 by decide]
    | 1, _ => simp [List.replicate, within, arityF, show IntKind.i64.wrap 1 = 1 by decide]
    | 2, _ => simp [List.replicate, within, arityF, show IntKind.i64.wrap 2 = 2 by decide]
    | 3, _ => simp [List.replicate, within, arityF, show IntKind.i64.wrap 3 = 3 by decide]
    | 4, _ => simp [List.replicate, within, arityF, show IntKind.i64.wrap 4 = 4 by decide]
    | 5, _ => simp [List.replicate, within, arityF, show IntKind.i64.wrap 5 = 5 by decide]
    | 6, _ => simp [List.replicate, within, arityF, show IntKind.i64.wrap 6 = 6 by decide]
    | 7, _ => simp [List.replicate, within, arityF, show IntKind.i64.wrap 7 = 7 by decide]
    | 8, _ => simp [List.replicate, within, arityF, show IntKind.i64.wrap 8 = 8 by decide]
  · have h1 : within op 1 9 = false := by
      simp only [within, Bool.and_eq_false_iff, decide_eq_false_iff_not]; omega
    simp [List.replicate, h1, arityF, h]
theorem arity_le (o : Int) : arityF o ≤ 3 := by unfold arityF; repeat' split <;> omega
def LoopF (len t id : Nat) (f : Int) (r : Option (AExit × St)) : Prop := ∃ s, r = some (if f = 0 then .exit id else .ret, s) ∧ s.tm.length = len ∧ (f ≠ 0 → getC s.tm t = (.int .i64 f, false))
theorem exprFault_loop (d : Int) (hd : 0 ≤ d ∧ d ≤ 20) (l : List Ex) (hl : l.length < 100) (ih : ∀ x ∈ l, ∀ ro nx hp, R K 113 [encX x, .int .i64 (d + 1)] ro nx hp = some ⟨.int .i64 (exF x (d + 1)), false, nx, hp⟩) : ∀ (n k : Nat) (tm : List Cell) (nx : Nat) (hp : Heap), n + k = l.length → tm.length = 73 → getC tm 1 = (.int .i64 d, false) → getC tm 59 = (.lst (encXs l), false) → getC tm 60 = (.int .i64 l.length, false) → getC tm 61 = (.int .i64 k, false) →
    LoopF 73 4 1 (exsF (l.drop k) (d + 1)) (X K ⟨0, []⟩ (.loop (LB Tryz.prog 113 [] 0)) ⟨tm, nx, hp⟩) := by
  have e := LB_open (P := Tryz.prog) [] 0 Tryz.func113 rfl rfl (by kernel_rfl)
  simp only [slim, slimO, annO, List.map, List.zip, List.zipWith, List.lookup, holed, loopsOf, List.nil_append, List.cons_append, List.getD_cons_zero, List.getD_cons_succ, Nat.reduceBEq] at e
  intro n
  induction n with
  | zero =>
    intro k tm nx hp hk ht h1 h59 h60 h61
    rw [List.drop_eq_nil_of_le (by omega), Y_loop_eq _ _ e]
    clear e
    have hkl : ¬ (k : Int) < l.length := by omega
    generalize hb : X K _ _ _ = r
    simp [ht, h60, h61, hkl] at hb
    subst hb
    exact ⟨_, rfl, by simp [ht], fun h => absurd (by simp [exsF]) h⟩
  | succ n ihn =>
    intro k tm nx hp hk ht h1 h59 h60 h61
    have hx := List.getElem?_eq_getElem (l := l) (i := k) (by omega)
    rw [List.drop_eq_getElem_cons (by omega), Y_loop_eq _ _ e]
    clear e
    generalize l[k] = x at hx
    have hkl : (k : Int) < l.length := by omega
    have hxe := encXs_at hx
    have hw1 : IntKind.i64.wrap (d + 1) = d + 1 := wrap_small (by omega) (by omega)
    have hw2 : IntKind.i64.wrap ((k : Int) + 1) = (k : Int) + 1 := wrap_small (by omega) (by omega)
    have hxm := ih x (List.mem_of_getElem? hx)
    rw [encX_eq] at hxm hxe
    generalize hb : X K _ _ _ = r
    by_cases h0 : exF x (d + 1) = 0
    · simp [ht, h1, h59, h60, h61, hkl, hxe, hw1, hw2, hxm, h0] at hb
      subst hb
      rw [XK_normal, exsF, if_pos h0]
      exact ihn (k + 1) _ _ _ (by omega) (by simp [ht]) (by simp [h1]) (by simp [h59]) (by simp [h60]) (by simp [ht])
    · simp [ht, h1, h59, h60, h61, hkl, hxe, hw1, hw2, hxm, h0] at hb
      subst hb
      rw [XK_ret, exsF, if_neg h0]
      exact ⟨_, by rw [if_neg h0], by simp [ht], fun _ => by simp [ht]⟩
theorem exprFault_R : ∀ (m : Nat) (x : Ex), SizeOf.sizeOf x < m → ∀ (d : Int), 0 ≤ d ∧ d ≤ 21 → ∀ (ro nx : Nat) (hp : Heap), R K 113 [encX x, .int .i64 d] ro nx hp = some ⟨.int .i64 (exF x d), false, nx, hp⟩ := by
  intro m
  induction m with
  | zero => intro x hx; omega
  | succ m ihm =>
    intro x hx d hd ro nx hp
    have hloop : d ≤ 20 → (x.args.length : Int) = arityF x.op → ∀ (tm : List Cell) (nx' : Nat) (hp' : Heap), tm.length = 73 → getC tm 1 = (.int .i64 d, false) → getC tm 59 = (.lst (encXs x.args), false) → getC tm 60 = (.int .i64 x.args.length, false) → getC tm 61 = (.int .i64 0, false) →
        LoopF 73 4 1 (exsF x.args (d + 1)) (X K ⟨0, []⟩ (.loop (LB Tryz.prog 113 [] 0)) ⟨tm, nx', hp'⟩) := fun hd' hl tm nx' hp' a b c e f => by
      have h3 := arity_le x.op
      have := exprFault_loop d ⟨hd.1, hd'⟩ x.args (by omega) (fun y hy => ihm y (by have := args_lt hy; omega) (d + 1) (by omega)) x.args.length 0 tm nx' hp' rfl a b c e f
      simpa using this
    rw [R_val' K ro 113 _ nx hp [] Tryz.func113 rfl Tryz.ntmps113 Tryz.results113 (mu := []) rfl (by kernel_rfl) rfl rfl]; simp only [slim, slimO, annO, List.map, List.zip, List.zipWith, List.lookup, holed, Nat.reduceBEq]
    simp [List.replicate, encX_eq, encXs_len]
    iterate 8 all_goals (try (split <;> simp [*]))
    all_goals (try (rw [exF_eq]; unfold exOwn; (try simp only [within_not, outside] at *); grind))
    all_goals
      generalize hb : X K _ (.loop _) _ = r
      have hk : LoopF 73 4 1 (exsF x.args (d + 1)) r := by
        rw [← hb]
        exact hloop (by omega) (by assumption) _ _ _ (by simp) (by simp) (by simp) (by simp [*]) (by simp)
      obtain ⟨⟨tm', nx', hp'⟩, rfl, h1, h2⟩ := hk
      simp only at h1 h2
      clear hb
      by_cases h0 : exsF x.args (d + 1) = 0
      · have : exF x d = 0 := by rw [exF_eq]; unfold exOwn; (try simp only [within_not, outside] at *); grind
        simp [h0, h1, this]
      · have : exF x d = exsF x.args (d + 1) := by rw [exF_eq]; unfold exOwn; (try simp only [within_not, outside] at *); grind
        simp [h0, h1, h2 h0, this]
@[simp] theorem checkExpr_R (x : Ex) (ro nx : Nat) (hp : Heap) : R K 48 [encX x] ro nx hp = some ⟨.int .i64 (exF x 1), false, nx, hp⟩ := by
  have h := fun ro nx hp => exprFault_R (SizeOf.sizeOf x + 1) x (by omega) 1 (by omega) ro nx hp
  rw [R_val' K ro 48 _ nx hp [] Tryz.func48 rfl Tryz.ntmps48 Tryz.results48 (mu := []) rfl (by kernel_rfl) rfl rfl]; simp only [slim, slimO, annO, List.map, List.zip, List.zipWith, List.lookup, holed, Nat.reduceBEq]
  simp only [encX_eq] at h
  simp [List.replicate, encX_eq, h]
theorem exprFault2_loop (d : Int) (hd : 0 ≤ d ∧ d ≤ 20) (l : List Ex) (hl : l.length < 100) (ih : ∀ x ∈ l, ∀ ro nx hp, R K 77 [encX x, .int .i64 (d + 1)] ro nx hp = some ⟨.int .i64 (exF x (d + 1)), false, nx, hp⟩) : ∀ (n k : Nat) (tm : List Cell) (nx : Nat) (hp : Heap), n + k = l.length → tm.length = 74 → getC tm 1 = (.int .i64 d, false) → getC tm 60 = (.lst (encXs l), false) → getC tm 61 = (.int .i64 l.length, false) → getC tm 62 = (.int .i64 k, false) →
    LoopF 74 4 1 (exsF (l.drop k) (d + 1)) (X K ⟨0, []⟩ (.loop (LB Tryz.prog 77 [] 0)) ⟨tm, nx, hp⟩) := by
  have e := LB_open (P := Tryz.prog) [] 0 Tryz.func77 rfl rfl (by kernel_rfl)
  simp only [slim, slimO, annO, List.map, List.zip, List.zipWith, List.lookup, holed, loopsOf, List.nil_append, List.cons_append, List.getD_cons_zero, List.getD_cons_succ, Nat.reduceBEq] at e
  intro n
  induction n with
  | zero =>
    intro k tm nx hp hk ht h1 h59 h60 h61
    rw [List.drop_eq_nil_of_le (by omega), Y_loop_eq _ _ e]
    clear e
    have hkl : ¬ (k : Int) < l.length := by omega
    generalize hb : X K _ _ _ = r
    simp [ht, h60, h61, hkl] at hb
    subst hb
    exact ⟨_, rfl, by simp [ht], fun h => absurd (by simp [exsF]) h⟩
  | succ n ihn =>
    intro k tm nx hp hk ht h1 h59 h60 h61
    have hx := List.getElem?_eq_getElem (l := l) (i := k) (by omega)
    rw [List.drop_eq_getElem_cons (by omega), Y_loop_eq _ _ e]
    clear e
    generalize l[k] = x at hx
    have hkl : (k : Int) < l.length := by omega
    have hxe := encXs_at hx
    have hw1 : IntKind.i64.wrap (d + 1) = d + 1 := wrap_small (by omega) (by omega)
    have hw2 : IntKind.i64.wrap ((k : Int) + 1) = (k : Int) + 1 := wrap_small (by omega) (by omega)
    have hxm := ih x (List.mem_of_getElem? hx)
    rw [encX_eq] at hxm hxe
    generalize hb : X K _ _ _ = r
    by_cases h0 : exF x (d + 1) = 0
    · simp [ht, h1, h59, h60, h61, hkl, hxe, hw1, hw2, hxm, h0] at hb
      subst hb
      rw [XK_normal, exsF, if_pos h0]
      exact ihn (k + 1) _ _ _ (by omega) (by simp [ht]) (by simp [h1]) (by simp [h59]) (by simp [h60]) (by simp [ht])
    · simp [ht, h1, h59, h60, h61, hkl, hxe, hw1, hw2, hxm, h0] at hb
      subst hb
      rw [XK_ret, exsF, if_neg h0]
      exact ⟨_, by rw [if_neg h0], by simp [ht], fun _ => by simp [ht]⟩
theorem exprFault2_R : ∀ (m : Nat) (x : Ex), SizeOf.sizeOf x < m → ∀ (d : Int), 0 ≤ d ∧ d ≤ 21 → ∀ (ro nx : Nat) (hp : Heap), R K 77 [encX x, .int .i64 d] ro nx hp = some ⟨.int .i64 (exF x d), false, nx, hp⟩ := by
  intro m
  induction m with
  | zero => intro x hx; omega
  | succ m ihm =>
    intro x hx d hd ro nx hp
    have hloop : d ≤ 20 → (x.args.length : Int) = arityF x.op → ∀ (tm : List Cell) (nx' : Nat) (hp' : Heap), tm.length = 74 → getC tm 1 = (.int .i64 d, false) → getC tm 60 = (.lst (encXs x.args), false) → getC tm 61 = (.int .i64 x.args.length, false) → getC tm 62 = (.int .i64 0, false) →
        LoopF 74 4 1 (exsF x.args (d + 1)) (X K ⟨0, []⟩ (.loop (LB Tryz.prog 77 [] 0)) ⟨tm, nx', hp'⟩) := fun hd' hl tm nx' hp' a b c e f => by
      have h3 := arity_le x.op
      have := exprFault2_loop d ⟨hd.1, hd'⟩ x.args (by omega) (fun y hy => ihm y (by have := args_lt hy; omega) (d + 1) (by omega)) x.args.length 0 tm nx' hp' rfl a b c e f
      simpa using this
    rw [R_val' K ro 77 _ nx hp [] Tryz.func77 rfl Tryz.ntmps77 Tryz.results77 (mu := []) rfl (by kernel_rfl) rfl rfl]; simp only [slim, slimO, annO, List.map, List.zip, List.zipWith, List.lookup, holed, Nat.reduceBEq]
    simp [List.replicate, encX_eq, encXs_len]
    iterate 8 all_goals (try (split <;> simp [*]))
    all_goals (try (rw [exF_eq]; unfold exOwn; (try simp only [within_not, outside] at *); grind))
    all_goals
      generalize hb : X K _ (.loop _) _ = r
      have hk : LoopF 74 4 1 (exsF x.args (d + 1)) r := by
        rw [← hb]
        exact hloop (by omega) (by assumption) _ _ _ (by simp) (by simp) (by simp) (by simp [*]) (by simp)
      obtain ⟨⟨tm', nx', hp'⟩, rfl, h1, h2⟩ := hk
      simp only at h1 h2
      clear hb
      by_cases h0 : exsF x.args (d + 1) = 0
      · have : exF x d = 0 := by rw [exF_eq]; unfold exOwn; (try simp only [within_not, outside] at *); grind
        simp [h0, h1, this]
      · have : exF x d = exsF x.args (d + 1) := by rw [exF_eq]; unfold exOwn; (try simp only [within_not, outside] at *); grind
        simp [h0, h1, h2 h0, this]
@[simp] theorem exprFaultQ_R (x : Ex) (ro nx : Nat) (hp : Heap) : R K 11 [encX x] ro nx hp = some ⟨.int .i64 (exF x 1), false, nx, hp⟩ := by
  have h := fun ro nx hp => exprFault2_R (SizeOf.sizeOf x + 1) x (by omega) 1 (by omega) ro nx hp
  rw [R_val' K ro 11 _ nx hp [] Tryz.func11 rfl Tryz.ntmps11 Tryz.results11 (mu := []) rfl (by kernel_rfl) rfl rfl]; simp only [slim, slimO, annO, List.map, List.zip, List.zipWith, List.lookup, holed, Nat.reduceBEq]
  simp only [encX_eq] at h
  simp [List.replicate, encX_eq, h]
end Go.Proofs.YtleimfinniclgaaGreatDoor.M
/- What is shared: right expressions, cmp.Or, closed runs. -/
namespace Go.Proofs.YtleimfinniclgaaGreatDoor.M
open Go.Proofs Go.Proofs.YtleimfinniclgaaGreatDoor.X
set_option linter.unusedSimpArgs false
set_option linter.unusedVariables false
set_option maxRecDepth 100000
set_option pp.deepTerms false
set_option pp.deepTerms.threshold 6
set_option maxHeartbeats 4000000
def leB (a b : ByteArray) : Bool := Op.bytesLess a.toList b.toList || a.toList == b.toList
theorem exF_zero {x : Ex} {d : Int} (h : exF x d = 0) : exOwn x d = 0 ∧ exsF x.args (d + 1) = 0 := by
  rw [exF_eq] at h
  split at h
  · exact ⟨by assumption, h⟩
  · contradiction
theorem exsF_mem {l : List Ex} {d : Int} (h : exsF l d = 0) : ∀ x ∈ l, exF x d = 0 := by
  induction l with
  | nil => intro x hx; cases hx
  | cons y r ih =>
    rw [exsF] at h
    split at h
    · rename_i h0
      intro x hx
      cases hx with
      | head => exact h0
      | tail _ hx => exact ih h x hx
    · contradiction
theorem own_zero {x : Ex} {d : Int} (h : exOwn x d = 0) : d ≤ 20 ∧ 1 ≤ x.op ∧ x.op ≤ 9 ∧ (x.args.length : Int) = arityF x.op ∧ (x.op = 1 ∨ x.n = 0) ∧ 0 ≤ x.n ∧ x.n ≤ 999 ∧ (x.op ≠ 2 ∨ nameB x.name = true) ∧ (x.op = 2 ∨ x.name.toList = []) := by
  unfold exOwn at h
  have ha : ¬ arityF x.op < 0 → 1 ≤ x.op ∧ x.op ≤ 9 := by
    unfold arityF
    intro h1
    split at h1
    · omega
    · omega
  grind (splits := 30)
theorem leB_lt {a b : ByteArray} (h : leB a b = false) : b.toList < a.toList := by
  unfold leB at h
  rw [bytesLess_eq] at h
  simp only [Bool.or_eq_false_iff, decide_eq_false_iff_not, beq_eq_false_iff_ne] at h
  rcases List.le_iff_lt_or_eq.1 (List.not_lt.1 h.1) with h1 | h1
  · exact h1
  · exact absurd h1.symm h.2
def orF : List Int → Int
  | [] => 0
  | x :: r => if x ≠ 0 then x else orF r
def LoopO (f : Int) (r : Option (AExit × St)) : Prop := ∃ s, r = some (if f = 0 then .exit 0 else .ret, s) ∧ s.tm.length = 18 ∧ (f ≠ 0 → getC s.tm 2 = (.int .i64 f, false)) ∧ getC s.tm 3 = (.int .i64 0, false)
theorem or_loop (l : List Int) (hl : l.length < 1000) : ∀ (n k : Nat) (tm : List Cell) (nx : Nat) (hp : Heap), n + k = l.length → tm.length = 18 → getC tm 6 = (.lst (ints' l), false) → getC tm 7 = (.int .i64 l.length, false) → getC tm 8 = (.int .i64 k, false) → getC tm 3 = (.int .i64 0, false) →
    LoopO (orF (l.drop k)) (X K ⟨0, []⟩ (.loop (LB Tryz.prog 16 [] 0)) ⟨tm, nx, hp⟩) := by
  have e := LB_open (P := Tryz.prog) [] 0 Tryz.func16 rfl rfl (by kernel_rfl)
  simp only [slim, slimO, annO, List.map, List.zip, List.zipWith, List.lookup, holed, loopsOf, List.nil_append, List.cons_append, List.getD_cons_zero, List.getD_cons_succ, Nat.reduceBEq] at e
  intro n
  induction n with
  | zero =>
    intro k tm nx hp hk ht h6 h7 h8 h3
    rw [List.drop_eq_nil_of_le (by omega), Y_loop_eq _ _ e]
    clear e
    have hkl : ¬ (k : Int) < l.length := by omega
    generalize hb : X K _ _ _ = r
    simp [ht, h7, h8, hkl] at hb
    subst hb
    exact ⟨_, rfl, by simp [ht], fun h => absurd rfl h, by simp [h3]⟩
  | succ n ihn =>
    intro k tm nx hp hk ht h6 h7 h8 h3
    have hx := List.getElem?_eq_getElem (l := l) (i := k) (by omega)
    rw [List.drop_eq_getElem_cons (by omega), Y_loop_eq _ _ e]
    clear e
    have hxe : (ints' l)[k]? = some (.int .i64 l[k]) := by simp [ints', hx]
    generalize l[k] = x at hx hxe
    have hkl : (k : Int) < l.length := by omega
    have hw2 : IntKind.i64.wrap ((k : Int) + 1) = (k : Int) + 1 := wrap_small (by omega) (by omega)
    generalize hb : X K _ _ _ = r
    by_cases h0 : x = 0
    · simp [ht, h3, h6, h7, h8, hkl, hxe, hw2, h0] at hb
      subst hb
      rw [XK_normal, orF, if_neg (by simp [h0])]
      exact ihn (k + 1) _ _ _ (by omega) (by simp [ht]) (by simp [h6]) (by simp [h7]) (by simp [ht]) (by simp [h3])
    · simp [ht, h3, h6, h7, h8, hkl, hxe, hw2, h0] at hb
      subst hb
      rw [XK_ret, orF, if_pos h0]
      exact ⟨_, by rw [if_neg h0], by simp [ht], fun _ => by simp [ht], by simp [h3]⟩
@[simp] theorem or_R (l : List Int) (hl : l.length < 1000) (ro nx : Nat) (hp : Heap) : R K 16 [.lst (ints' l)] ro nx hp = some ⟨.int .i64 (orF l), false, nx, hp⟩ := by
  have hil : (ints' l).length = l.length := by simp [ints']
  have hid : idsLts 0 (ints' l) = true := by
    induction l with
    | nil => simp [ints']
    | cons x r ih => rw [show ints' (x :: r) = .int .i64 x :: ints' r from rfl, idsLts_cons, ih (by simp at hl; omega) (by simp [ints'])]; simp
  rw [R_val' K ro 16 _ nx hp [] Tryz.func16 rfl Tryz.ntmps16 Tryz.results16 (mu := []) rfl (by kernel_rfl) rfl rfl]; simp only [slim, slimO, annO, List.map, List.zip, List.zipWith, List.lookup, holed, Nat.reduceBEq]
  simp [List.replicate, hil, hid]
  generalize hb : X K _ (.loop _) _ = r
  have hk : LoopO (orF l) r := by
    rw [← hb]
    exact or_loop l hl l.length 0 _ _ _ (by omega) (by simp) (by simp) (by simp) (by simp) (by simp)
  obtain ⟨⟨tm', nx', hp'⟩, rfl, h1, h2, h3⟩ := hk
  simp only at h1 h2 h3
  clear hb
  by_cases h0 : orF l = 0
  · simp [h0, h1, h3]
  · simp [h0, h1, h2 h0]
theorem lift_any {x : Option Res} {v : AVal} {o : Bool} (h : lift 0 [] x = some ⟨v, o, 0, []⟩) (nx : Nat) (hp : Heap) : lift nx hp x = some ⟨v, o, nx, hp⟩ := by
  cases x with
  | none => cases h
  | some r =>
    simp only [lift, Option.some.injEq] at h ⊢
    injection h with h1 h2 h3 h4
    subst h1 h2
    rfl
theorem val_any {f : FuncId} {args : List AVal} (hv : K.vl f = true) (hi : idsLts 0 args = true) {v : AVal} {o : Bool} (h : R K f args 0 0 [] = some ⟨v, o, 0, []⟩) (ro nx : Nat) (hp : Heap) : R K f args ro nx hp = some ⟨v, o, nx, hp⟩ := by
  rw [R_eq] at h ⊢
  unfold vlc at h ⊢
  rw [if_pos hv, if_pos hi] at h ⊢
  exact lift_any h nx hp
theorem valued0 : arun K 100 23 [] 0 0 [] = some ⟨.bool true, false, 0, []⟩ := by kernel_rfl
theorem valued_R (ro nx : Nat) (hp : Heap) : R K 23 [] ro nx hp = some ⟨.bool true, false, nx, hp⟩ :=
  val_any rfl (by simp) (R_iff.2 ⟨100, valued0⟩) ro nx hp
end Go.Proofs.YtleimfinniclgaaGreatDoor.M
/- Slots; VarList gives some. -/
namespace Go.Proofs.YtleimfinniclgaaGreatDoor.M
open Go.Proofs Go.Proofs.YtleimfinniclgaaGreatDoor.X
set_option linter.unusedSimpArgs false
set_option linter.unusedVariables false
set_option maxRecDepth 100000
set_option pp.deepTerms false
set_option pp.deepTerms.threshold 6
set_option maxHeartbeats 4000000
structure Sl where
  name : ByteArray
  val : Int
def encSl (x : Sl) : AVal := .agg [.str x.name, .int .i64 x.val]
def encSls (l : List Sl) : List AVal := l.map encSl
@[simp] theorem encSl_flat (x : Sl) : (encSl x).flat = [.str x.name, .int .i64 x.val] := rfl
@[simp] theorem encSl_ids (n : Nat) (x : Sl) : (encSl x).idsLt n = true := by simp [encSl]
@[simp] theorem encSls_ids (n : Nat) (l : List Sl) : idsLts n (encSls l) = true := by
  induction l with
  | nil => simp [encSls]
  | cons x r ih => rw [show encSls (x :: r) = encSl x :: encSls r from rfl, idsLts_cons, ih]; simp
@[simp] theorem encSls_len (l : List Sl) : (encSls l).length = l.length := by simp [encSls]
@[simp] theorem encSls_head (l : List Sl) : headOk (encSls l) 2 = true := by cases l <;> rfl
theorem encSls_at {l : List Sl} {k : Nat} {x : Sl} (h : l[k]? = some x) : (encSls l)[k]? = some (encSl x) := by simp [encSls, h]
theorem encSls_app (l : List Sl) (nm : ByteArray) (v : Int) : encSls l ++ [.agg [.str nm, .int .i64 v]] = encSls (l ++ [⟨nm, v⟩]) := by simp [encSls, encSl]
theorem varList_loop (l : List Int) (s ro nx : Nat) (hp0 : Heap) (hl : l.length < 4611686018427387904) (hro : ro ≤ s) (hsn : s < nx) (a0 : Int) (ha0 : 0 ≤ a0 ∧ a0 + 100 < 4611686018427387000) (hs0 : hget hp0 s = some (strm l a0)) (tm : List Cell) (ht : tm.length = 35) (h0 : getC tm 0 = (.ptr s 0, false)) (h3 : getC tm 3 = (.lst [], true)) (h6 : getC tm 6 = (.lst [.str ⟨#[120]⟩, .str ⟨#[121]⟩, .str ⟨#[122]⟩], true)) (h7 : getC tm 7 = (.int .i64 3, false)) (h8 : getC tm 8 = (.int .i64 0, false)) :
    ∃ tm' a' y, X K ⟨ro, []⟩ (.loop (LB Tryz.prog 10 [] 0)) ⟨tm, nx, hp0⟩ = some (.exit 0, ⟨tm', nx, hset hp0 s (strm l a')⟩) ∧ tm'.length = 35 ∧ getC tm' 0 = (.ptr s 0, false) ∧ getC tm' 3 = (.lst (encSls y), true) ∧ a0 ≤ a' ∧ a' ≤ a0 + 6 ∧ y.length ≤ 3 := by
  have e := LB_open (P := Tryz.prog) [] 0 Tryz.func10 rfl rfl (by kernel_rfl)
  simp only [slim, slimO, annO, List.map, List.zip, List.zipWith, List.lookup, holed, loopsOf, List.nil_append, List.cons_append, List.getD_cons_zero, List.getD_cons_succ, Nat.reduceBEq] at e
  refine rounds e 3 (fun k tm n hp => tm.length = 35 ∧ getC tm 0 = (.ptr s 0, false) ∧ getC tm 6 = (.lst [.str ⟨#[120]⟩, .str ⟨#[121]⟩, .str ⟨#[122]⟩], true) ∧ getC tm 7 = (.int .i64 3, false) ∧ getC tm 8 = (.int .i64 k, false) ∧ n = nx ∧ ∃ a y, a0 ≤ a ∧ a ≤ a0 + 2 * k ∧ y.length ≤ k ∧ hp = hset hp0 s (strm l a) ∧ getC tm 3 = (.lst (encSls y), true))
    (fun r => ∃ tm' a' y, r = some (.exit 0, ⟨tm', nx, hset hp0 s (strm l a')⟩) ∧ tm'.length = 35 ∧ getC tm' 0 = (.ptr s 0, false) ∧ getC tm' 3 = (.lst (encSls y), true) ∧ a0 ≤ a' ∧ a' ≤ a0 + 6 ∧ y.length ≤ 3) ?_ ?_ 0 tm nx hp0 (by omega) ⟨ht, h0, h6, h7, h8, rfl, a0, [], by omega, by omega, by simp, (hset_self hs0).symm, h3⟩
  · rintro tm n hp r ⟨ht, h0, h6, h7, h8, rfl, a, y, ha, hb, hy, rfl, h3⟩ hX
    simp [ht, h7, h8] at hX
    subst hX
    exact ⟨_, _, rfl, by simp, _, a, y, rfl, by simp [ht], by simp [h0], by simp [h3], ha, by omega, hy⟩
  · rintro k tm n hp r hk ⟨ht, h0, h6, h7, h8, rfl, a, y, ha, hb, hy, rfl, h3⟩ hX
    left
    have hk3 : (k : Int) < 3 := by omega
    have hw2 : IntKind.i64.wrap ((k : Int) + 1) = (k : Int) + 1 := wrap_small (by omega) (by omega)
    obtain ⟨nm, hnm⟩ : ∃ nm, ([.str ⟨#[120]⟩, .str ⟨#[121]⟩, .str ⟨#[122]⟩] : List AVal)[k]? = some (.str nm) := by
      match k with
      | 0 => exact ⟨_, rfl⟩
      | 1 => exact ⟨_, rfl⟩
      | 2 => exact ⟨_, rfl⟩
      | k + 3 => omega
    have hs : hget (hset hp0 s (strm l a)) s = some (strm l a) := hget_strm hs0 a
    have hs1 : hget (hset hp0 s (strm l (a + 1))) s = some (strm l (a + 1)) := hget_strm hs0 _
    have hF := flip_R l a 2 s ro n _ ⟨by omega, by omega⟩ (by omega) hl hs hro
    rw [hset_hset] at hF
    have hP := pick_R l (a + 1) [0, 1, 2, 5, 7, 500, 999] s ro n _ ⟨by omega, by omega⟩ (by simp) hl hs1 hro
    rw [hset_hset, show a + 1 + 1 = a + 2 by omega] at hP
    simp only [ints', List.map_cons, List.map_nil] at hP
    have hlen : (y.length + 1) * 24 ≤ 140737488355328 := by omega
    by_cases hf : nextF l a 2 = 0
    · simp [ht, h0, h3, h6, h7, h8, hk3, hnm, hF, hf, hP, hw2, hlen] at hX
      subst hX
      exact ⟨_, _, _, rfl, by simp [ht], by simp [h0], by simp [h6], by simp [h7], by simp [ht], rfl, a + 2, y ++ [⟨nm, pickF l (a + 1) [0, 1, 2, 5, 7, 500, 999]⟩], by omega, by omega, by simp; omega, rfl, by simp [ht, encSls_app]⟩
    · simp [ht, h0, h3, h6, h7, h8, hk3, hnm, hF, hf, hw2] at hX
      subst hX
      exact ⟨_, _, _, rfl, by simp [ht], by simp [h0], by simp [h6], by simp [h7], by simp [ht], rfl, a + 1, y, by omega, by omega, by omega, rfl, by simp [h3]⟩
theorem varList_R (l : List Int) (a : Int) (s ro nx : Nat) (hp : Heap) (ha : 0 ≤ a) (hb : a + 100 < 4611686018427387000) (hl : l.length < 4611686018427387904) (hs : hget hp s = some (strm l a)) (hro : ro ≤ s) (hB : Base nx hp) :
    ∃ y a' own, R K 10 [.ptr s 0] ro nx hp = some ⟨.lst (encSls y), own, nx, hset hp s (strm l a')⟩ ∧ a ≤ a' ∧ a' ≤ a + 100 := by
  have hf : Fresh nx hp := hB.1
  have hsn := hf.lt hs
  have hloop := varList_loop l s ro nx hp hl hro hsn a ⟨ha, hb⟩ hs
  generalize hX : R K _ _ _ _ _ = x
  rw [R_tidy' K ro 10 _ nx hp [] Tryz.func10 rfl Tryz.ntmps10 Tryz.results10 (mu := []) rfl (by kernel_rfl) rfl rfl rfl] at hX; simp only [slim, slimO, annO, List.map, List.zip, List.zipWith, List.lookup, holed, Nat.reduceBEq] at hX
  simp [List.replicate] at hX
  generalize hb' : X K _ (.loop _) _ = r at hX
  obtain ⟨tm', a', y, rfl, t1, t2, t3, t4, t5, t6⟩ : ∃ tm' a' y, r = some (.exit 0, ⟨tm', nx, hset hp s (strm l a')⟩) ∧ tm'.length = 35 ∧ getC tm' 0 = (.ptr s 0, false) ∧ getC tm' 3 = (.lst (encSls y), true) ∧ a ≤ a' ∧ a' ≤ a + 6 ∧ y.length ≤ 3 := by
    rw [← hb']
    refine hloop _ ?_ ?_ ?_ ?_ ?_ ?_
    all_goals simp
  clear hb' hloop
  have hs1 : hget (hset hp s (strm l a')) s = some (strm l a') := hget_strm hs _
  have hs2 : hget (hset hp s (strm l (a' + 1))) s = some (strm l (a' + 1)) := hget_strm hs _
  have hs3 : hget (hset hp s (strm l (a' + 2))) s = some (strm l (a' + 2)) := hget_strm hs _
  have hF := flip_R l a' 15 s ro nx _ ⟨by omega, by omega⟩ (by omega) hl hs1 hro
  rw [hset_hset] at hF
  have hS := some_R l (a' + 1) [⟨#[120]⟩, ⟨#[65]⟩, ⟨#[122, 122]⟩] s ro nx _ ⟨by omega, by omega⟩ (by simp) hl hs2 hro
  rw [hset_hset, show a' + 1 + 1 = a' + 2 by omega] at hS
  simp only [strs, List.map_cons, List.map_nil] at hS
  have hO := odd_R l (a' + 2) 0 999 s ro nx _ ⟨by omega, by omega⟩ (by omega) (by omega) (by omega) hl hs3 hro
  rw [hset_hset, show a' + 2 + 2 = a' + 4 by omega] at hO
  have hcl : ∀ b : Int, hclean nx (hset hp s (strm l b)) = true := fun b => (hB.set l b).2
  have hlo : ∀ b : Int, hlow nx (hset hp s (strm l b)) = hset hp s (strm l b) := fun b => (hB.set l b).1
  have hlen : (y.length + 1) * 24 ≤ 140737488355328 := by omega
  by_cases h0 : nextF l a' 15 = 0
  · refine ⟨y ++ [⟨someF l (a' + 1) [⟨#[120]⟩, ⟨#[65]⟩, ⟨#[122, 122]⟩], (oddF l (a' + 2) 0 999).1⟩], a' + 4, false, ?_, by omega, by omega⟩
    rw [← hX]
    simp [t1, t2, t3, hF, h0, hS, hO, hlen, encSls_app, hcl, hlo]
  · refine ⟨y, a' + 1, false, ?_, by omega, by omega⟩
    rw [← hX]
    simp [t1, t2, t3, hF, h0, hcl, hlo]
end Go.Proofs.YtleimfinniclgaaGreatDoor.M
/- CheckSlots, SlotsFault. -/
namespace Go.Proofs.YtleimfinniclgaaGreatDoor.M
open Go.Proofs Go.Proofs.YtleimfinniclgaaGreatDoor.X
set_option linter.unusedSimpArgs false
set_option linter.unusedVariables false
set_option maxRecDepth 100000
set_option pp.deepTerms false
set_option pp.deepTerms.threshold 6
set_option maxHeartbeats 4000000
/-- The first error among numbered ones. -/
def errGo (f : Nat → Int) : Nat → Nat → Int
  | 0, _ => 0
  | n + 1, j => if f j = 0 then errGo f n (j + 1) else f j
theorem errGo_zero {f : Nat → Int} : ∀ (n k : Nat), errGo f n k = 0 → ∀ j, k ≤ j → j < k + n → f j = 0 := by
  intro n
  induction n with
  | zero => intro k _ j h1 h2; omega
  | succ n ih =>
    intro k h j h1 h2
    rw [errGo] at h
    split at h
    · by_cases e : j = k
      · subst e; assumption
      · exact ih (k + 1) h j (by omega) (by omega)
    · contradiction
def slAt (xs : List Sl) (j : Nat) : Int :=
  match xs[j]? with
  | none => 0
  | some x => if nameB x.name = false then 5 else if outside x.val 0 999 = true then 1 else
    if 0 < j ∧ (match xs[j - 1]? with | some y => leB x.name y.name | none => false) = true then 7 else 0
def slF (xs : List Sl) : Int := if 2000 < xs.length then 2 else errGo (slAt xs) xs.length 0
theorem checkSlots_loop (xs : List Sl) (hl : xs.length ≤ 2000) (tm : List Cell) (nx : Nat) (hp : Heap) (ht : tm.length = 39) (h0 : getC tm 0 = (.lst (encSls xs), false)) (h8 : getC tm 8 = (.lst (encSls xs), false)) (h9 : getC tm 9 = (.int .i64 xs.length, false)) (h10 : getC tm 10 = (.int .i64 0, false)) :
    LoopF 39 2 0 (errGo (slAt xs) xs.length 0) (X K ⟨0, []⟩ (.loop (LB Tryz.prog 21 [] 0)) ⟨tm, nx, hp⟩) := by
  have e := LB_open (P := Tryz.prog) [] 0 Tryz.func21 rfl rfl (by kernel_rfl)
  simp only [slim, slimO, annO, List.map, List.zip, List.zipWith, List.lookup, holed, loopsOf, List.nil_append, List.cons_append, List.getD_cons_zero, List.getD_cons_succ, Nat.reduceBEq] at e
  refine rounds e xs.length (fun k tm n hp => tm.length = 39 ∧ getC tm 0 = (.lst (encSls xs), false) ∧ getC tm 8 = (.lst (encSls xs), false) ∧ getC tm 9 = (.int .i64 xs.length, false) ∧ getC tm 10 = (.int .i64 k, false) ∧ errGo (slAt xs) (xs.length - k) k = errGo (slAt xs) xs.length 0) _ ?_ ?_ 0 tm nx hp (by omega) ⟨ht, h0, h8, h9, h10, by simp⟩
  · rintro tm n hp r ⟨ht, h0, h8, h9, h10, hf⟩ hX
    simp [ht, h9, h10] at hX
    subst hX
    rw [← hf, Nat.sub_self]
    exact ⟨_, _, rfl, by simp, _, rfl, by simp [ht], fun h => absurd rfl h⟩
  · rintro k tm n hp r hk ⟨ht, h0, h8, h9, h10, hf⟩ hX
    have hx := List.getElem?_eq_getElem (l := xs) (i := k) hk
    generalize xs[k] = x at hx
    have hkl : (k : Int) < xs.length := by omega
    have hxe := encSls_at hx
    have hw2 : IntKind.i64.wrap ((k : Int) + 1) = (k : Int) + 1 := wrap_small (by omega) (by omega)
    have hsp : slAt xs k = if nameB x.name = false then 5 else if outside x.val 0 999 = true then 1 else if 0 < k ∧ (match xs[k - 1]? with | some y => leB x.name y.name | none => false) = true then 7 else 0 := by simp only [slAt, hx]
    simp only [encSl] at hxe
    rw [show xs.length - k = (xs.length - (k + 1)) + 1 by omega, errGo] at hf
    cases c1 : nameB x.name
    · simp [ht, h0, h8, h9, h10, hkl, hxe, hw2, c1] at hX
      have hz : slAt xs k = 5 := by rw [hsp, if_pos c1]
      rw [hz, if_neg (by decide)] at hf
      subst hX
      exact .inr ⟨_, _, rfl, by simp, _, by rw [if_neg (by omega)], by simp [ht], fun _ => by simp [ht, ← hf]⟩
    · cases c2 : outside x.val 0 999
      · have next : slAt xs k = 0 → errGo (slAt xs) (xs.length - (k + 1)) (k + 1) = errGo (slAt xs) xs.length 0 := fun h => by rw [if_pos h] at hf; exact hf
        by_cases c4 : 0 < k
        · have hy := List.getElem?_eq_getElem (l := xs) (i := k - 1) (by omega)
          generalize xs[k - 1] = y at hy
          have hye := encSls_at hy
          simp only [encSl] at hye
          have hw3 : IntKind.i64.wrap ((k : Int) - 1) = ((k - 1 : Nat) : Int) := by rw [wrap_small (by omega) (by omega)]; omega
          have c4' : (0 : Int) < k := by omega
          have hleB : (Op.bytesLess x.name.toList y.name.toList || x.name.toList == y.name.toList) = leB x.name y.name := rfl
          cases c5 : leB x.name y.name
          · simp [ht, h0, h8, h9, h10, hkl, hxe, hye, hw2, hw3, c1, c2, c4, c4', hleB, c5] at hX
            subst hX
            have hz : slAt xs k = 0 := by rw [hsp]; simp [c1, c2, c4, hy, c5]
            exact .inl ⟨_, _, _, rfl, by simp [ht], by simp [h0], by simp [h8], by simp [h9], by simp [ht], next hz⟩
          · simp [ht, h0, h8, h9, h10, hkl, hxe, hye, hw2, hw3, c1, c2, c4, c4', hleB, c5] at hX
            have hz : slAt xs k = 7 := by rw [hsp]; simp [c1, c2, c4, hy, c5]
            rw [hz, if_neg (by decide)] at hf
            subst hX
            exact .inr ⟨_, _, rfl, by simp, _, by rw [if_neg (by omega)], by simp [ht], fun _ => by simp [ht, ← hf]⟩
        · have c4' : ¬ (0 : Int) < k := by omega
          simp [ht, h0, h8, h9, h10, hkl, hxe, hw2, c1, c2, c4, c4'] at hX
          subst hX
          have hz : slAt xs k = 0 := by rw [hsp]; simp [c1, c2, c4]
          exact .inl ⟨_, _, _, rfl, by simp [ht], by simp [h0], by simp [h8], by simp [h9], by simp [ht], next hz⟩
      · simp [ht, h0, h8, h9, h10, hkl, hxe, hw2, c1, c2] at hX
        have hz : slAt xs k = 1 := by rw [hsp, if_neg (by simp [c1]), if_pos c2]
        rw [hz, if_neg (by decide)] at hf
        subst hX
        exact .inr ⟨_, _, rfl, by simp, _, by rw [if_neg (by omega)], by simp [ht], fun _ => by simp [ht, ← hf]⟩
@[simp] theorem checkSlots_R (xs : List Sl) (ro nx : Nat) (hp : Heap) : R K 21 [.lst (encSls xs)] ro nx hp = some ⟨.int .i64 (slF xs), false, nx, hp⟩ := by
  unfold slF
  rw [R_val' K ro 21 _ nx hp [] Tryz.func21 rfl Tryz.ntmps21 Tryz.results21 (mu := []) rfl (by kernel_rfl) rfl rfl]; simp only [slim, slimO, annO, List.map, List.zip, List.zipWith, List.lookup, holed, Nat.reduceBEq]
  by_cases h : 2000 < xs.length
  · have h' : (2000 : Int) < xs.length := by omega
    simp [List.replicate, h, h']
  · have h' : ¬ (2000 : Int) < xs.length := by omega
    simp [List.replicate, h, h']
    generalize hb : X K _ (.loop _) _ = r
    have hk : LoopF 39 2 0 (errGo (slAt xs) xs.length 0) r := by
      rw [← hb]
      exact checkSlots_loop xs (by omega) _ _ _ (by simp) (by simp) (by simp) (by simp) (by simp)
    obtain ⟨⟨tm', nx', hp'⟩, rfl, h1, h2⟩ := hk
    simp only at h1 h2
    clear hb
    by_cases h0 : errGo (slAt xs) xs.length 0 = 0
    · simp [h0, h1]
    · simp [h0, h1, h2 h0]
theorem slotsFault_loop (xs : List Sl) (hl : xs.length ≤ 2000) (tm : List Cell) (nx : Nat) (hp : Heap) (ht : tm.length = 33) (h3 : getC tm 3 = (.str ⟨#[]⟩, false)) (h9 : getC tm 9 = (.lst (encSls xs), false)) (h10 : getC tm 10 = (.int .i64 xs.length, false)) (h11 : getC tm 11 = (.int .i64 0, false)) :
    LoopF 33 2 0 (errGo (slAt xs) xs.length 0) (X K ⟨0, []⟩ (.loop (LB Tryz.prog 12 [] 0)) ⟨tm, nx, hp⟩) := by
  have e := LB_open (P := Tryz.prog) [] 0 Tryz.func12 rfl rfl (by kernel_rfl)
  simp only [slim, slimO, annO, List.map, List.zip, List.zipWith, List.lookup, holed, loopsOf, List.nil_append, List.cons_append, List.getD_cons_zero, List.getD_cons_succ, Nat.reduceBEq] at e
  refine rounds e xs.length (fun k tm n hp => tm.length = 33 ∧ getC tm 9 = (.lst (encSls xs), false) ∧ getC tm 10 = (.int .i64 xs.length, false) ∧ getC tm 11 = (.int .i64 k, false) ∧ (∃ last, getC tm 3 = (.str last, false) ∧ (k = 0 → last = ⟨#[]⟩) ∧ (0 < k → ∃ y, xs[k - 1]? = some y ∧ last = y.name)) ∧ errGo (slAt xs) (xs.length - k) k = errGo (slAt xs) xs.length 0) _ ?_ ?_ 0 tm nx hp (by omega) ⟨ht, h9, h10, h11, ⟨_, h3, fun _ => rfl, fun h => by omega⟩, by simp⟩
  · rintro tm n hp r ⟨ht, h9, h10, h11, _, hf⟩ hX
    simp [ht, h10, h11] at hX
    subst hX
    rw [← hf, Nat.sub_self]
    exact ⟨_, _, rfl, by simp, _, rfl, by simp [ht], fun h => absurd rfl h⟩
  · rintro k tm n hp r hk ⟨ht, h9, h10, h11, ⟨last, h3, hl0, hl1⟩, hf⟩ hX
    have hx := List.getElem?_eq_getElem (l := xs) (i := k) hk
    generalize xs[k] = x at hx
    have hkl : (k : Int) < xs.length := by omega
    have hxe := encSls_at hx
    have hw2 : IntKind.i64.wrap ((k : Int) + 1) = (k : Int) + 1 := wrap_small (by omega) (by omega)
    have hsp : slAt xs k = if nameB x.name = false then 5 else if outside x.val 0 999 = true then 1 else if 0 < k ∧ (match xs[k - 1]? with | some y => leB x.name y.name | none => false) = true then 7 else 0 := by simp only [slAt, hx]
    simp only [encSl] at hxe
    rw [show xs.length - k = (xs.length - (k + 1)) + 1 by omega, errGo] at hf
    cases c1 : nameB x.name
    · simp [ht, h9, h10, h11, hkl, hxe, hw2, c1] at hX
      have hz : slAt xs k = 5 := by rw [hsp, if_pos c1]
      rw [hz, if_neg (by decide)] at hf
      subst hX
      exact .inr ⟨_, _, rfl, by simp, _, by rw [if_neg (by omega)], by simp [ht], fun _ => by simp [ht, ← hf]⟩
    · cases c2 : outside x.val 0 999
      · have hleB : (Op.bytesLess x.name.toList last.toList || x.name.toList == last.toList) = leB x.name last := rfl
        have hle : (0 < k ∧ (match xs[k - 1]? with | some y => leB x.name y.name | none => false) = true) ↔ leB x.name last = true := by
          by_cases c4 : 0 < k
          · obtain ⟨y, hy, rfl⟩ := hl1 c4
            rw [hy]
            exact ⟨fun h => h.2, fun h => ⟨c4, h⟩⟩
          · have hl := hl0 (by omega)
            subst hl
            constructor
            · intro h; exact absurd h.1 c4
            · intro h
              exfalso
              have hne : x.name.toList ≠ [] := by
                intro he
                unfold nameB nameL at c1
                have : x.name.data.toList = [] := by rw [← ByteArray.toList_eq]; exact he
                rw [this] at c1
                simp at c1
              unfold leB at h
              cases hq : x.name.toList with
              | nil => exact hne hq
              | cons a r => rw [hq] at h; simp [ByteArray.toList_eq, Op.bytesLess] at h
        cases c5 : leB x.name last
        · simp [ht, h3, h9, h10, h11, hkl, hxe, hw2, within_not, c1, c2, hleB, c5] at hX
          subst hX
          have hz : slAt xs k = 0 := by rw [hsp, if_neg (by simp [c1]), if_neg (by simp [c2]), if_neg (fun h => by rw [hle.1 h] at c5; cases c5)]
          rw [if_pos hz] at hf
          exact .inl ⟨_, _, _, rfl, by simp [ht], by simp [h9], by simp [h10], by simp [ht], ⟨x.name, by simp [ht], fun h => by omega, fun _ => ⟨x, by simpa using hx, rfl⟩⟩, hf⟩
        · simp [ht, h3, h9, h10, h11, hkl, hxe, hw2, within_not, c1, c2, hleB, c5] at hX
          have hz : slAt xs k = 7 := by rw [hsp, if_neg (by simp [c1]), if_neg (by simp [c2]), if_pos (hle.2 c5)]
          rw [hz, if_neg (by decide)] at hf
          subst hX
          exact .inr ⟨_, _, rfl, by simp, _, by rw [if_neg (by omega)], by simp [ht], fun _ => by simp [ht, ← hf]⟩
      · simp [ht, h9, h10, h11, hkl, hxe, hw2, within_not, c1, c2] at hX
        have hz : slAt xs k = 1 := by rw [hsp, if_neg (by simp [c1]), if_pos c2]
        rw [hz, if_neg (by decide)] at hf
        subst hX
        exact .inr ⟨_, _, rfl, by simp, _, by rw [if_neg (by omega)], by simp [ht], fun _ => by simp [ht, ← hf]⟩
@[simp] theorem slotsFault_R (xs : List Sl) (ro nx : Nat) (hp : Heap) : R K 12 [.lst (encSls xs)] ro nx hp = some ⟨.int .i64 (slF xs), false, nx, hp⟩ := by
  unfold slF
  rw [R_val' K ro 12 _ nx hp [] Tryz.func12 rfl Tryz.ntmps12 Tryz.results12 (mu := []) rfl (by kernel_rfl) rfl rfl]; simp only [slim, slimO, annO, List.map, List.zip, List.zipWith, List.lookup, holed, Nat.reduceBEq]
  by_cases h : 2000 < xs.length
  · have h' : (2000 : Int) < xs.length := by omega
    simp [List.replicate, h, h']
  · have h' : ¬ (2000 : Int) < xs.length := by omega
    simp [List.replicate, h, h']
    generalize hb : X K _ (.loop _) _ = r
    have hk : LoopF 33 2 0 (errGo (slAt xs) xs.length 0) r := by
      rw [← hb]
      exact slotsFault_loop xs (by omega) _ _ _ (by simp) (by simp) (by simp) (by simp) (by simp)
    obtain ⟨⟨tm', nx', hp'⟩, rfl, h1, h2⟩ := hk
    simp only at h1 h2
    clear hb
    by_cases h0 : errGo (slAt xs) xs.length 0 = 0
    · simp [h0, h1]
    · simp [h0, h1, h2 h0]
/-- The names are in order. -/
theorem slF_zero {xs : List Sl} (h : slF xs = 0) : xs.length ≤ 2000 ∧ ∀ (i j : Nat) (x y : Sl), i < j → xs[i]? = some x → xs[j]? = some y → x.name.toList < y.name.toList := by
  unfold slF at h
  split at h
  · contradiction
  · rename_i hl
    have h0 := errGo_zero _ _ h
    have hn : ∀ (j : Nat) (x y : Sl), xs[j]? = some x → xs[j + 1]? = some y → x.name.toList < y.name.toList := by
      intro j x y hx hy
      have hj := (List.getElem?_eq_some_iff.1 hy).1
      have := h0 (j + 1) (by omega) (by omega)
      simp only [slAt, hy, Nat.add_sub_cancel, hx] at this
      apply leB_lt
      cases hq : leB y.name x.name with
      | false => rfl
      | true => simp only [hq] at this; grind
    refine ⟨by omega, ?_⟩
    intro i j x y hij hx hy
    induction j generalizing y with
    | zero => omega
    | succ j ih =>
      have hj := (List.getElem?_eq_some_iff.1 hy).1
      have hz := List.getElem?_eq_getElem (l := xs) (i := j) (by omega)
      have h1 := hn j _ y hz hy
      by_cases e : i = j
      · subst e
        rw [hx] at hz; cases hz; exact h1
      · exact List.lt_trans (ih _ (by omega) hz) h1
end Go.Proofs.YtleimfinniclgaaGreatDoor.M
/- Values of expressions: maps, operators. -/
namespace Go.Proofs.YtleimfinniclgaaGreatDoor.M
open Go.Proofs Go.Proofs.YtleimfinniclgaaGreatDoor.X
set_option linter.unusedSimpArgs false
set_option linter.unusedVariables false
set_option maxRecDepth 100000
set_option pp.deepTerms false
set_option pp.deepTerms.threshold 6
set_option maxHeartbeats 4000000
/-- Maps with strings for keys. -/
def mapP (l : List (ByteArray × AVal)) : List (AVal × AVal) := l.map fun p => (.str p.1, p.2)
def lookP : List (ByteArray × AVal) → ByteArray → Option AVal
  | [], _ => none
  | p :: r, s => if (s.toList == p.1.toList) = true then some p.2 else lookP r s
theorem bytes_ext {a b : ByteArray} (h : a.toList = b.toList) : a = b := by
  rw [ByteArray.toList_eq, ByteArray.toList_eq] at h
  cases a; cases b
  simp only [ByteArray.mk.injEq]
  exact Array.ext' h
theorem afind_P (s : ByteArray) : ∀ (l : List (ByteArray × AVal)) (i : Nat), (lookP l s = none ∧ afind (.str s) (mapP l) i = some none) ∨ ∃ (j : Nat) (v : AVal), lookP l s = some v ∧ afind (.str s) (mapP l) i = some (some (i + j, v)) ∧ l[j]? = some (s, v) := by
  intro l
  induction l with
  | nil => intro i; exact .inl ⟨rfl, rfl⟩
  | cons p r ih =>
    intro i
    cases c : (s.toList == p.1.toList)
    · have hf : afind (.str s) (mapP (p :: r)) i = afind (.str s) (mapP r) (i + 1) := by
        show (match akeq (.str s) (.str p.1) with | some true => some (some (i, p.2)) | some false => afind (.str s) (mapP r) (i + 1) | none => none) = _
        simp only [akeq, c]
      rw [hf, lookP, if_neg (by rw [c]; decide)]
      rcases ih (i + 1) with h | ⟨j, v, h1, h2, h3⟩
      · exact .inl h
      · exact .inr ⟨j + 1, v, h1, by rw [h2, show i + 1 + j = i + (j + 1) by omega], by simpa using h3⟩
    · refine .inr ⟨0, p.2, by rw [lookP, if_pos c], ?_, ?_⟩
      · show (match akeq (.str s) (.str p.1) with | some true => some (some (i, p.2)) | some false => afind (.str s) (mapP r) (i + 1) | none => none) = _
        simp only [akeq, c]
        rfl
      · have : s = p.1 := bytes_ext (by simpa using c)
        subst this
        rfl
def pairV (l : List Sl) : List (ByteArray × AVal) := l.map fun x => (x.name, .int .i64 x.val)
def mapSl (l : List Sl) : List (AVal × AVal) := mapP (pairV l)
def lookV : List Sl → ByteArray → Int
  | [], _ => 0
  | x :: r, s => if (s.toList == x.name.toList) = true then x.val else lookV r s
theorem lookP_V (s : ByteArray) (l : List Sl) : (lookP (pairV l) s = none ∧ lookV l s = 0) ∨ lookP (pairV l) s = some (.int .i64 (lookV l s)) := by
  induction l with
  | nil => exact .inl ⟨rfl, rfl⟩
  | cons x r ih =>
    show (lookP ((x.name, .int .i64 x.val) :: pairV r) s = none ∧ _) ∨ lookP ((x.name, .int .i64 x.val) :: pairV r) s = _
    rw [lookP, lookV]
    split
    · exact .inr rfl
    · exact ih
theorem azeroI : azero Tryz.prog 3 = some (.int .i64 0) := by kernel_rfl
theorem akeyS (s : ByteArray) : akey Tryz.prog 9 (.str s) = true := rfl
theorem alook_V {l : List Sl} {m : Nat} {hp : Heap} (h : hget hp m = some (.map (mapSl l))) (s : ByteArray) : alookup Tryz.prog 43 (.map m) (.str s) false hp = some (.int .i64 (lookV l s)) := by
  unfold alookup
  rw [show (Tryz.prog).underlying 43 = some (.map 9 3) from by kernel_rfl]
  dsimp only
  rw [if_pos (akeyS s), h]
  dsimp only
  rcases afind_P s (pairV l) 0 with ⟨h1, h2⟩ | ⟨j, v, h1, h2, h3⟩
  · rw [show afind (.str s) (mapSl l) 0 = some none from h2]
    rcases lookP_V s l with ⟨_, q⟩ | q
    · dsimp only
      rw [azeroI, q]; rfl
    · rw [h1] at q; cases q
  · rw [show afind (.str s) (mapSl l) 0 = some (some (0 + j, v)) from h2]
    rcases lookP_V s l with ⟨q, _⟩ | q
    · rw [h1] at q; cases q
    · rw [h1] at q
      injection q with q
      subst q
      rfl
theorem lookP_take {xs : List Sl} (h : ∀ (i j : Nat) (x y : Sl), i < j → xs[i]? = some x → xs[j]? = some y → x.name.toList < y.name.toList) {k : Nat} {x : Sl} (hx : xs[k]? = some x) : lookP (pairV (xs.take k)) x.name = none := by
  rcases afind_P x.name (pairV (xs.take k)) 0 with ⟨h1, _⟩ | ⟨j, v, _, _, h3⟩
  · exact h1
  · exfalso
    unfold pairV at h3
    rw [List.getElem?_map] at h3
    obtain ⟨y, hy, hye⟩ := Option.map_eq_some_iff.1 h3
    injection hye with hye _
    have hj := (List.getElem?_eq_some_iff.1 hy).1
    rw [List.length_take] at hj
    rw [List.getElem?_take_of_lt (by omega)] at hy
    have := h j k y x (by omega) hy hx
    rw [hye] at this
    exact List.lt_irrefl _ this
theorem amapset_V {l : List Sl} {m lo : Nat} {hp : Heap} (h : hget hp m = some (.map (mapSl l))) (x : Sl) (hx : lookP (pairV l) x.name = none) (hlo : lo ≤ m) : amapset Tryz.prog lo 43 (.map m) (.str x.name) (.int .i64 x.val) hp = some (hset hp m (.map (mapSl (l ++ [x])))) := by
  unfold amapset
  rw [show (Tryz.prog).underlying 43 = some (.map 9 3) from by kernel_rfl]
  dsimp only
  rw [if_pos (akeyS _), h]
  dsimp only
  rcases afind_P x.name (pairV l) 0 with ⟨_, h2⟩ | ⟨j, v, h1, _⟩
  · rw [if_pos hlo, show afind (.str x.name) (mapSl l) 0 = some none from h2]
    simp [mapSl, mapP, pairV]
  · rw [hx] at h1; cases h1
/-- A map of slots is filled. -/
structure Filled (xs : List Sl) (nx : Nat) (hp : Heap) (n' : Nat) (hp' : Heap) : Prop where
  le : nx + 2 ≤ n'
  map : hget hp' nx = some (.map (mapSl xs))
  old : ∀ id, id < nx → hget hp' id = hget hp id
theorem values_R (xs : List Sl) (hl : xs.length ≤ 2000) (h : ∀ (i j : Nat) (x y : Sl), i < j → xs[i]? = some x → xs[j]? = some y → x.name.toList < y.name.toList) (ro nx : Nat) (hp : Heap) (hro : ro ≤ nx) :
    ∃ n' hp', R K 81 [.lst (encSls xs)] ro nx hp = some ⟨.clo 160 [] [.ptr (nx + 1) 0], false, n', hp'⟩ ∧ Filled xs nx hp n' hp' ∧ hget hp' (nx + 1) = some (.cells [(.map nx, false)]) := by
  have e := LB_open (P := Tryz.prog) [] 0 Tryz.func81 rfl rfl (by kernel_rfl)
  simp only [slim, slimO, annO, List.map, List.zip, List.zipWith, List.lookup, holed, loopsOf, List.nil_append, List.cons_append, List.getD_cons_zero, List.getD_cons_succ, Nat.reduceBEq] at e
  have hloop := rounds (K := K) (ro := ⟨ro, []⟩) e xs.length (fun k tm n h1 => tm.length = 20 ∧ getC tm 3 = (.ptr (nx + 1) 0, false) ∧ getC tm 7 = (.lst (encSls xs), false) ∧ getC tm 8 = (.int .i64 xs.length, false) ∧ getC tm 9 = (.int .i64 k, false) ∧ Filled (xs.take k) nx hp n h1 ∧ hget h1 (nx + 1) = some (.cells [(.map nx, false)]))
    (fun r => ∃ tm' n' hp', r = some (.exit 0, ⟨tm', n', hp'⟩) ∧ tm'.length = 20 ∧ getC tm' 3 = (.ptr (nx + 1) 0, false) ∧ Filled xs nx hp n' hp' ∧ hget hp' (nx + 1) = some (.cells [(.map nx, false)])) ?_ ?_ 0
  · generalize hX : R K _ _ _ _ _ = x
    have hro1 : ro ≤ nx + 1 := by omega
    rw [R_body' K ro 81 _ nx hp [] Tryz.func81 rfl Tryz.ntmps81 Tryz.results81 (mu := []) rfl (by kernel_rfl) rfl rfl rfl] at hX; simp only [slim, slimO, annO, List.map, List.zip, List.zipWith, List.lookup, holed, Nat.reduceBEq] at hX
    simp [List.replicate, hro, hro1] at hX
    generalize hb : X K _ (.loop _) _ = r at hX
    obtain ⟨tm', n', hp', rfl, t1, t2, t3, t4⟩ : ∃ tm' n' hp', r = some (.exit 0, ⟨tm', n', hp'⟩) ∧ tm'.length = 20 ∧ getC tm' 3 = (.ptr (nx + 1) 0, false) ∧ Filled xs nx hp n' hp' ∧ hget hp' (nx + 1) = some (.cells [(.map nx, false)]) := by
      rw [← hb]
      refine hloop _ _ _ (by omega) ⟨?_, ?_, ?_, ?_, ?_, ⟨?_, ?_, ?_⟩, ?_⟩
      rotate_left 7
      · intro id hid
        have q1 : ¬ nx = id := by omega
        have q2 : ¬ nx + 1 = id := by omega
        have q3 : ¬ id = nx := by omega
        have q4 : ¬ id = nx + 1 := by omega
        simp [q1, q2, q3, q4]
      all_goals simp [mapSl, mapP, pairV, hro]
    clear hb hloop
    refine ⟨n', hp', ?_, t3, t4⟩
    rw [← hX]
    simp [t1, t2]
  · rintro tm n hp1 r ⟨ht, h3, h7, h8, h9, hF, hc⟩ hX
    simp [ht, h8, h9] at hX
    subst hX
    rw [List.take_length] at hF
    exact ⟨_, _, rfl, by simp, _, _, _, rfl, by simp [ht], by simp [h3], hF, hc⟩
  · rintro k tm n hp1 r hk ⟨ht, h3, h7, h8, h9, hF, hc⟩ hX
    left
    obtain ⟨f1, f2, f3⟩ := hF
    have hx := List.getElem?_eq_getElem (l := xs) (i := k) hk
    have htk : xs.take (k + 1) = xs.take k ++ [xs[k]] := by rw [List.take_add_one, hx]; rfl
    generalize xs[k] = x at hx htk
    have hkl : (k : Int) < xs.length := by omega
    have hxe := encSls_at hx
    have hw2 : IntKind.i64.wrap ((k : Int) + 1) = (k : Int) + 1 := wrap_small (by omega) (by omega)
    simp only [encSl] at hxe
    have hnew := lookP_take h hx
    have ham := fun hp (hh : hget hp nx = some (.map (mapSl (xs.take k)))) => amapset_V (lo := ro) hh x hnew hro
    have q1 : ¬ n = nx := by omega
    have q2 : ¬ nx = n := by omega
    have q3 : ¬ n = nx + 1 := by omega
    have q4 : ¬ nx + 1 = n := by omega
    have q5 : ro ≤ n := by omega
    simp [ht, h3, h7, h8, h9, hkl, hxe, hw2, q1, q2, q3, q4, q5, f2, hc, ham] at hX
    subst hX
    refine ⟨_, _, _, rfl, by simp [ht], by simp [h3], by simp [h7], by simp [h8], by simp [ht], ⟨by omega, ?_, fun id hid => ?_⟩, ?_⟩
    · simp [q1, q2, f2, htk]
    · have w1 : ¬ n = id := by omega
      have w2 : ¬ id = n := by omega
      have w3 : ¬ id = nx := by omega
      simp [w1, w2, w3, f3 id hid]
    · have w5 : ¬ nx + 1 = nx := by omega
      simp [q3, q4, w5, hc]
theorem table_R (xs : List Sl) (hl : xs.length ≤ 2000) (h : ∀ (i j : Nat) (x y : Sl), i < j → xs[i]? = some x → xs[j]? = some y → x.name.toList < y.name.toList) (ro nx : Nat) (hp : Heap) (hro : ro ≤ nx) :
    ∃ n' hp', R K 18 [.lst (encSls xs)] ro nx hp = some ⟨.map nx, false, n', hp'⟩ ∧ nx + 1 ≤ n' ∧ hget hp' nx = some (.map (mapSl xs)) ∧ ∀ id, id < nx → hget hp' id = hget hp id := by
  have e := LB_open (P := Tryz.prog) [] 0 Tryz.func18 rfl rfl (by kernel_rfl)
  simp only [slim, slimO, annO, List.map, List.zip, List.zipWith, List.lookup, holed, loopsOf, List.nil_append, List.cons_append, List.getD_cons_zero, List.getD_cons_succ, Nat.reduceBEq] at e
  have hloop := rounds (K := K) (ro := ⟨ro, []⟩) e xs.length (fun k tm n h1 => tm.length = 20 ∧ getC tm 3 = (.map nx, false) ∧ getC tm 7 = (.lst (encSls xs), false) ∧ getC tm 8 = (.int .i64 xs.length, false) ∧ getC tm 9 = (.int .i64 k, false) ∧ nx + 1 ≤ n ∧ hget h1 nx = some (.map (mapSl (xs.take k))) ∧ ∀ id, id < nx → hget h1 id = hget hp id)
    (fun r => ∃ tm' n' hp', r = some (.exit 0, ⟨tm', n', hp'⟩) ∧ tm'.length = 20 ∧ getC tm' 3 = (.map nx, false) ∧ nx + 1 ≤ n' ∧ hget hp' nx = some (.map (mapSl xs)) ∧ ∀ id, id < nx → hget hp' id = hget hp id) ?_ ?_ 0
  · generalize hX : R K _ _ _ _ _ = x
    rw [R_body' K ro 18 _ nx hp [] Tryz.func18 rfl Tryz.ntmps18 Tryz.results18 (mu := []) rfl (by kernel_rfl) rfl rfl rfl] at hX; simp only [slim, slimO, annO, List.map, List.zip, List.zipWith, List.lookup, holed, Nat.reduceBEq] at hX
    simp [List.replicate] at hX
    generalize hb : X K _ (.loop _) _ = r at hX
    obtain ⟨tm', n', hp', rfl, t1, t2, t3, t4, t5⟩ : ∃ tm' n' hp', r = some (.exit 0, ⟨tm', n', hp'⟩) ∧ tm'.length = 20 ∧ getC tm' 3 = (.map nx, false) ∧ nx + 1 ≤ n' ∧ hget hp' nx = some (.map (mapSl xs)) ∧ ∀ id, id < nx → hget hp' id = hget hp id := by
      rw [← hb]
      refine hloop _ _ _ (by omega) ⟨?_, ?_, ?_, ?_, ?_, ?_, ?_, ?_⟩
      rotate_left 7
      · intro id hid
        have q1 : ¬ nx = id := by omega
        have q3 : ¬ id = nx := by omega
        simp [q1, q3]
      all_goals simp [mapSl, mapP, pairV, hro]
    clear hb hloop
    refine ⟨n', hp', ?_, t3, t4, t5⟩
    rw [← hX]
    simp [t1, t2]
  · rintro tm n hp1 r ⟨ht, h3, h7, h8, h9, hn, hm, ho⟩ hX
    simp [ht, h8, h9] at hX
    subst hX
    rw [List.take_length] at hm
    exact ⟨_, _, rfl, by simp, _, _, _, rfl, by simp [ht], by simp [h3], hn, hm, ho⟩
  · rintro k tm n hp1 r hk ⟨ht, h3, h7, h8, h9, f1, f2, f3⟩ hX
    left
    have hx := List.getElem?_eq_getElem (l := xs) (i := k) hk
    have htk : xs.take (k + 1) = xs.take k ++ [xs[k]] := by rw [List.take_add_one, hx]; rfl
    generalize xs[k] = x at hx htk
    have hkl : (k : Int) < xs.length := by omega
    have hxe := encSls_at hx
    have hw2 : IntKind.i64.wrap ((k : Int) + 1) = (k : Int) + 1 := wrap_small (by omega) (by omega)
    simp only [encSl] at hxe
    have hnew := lookP_take h hx
    have ham := fun hp (hh : hget hp nx = some (.map (mapSl (xs.take k)))) => amapset_V (lo := ro) hh x hnew hro
    have q1 : ¬ n = nx := by omega
    have q2 : ¬ nx = n := by omega
    have q5 : ro ≤ n := by omega
    simp [ht, h3, h7, h8, h9, hkl, hxe, hw2, q1, q2, q5, f2, ham] at hX
    subst hX
    refine ⟨_, _, _, rfl, by simp [ht], by simp [h3], by simp [h7], by simp [h8], by simp [ht], by omega, ?_, fun id hid => ?_⟩
    · simp [q1, q2, f2, htk]
    · have w1 : ¬ n = id := by omega
      have w2 : ¬ id = n := by omega
      have w3 : ¬ id = nx := by omega
      simp [w1, w2, w3, f3 id hid]
def trV (b : Bool) : Int := if b then 1 else 0
@[simp] theorem truthV_R (b : Bool) (ro nx : Nat) (hp : Heap) : R K 172 [.bool b] ro nx hp = some ⟨.int .i64 (trV b), false, nx, hp⟩ := by
  rw [R_val' K ro 172 _ nx hp [] Tryz.func172 rfl Tryz.ntmps172 Tryz.results172 (mu := []) rfl (by kernel_rfl) rfl rfl]; simp only [slim, slimO, annO, List.map, List.zip, List.zipWith, List.lookup, holed, Nat.reduceBEq]
  cases b <;> simp [List.replicate, trV]
@[simp] theorem truthR_R (b : Bool) (ro nx : Nat) (hp : Heap) : R K 164 [.bool b] ro nx hp = some ⟨.int .i64 (trV b), false, nx, hp⟩ := by
  rw [R_val' K ro 164 _ nx hp [] Tryz.func164 rfl Tryz.ntmps164 Tryz.results164 (mu := []) rfl (by kernel_rfl) rfl rfl]; simp only [slim, slimO, annO, List.map, List.zip, List.zipWith, List.lookup, holed, Nat.reduceBEq]
  cases b <;> simp [List.replicate, trV]
/-- The value of an operator, as the machine computes it. -/
def opV (op a b c : Int) : Int := if op = 3 then (IntKind.i64.wrap (a + b)).tmod 1000 else if op = 4 then (IntKind.i64.wrap (IntKind.i64.wrap (a - b) + 1000)).tmod 1000 else if op = 5 then (IntKind.i64.wrap (a * b)).tmod 1000
  else if op = 6 then trV (decide (a < b)) else if op = 7 then trV (a == b) else if op = 8 then trV (a == 0) else if a ≠ 0 then b else c
def appV (op : Int) (l : List Int) : Int := opV op (l.getD 0 0) (l.getD 1 0) (l.getD 2 0)
theorem arity_list {op : Int} (h : 3 ≤ op ∧ op ≤ 9) {α : Type} (l : List α) (hl : (l.length : Int) = arityF op) : ((op = 3 ∨ op = 4 ∨ op = 5 ∨ op = 6 ∨ op = 7) ∧ ∃ a b, l = [a, b]) ∨ (op = 8 ∧ ∃ a, l = [a]) ∨ (op = 9 ∧ ∃ a b c, l = [a, b, c]) := by
  have h37 : (op = 3 ∨ op = 4 ∨ op = 5 ∨ op = 6 ∨ op = 7) ∨ op = 8 ∨ op = 9 := by omega
  rcases h37 with c | c | c
  · have : arityF op = 2 := by unfold arityF; grind
    refine .inl ⟨c, ?_⟩
    match l, hl with
    | [a, b], _ => exact ⟨a, b, rfl⟩
    | [], hl => simp at hl; omega
    | [_], hl => simp at hl; omega
    | _ :: _ :: _ :: _, hl => simp at hl; omega
  · refine .inr (.inl ⟨c, ?_⟩)
    subst c
    match l, hl with
    | [a], _ => exact ⟨a, rfl⟩
    | [], hl => simp [arityF] at hl
    | _ :: _ :: _, hl => simp [arityF] at hl; omega
  · refine .inr (.inr ⟨c, ?_⟩)
    subst c
    match l, hl with
    | [a, b, e], _ => exact ⟨a, b, e, rfl⟩
    | [], hl => simp [arityF] at hl
    | [_], hl => simp [arityF] at hl
    | [_, _], hl => simp [arityF] at hl
    | _ :: _ :: _ :: _ :: _, hl => simp [arityF] at hl; omega
theorem apply_R (op : Int) (h : 3 ≤ op ∧ op ≤ 9) (l : List Int) (hl : (l.length : Int) = arityF op) (ro nx : Nat) (hp : Heap) : R K 100 [.int .i64 op, .lst (ints' l)] ro nx hp = some ⟨.int .i64 (appV op l), false, nx, hp⟩ := by
  rcases arity_list h l hl with ⟨c, a, b, rfl⟩ | ⟨rfl, a, rfl⟩ | ⟨rfl, a, b, c, rfl⟩
  · rcases c with rfl | rfl | rfl | rfl | rfl
    all_goals
      rw [R_val' K ro 100 _ nx hp [] Tryz.func100 rfl Tryz.ntmps100 Tryz.results100 (mu := []) rfl (by kernel_rfl) rfl rfl]; simp only [slim, slimO, annO, List.map, List.zip, List.zipWith, List.lookup, holed, Nat.reduceBEq]
      simp [List.replicate, ints', appV, opV]
  · rw [R_val' K ro 100 _ nx hp [] Tryz.func100 rfl Tryz.ntmps100 Tryz.results100 (mu := []) rfl (by kernel_rfl) rfl rfl]; simp only [slim, slimO, annO, List.map, List.zip, List.zipWith, List.lookup, holed, Nat.reduceBEq]
    simp [List.replicate, ints', appV, opV]
  · rw [R_val' K ro 100 _ nx hp [] Tryz.func100 rfl Tryz.ntmps100 Tryz.results100 (mu := []) rfl (by kernel_rfl) rfl rfl]; simp only [slim, slimO, annO, List.map, List.zip, List.zipWith, List.lookup, holed, Nat.reduceBEq]
    by_cases ha : a = 0 <;> simp [List.replicate, ints', appV, opV, ha]
theorem computed_R (op : Int) (h : 3 ≤ op ∧ op ≤ 9) (l : List Int) (hl : (l.length : Int) = arityF op) (ro nx : Nat) (hp : Heap) : R K 84 [.int .i64 op, .lst (ints' l)] ro nx hp = some ⟨.int .i64 (appV op l), false, nx, hp⟩ := by
  rcases arity_list h l hl with ⟨c, a, b, rfl⟩ | ⟨rfl, a, rfl⟩ | ⟨rfl, a, b, c, rfl⟩
  · rcases c with rfl | rfl | rfl | rfl | rfl
    all_goals
      rw [R_val' K ro 84 _ nx hp [] Tryz.func84 rfl Tryz.ntmps84 Tryz.results84 (mu := []) rfl (by kernel_rfl) rfl rfl]; simp only [slim, slimO, annO, List.map, List.zip, List.zipWith, List.lookup, holed, Nat.reduceBEq]
      simp [List.replicate, ints', appV, opV]
  · rw [R_val' K ro 84 _ nx hp [] Tryz.func84 rfl Tryz.ntmps84 Tryz.results84 (mu := []) rfl (by kernel_rfl) rfl rfl]; simp only [slim, slimO, annO, List.map, List.zip, List.zipWith, List.lookup, holed, Nat.reduceBEq]
    simp [List.replicate, ints', appV, opV]
  · rw [R_val' K ro 84 _ nx hp [] Tryz.func84 rfl Tryz.ntmps84 Tryz.results84 (mu := []) rfl (by kernel_rfl) rfl rfl]; simp only [slim, slimO, annO, List.map, List.zip, List.zipWith, List.lookup, holed, Nat.reduceBEq]
    by_cases ha : a = 0 <;> simp [List.replicate, ints', appV, opV, ha]
end Go.Proofs.YtleimfinniclgaaGreatDoor.M
/- Values of expressions: the program and the reference. -/
namespace Go.Proofs.YtleimfinniclgaaGreatDoor.M
open Go.Proofs Go.Proofs.YtleimfinniclgaaGreatDoor.X
set_option linter.unusedSimpArgs false
set_option linter.unusedVariables false
set_option maxRecDepth 100000
set_option pp.deepTerms false
set_option pp.deepTerms.threshold 6
set_option maxHeartbeats 4000000
mutual
def valX (t : ByteArray → Int) : Ex → Int
  | .mk o n s a => if o = 1 then n else if o = 2 then t s else appV o (valXs t a)
def valXs (t : ByteArray → Int) : List Ex → List Int
  | [] => []
  | x :: r => valX t x :: valXs t r
end
theorem valX_eq (t : ByteArray → Int) (x : Ex) : valX t x = if x.op = 1 then x.n else if x.op = 2 then t x.name else appV x.op (valXs t x.args) := by cases x; rw [valX]; rfl
theorem valXs_eq (t : ByteArray → Int) (r : List Ex) : valXs t r = r.map (valX t) := by induction r with | nil => rfl | cons x r ih => simp [valXs, ih]
@[simp] theorem ints'_len (l : List Int) : (ints' l).length = l.length := by simp [ints']
@[simp] theorem ints'_app (l : List Int) (x : Int) : ints' l ++ [.int .i64 x] = ints' (l ++ [x]) := by simp [ints']
@[simp] theorem ints'_ids (n : Nat) (l : List Int) : idsLts n (ints' l) = true := ints_ids n l
@[simp] theorem ints'_head (l : List Int) : headOk (ints' l) 1 = true := by cases l <;> rfl
/-- A closure that tells a variable's value, whatever lies above b. -/
def CloOk (g : FuncId) (cs : List AVal) (t : ByteArray → Int) (b : Nat) (hp0 : Heap) : Prop := ∀ s ro nx hp, b ≤ nx → (∀ id, id < b → hget hp id = hget hp0 id) → R K g (.str s :: cs) ro nx hp = some ⟨.int .i64 (t s), false, nx, hp⟩
theorem cloV (xs : List Sl) (m p b : Nat) (hp0 : Heap) (hm : m < b) (hpb : p < b) (h1 : hget hp0 m = some (.map (mapSl xs))) (h2 : hget hp0 p = some (.cells [(.map m, false)])) : CloOk 160 [.ptr p 0] (lookV xs) b hp0 := by
  intro s ro nx hp hb he
  have q1 := (he p hpb).trans h2
  have q2 := (he m hm).trans h1
  have hla := alook_V q2 s
  rw [R_pure' K ro 160 _ nx hp [] Tryz.func160 rfl Tryz.ntmps160 Tryz.results160 (mu := []) rfl (by kernel_rfl) rfl rfl rfl]; simp only [slim, slimO, annO, List.map, List.zip, List.zipWith, List.lookup, holed, Nat.reduceBEq]
  simp [List.replicate, q1, hla]
theorem of_loop (g : FuncId) (cs : List AVal) (t : ByteArray → Int) (b lo : Nat) (hp0 : Heap) (hc : CloOk g cs t b hp0) (es : List Ex) (hl : es.length < 1000) (hlo : b ≤ lo) (ih : ∀ x ∈ es, ∀ ro nx hp, b ≤ nx → (∀ id, id < b → hget hp id = hget hp0 id) → R K 80 [encX x, .clo g [] cs] ro nx hp = some ⟨.int .i64 (valX t x), false, nx, hp⟩)
    (tm : List Cell) (nx : Nat) (hp : Heap) (hnx : lo ≤ nx) (hb : ∀ id, id < b → hget hp id = hget hp0 id) (ht : tm.length = 38) (h1 : getC tm 1 = (.clo g [] cs, false)) (h21 : getC tm 21 = (.lst (encXs es), false)) (h22 : getC tm 22 = (.int .i64 es.length, false)) (h23 : getC tm 23 = (.int .i64 0, false)) (h5 : getC tm 5 = (.lst [], true)) :
    ∃ tm' n' hp', X K ⟨lo, []⟩ (.loop (LB Tryz.prog 80 [] 0)) ⟨tm, nx, hp⟩ = some (.exit 1, ⟨tm', n', hp'⟩) ∧ tm'.length = 38 ∧ getC tm' 2 = getC tm 2 ∧ getC tm' 5 = (.lst (ints' (valXs t es)), true) ∧ nx ≤ n' ∧ ∀ id, id < nx → hget hp' id = hget hp id := by
  have e := LB_open (P := Tryz.prog) [] 0 Tryz.func80 rfl rfl (by kernel_rfl)
  simp only [slim, slimO, annO, List.map, List.zip, List.zipWith, List.lookup, holed, loopsOf, List.nil_append, List.cons_append, List.getD_cons_zero, List.getD_cons_succ, Nat.reduceBEq] at e
  refine rounds e es.length (fun k tm1 n h => tm1.length = 38 ∧ getC tm1 1 = (.clo g [] cs, false) ∧ getC tm1 21 = (.lst (encXs es), false) ∧ getC tm1 22 = (.int .i64 es.length, false) ∧ getC tm1 23 = (.int .i64 k, false) ∧ getC tm1 5 = (.lst (ints' (valXs t (es.take k))), true) ∧ getC tm1 2 = getC tm 2 ∧ nx ≤ n ∧ ∀ id, id < nx → hget h id = hget hp id)
    (fun r => ∃ tm' n' hp', r = some (.exit 1, ⟨tm', n', hp'⟩) ∧ tm'.length = 38 ∧ getC tm' 2 = getC tm 2 ∧ getC tm' 5 = (.lst (ints' (valXs t es)), true) ∧ nx ≤ n' ∧ ∀ id, id < nx → hget hp' id = hget hp id) ?_ ?_ 0 tm nx hp (by omega) ⟨ht, h1, h21, h22, h23, h5, rfl, Nat.le_refl _, fun _ _ => rfl⟩
  · rintro tm1 n h r ⟨ht, h1, h21, h22, h23, h5, h2, hn, ho⟩ hX
    rw [List.take_length] at h5
    simp [ht, h22, h23] at hX
    subst hX
    exact ⟨_, _, rfl, by simp, _, _, _, rfl, by simp [ht], by simp [h2], by simp [h5], hn, ho⟩
  · rintro k tm1 n h r hk ⟨ht, h1, h21, h22, h23, h5, h2, hn, ho⟩ hX
    left
    have hx := List.getElem?_eq_getElem (l := es) (i := k) hk
    have htk : valXs t (es.take (k + 1)) = valXs t (es.take k) ++ [valX t es[k]] := by
      rw [List.take_add_one, hx, valXs_eq, valXs_eq, List.map_append]; rfl
    generalize es[k] = x at hx htk
    have hkl : (k : Int) < es.length := by omega
    have hxe := encXs_at hx
    have hw2 : IntKind.i64.wrap ((k : Int) + 1) = (k : Int) + 1 := wrap_small (by omega) (by omega)
    have hlen : (valXs t (es.take k)).length < 1000 := by rw [valXs_eq, List.length_map, List.length_take]; omega
    have hlen : ((valXs t (es.take k)).length + 1) * 8 ≤ 140737488355328 := by omega
    have hlon : lo ≤ n := by omega
    have hxm := fun c => ih x (List.mem_of_getElem? hx) lo (n + 1) ((n, c) :: h) (by omega) fun id hid => by
      have q1 : ¬ n = id := by omega
      have q2 : ¬ id = n := by omega
      rw [← hb id hid, ← ho id (by omega)]
      simp [q1, q2]
    rw [encX_eq] at hxm hxe
    simp [ht, h1, h21, h22, h23, h5, hkl, hxe, hw2, hlon, hxm, hlen] at hX
    subst hX
    refine ⟨_, _, _, rfl, by simp [ht], by simp [h1], by simp [h21], by simp [h22], by simp [ht], by simp [ht, htk], by simp [h2], by omega, fun id hid => ?_⟩
    have q1 : ¬ n = id := by omega
    have q2 : ¬ id = n := by omega
    simp [q1, q2, ho id hid]
theorem of_R (g : FuncId) (cs : List AVal) (t : ByteArray → Int) (b : Nat) (hp0 : Heap) (hc : CloOk g cs t b hp0) : ∀ (N : Nat) (x : Ex) (d : Int), SizeOf.sizeOf x < N → exF x d = 0 → ∀ (ro nx : Nat) (hp : Heap), b ≤ nx → (∀ id, id < b → hget hp id = hget hp0 id) → R K 80 [encX x, .clo g [] cs] ro nx hp = some ⟨.int .i64 (valX t x), false, nx, hp⟩ := by
  intro N
  induction N with
  | zero => intro x d hx; omega
  | succ N ih =>
    intro x d hx hf ro nx hp hb ho
    obtain ⟨h1, h2⟩ := exF_zero hf
    obtain ⟨q1, q2, q3, q4, q5, q6, q7, q8, q9⟩ := own_zero h1
    have hn : ∀ c id, id < b → hget ((nx, c) :: hp) id = hget hp0 id := fun c id hid => by
      have q1 : ¬ nx = id := by omega
      have q2 : ¬ id = nx := by omega
      rw [← ho id hid]
      simp [q1, q2]
    by_cases c1 : x.op = 1
    · rw [valX_eq, if_pos c1]
      rw [R_pure' K ro 80 _ nx hp [] Tryz.func80 rfl Tryz.ntmps80 Tryz.results80 (mu := []) rfl (by kernel_rfl) rfl rfl rfl]; simp only [slim, slimO, annO, List.map, List.zip, List.zipWith, List.lookup, holed, Nat.reduceBEq]
      simp [List.replicate, encX_eq, encXs_len, c1]
    · by_cases c2 : x.op = 2
      · rw [valX_eq, if_neg c1, if_pos c2]
        have hcl := fun ro c => hc x.name ro (nx + 1) ((nx, c) :: hp) (by omega) (hn c)
        rw [R_pure' K ro 80 _ nx hp [] Tryz.func80 rfl Tryz.ntmps80 Tryz.results80 (mu := []) rfl (by kernel_rfl) rfl rfl rfl]; simp only [slim, slimO, annO, List.map, List.zip, List.zipWith, List.lookup, holed, Nat.reduceBEq]
        simp [List.replicate, encX_eq, encXs_len, c1, c2, hcl]
      · rw [valX_eq, if_neg c1, if_neg c2]
        have ha := arity_le x.op
        have hloop := fun tm nx' hp' => of_loop g cs t b nx hp0 hc x.args (by omega) hb (fun y hy ro2 nx2 hp2 b1 b2 => ih y (d + 1) (by have := args_lt hy; omega) (exsF_mem h2 y hy) ro2 nx2 hp2 b1 b2) tm nx' hp'
        have hop := fun ro nx hp => apply_R x.op (by omega) (valXs t x.args) (by rw [valXs_eq, List.length_map]; exact q4) ro nx hp
        rw [R_pure' K ro 80 _ nx hp [] Tryz.func80 rfl Tryz.ntmps80 Tryz.results80 (mu := []) rfl (by kernel_rfl) rfl rfl rfl]; simp only [slim, slimO, annO, List.map, List.zip, List.zipWith, List.lookup, holed, Nat.reduceBEq]
        simp [List.replicate, encX_eq, encXs_len, c1, c2]
        generalize hg : X K _ (.loop _) _ = r
        obtain ⟨tm', nx', hp', rfl, g1, g2, g3, g4, g5⟩ : ∃ tm' n' hp', r = some (.exit 1, ⟨tm', n', hp'⟩) ∧ tm'.length = 38 ∧ getC tm' 2 = (.ptr nx 0, false) ∧ getC tm' 5 = (.lst (ints' (valXs t x.args)), true) ∧ nx + 1 ≤ n' ∧ ∀ id, id < nx + 1 → hget hp' id = hget ((nx, .cells [(.int .i64 x.op, false), (.int .i64 x.n, false), (.str x.name, false), (.lst (encXs x.args), false)]) :: hp) id := by
          rw [← hg]
          exact hloop _ _ _ (by omega) (hn _) (by simp) (by simp) (by simp) (by simp) (by simp) (by simp)
        have g6 := g5 nx (by omega)
        simp at g6
        clear hg g5 hloop
        simp [g1, g2, g3, g6, hop]
theorem valueOf_loop (xs : List Sl) (m : Nat) (t : ByteArray → Int) (b lo : Nat) (hp0 : Heap) (hm : m < b) (hmm : hget hp0 m = some (.map (mapSl xs))) (htt : t = lookV xs) (es : List Ex) (hl : es.length < 1000) (hlo : b ≤ lo) (ih : ∀ x ∈ es, ∀ ro nx hp, b ≤ nx → (∀ id, id < b → hget hp id = hget hp0 id) → R K 17 [encX x, .map m] ro nx hp = some ⟨.int .i64 (valX t x), false, nx, hp⟩)
    (tm : List Cell) (nx : Nat) (hp : Heap) (hnx : lo ≤ nx) (hb : ∀ id, id < b → hget hp id = hget hp0 id) (ht : tm.length = 38) (h1 : getC tm 1 = (.map m, false)) (h21 : getC tm 21 = (.lst (encXs es), false)) (h22 : getC tm 22 = (.int .i64 es.length, false)) (h23 : getC tm 23 = (.int .i64 0, false)) (h5 : getC tm 5 = (.lst [], true)) :
    ∃ tm' n' hp', X K ⟨lo, []⟩ (.loop (LB Tryz.prog 17 [] 0)) ⟨tm, nx, hp⟩ = some (.exit 1, ⟨tm', n', hp'⟩) ∧ tm'.length = 38 ∧ getC tm' 2 = getC tm 2 ∧ getC tm' 5 = (.lst (ints' (valXs t es)), true) ∧ nx ≤ n' ∧ ∀ id, id < nx → hget hp' id = hget hp id := by
  have e := LB_open (P := Tryz.prog) [] 0 Tryz.func17 rfl rfl (by kernel_rfl)
  simp only [slim, slimO, annO, List.map, List.zip, List.zipWith, List.lookup, holed, loopsOf, List.nil_append, List.cons_append, List.getD_cons_zero, List.getD_cons_succ, Nat.reduceBEq] at e
  refine rounds e es.length (fun k tm1 n h => tm1.length = 38 ∧ getC tm1 1 = (.map m, false) ∧ getC tm1 21 = (.lst (encXs es), false) ∧ getC tm1 22 = (.int .i64 es.length, false) ∧ getC tm1 23 = (.int .i64 k, false) ∧ getC tm1 5 = (.lst (ints' (valXs t (es.take k))), true) ∧ getC tm1 2 = getC tm 2 ∧ nx ≤ n ∧ ∀ id, id < nx → hget h id = hget hp id)
    (fun r => ∃ tm' n' hp', r = some (.exit 1, ⟨tm', n', hp'⟩) ∧ tm'.length = 38 ∧ getC tm' 2 = getC tm 2 ∧ getC tm' 5 = (.lst (ints' (valXs t es)), true) ∧ nx ≤ n' ∧ ∀ id, id < nx → hget hp' id = hget hp id) ?_ ?_ 0 tm nx hp (by omega) ⟨ht, h1, h21, h22, h23, h5, rfl, Nat.le_refl _, fun _ _ => rfl⟩
  · rintro tm1 n h r ⟨ht, h1, h21, h22, h23, h5, h2, hn, ho⟩ hX
    rw [List.take_length] at h5
    simp [ht, h22, h23] at hX
    subst hX
    exact ⟨_, _, rfl, by simp, _, _, _, rfl, by simp [ht], by simp [h2], by simp [h5], hn, ho⟩
  · rintro k tm1 n h r hk ⟨ht, h1, h21, h22, h23, h5, h2, hn, ho⟩ hX
    left
    have hx := List.getElem?_eq_getElem (l := es) (i := k) hk
    have htk : valXs t (es.take (k + 1)) = valXs t (es.take k) ++ [valX t es[k]] := by
      rw [List.take_add_one, hx, valXs_eq, valXs_eq, List.map_append]; rfl
    generalize es[k] = x at hx htk
    have hkl : (k : Int) < es.length := by omega
    have hxe := encXs_at hx
    have hw2 : IntKind.i64.wrap ((k : Int) + 1) = (k : Int) + 1 := wrap_small (by omega) (by omega)
    have hlen : (valXs t (es.take k)).length < 1000 := by rw [valXs_eq, List.length_map, List.length_take]; omega
    have hlen : ((valXs t (es.take k)).length + 1) * 8 ≤ 140737488355328 := by omega
    have hlon : lo ≤ n := by omega
    have hxm := fun c => ih x (List.mem_of_getElem? hx) lo (n + 1) ((n, c) :: h) (by omega) fun id hid => by
      have q1 : ¬ n = id := by omega
      have q2 : ¬ id = n := by omega
      rw [← hb id hid, ← ho id (by omega)]
      simp [q1, q2]
    rw [encX_eq] at hxm hxe
    simp [ht, h1, h21, h22, h23, h5, hkl, hxe, hw2, hlon, hxm, hlen] at hX
    subst hX
    refine ⟨_, _, _, rfl, by simp [ht], by simp [h1], by simp [h21], by simp [h22], by simp [ht], by simp [ht, htk], by simp [h2], by omega, fun id hid => ?_⟩
    have q1 : ¬ n = id := by omega
    have q2 : ¬ id = n := by omega
    simp [q1, q2, ho id hid]
theorem valueOf_R (xs : List Sl) (m : Nat) (t : ByteArray → Int) (b : Nat) (hp0 : Heap) (hm : m < b) (hmm : hget hp0 m = some (.map (mapSl xs))) (htt : t = lookV xs) : ∀ (N : Nat) (x : Ex) (d : Int), SizeOf.sizeOf x < N → exF x d = 0 → ∀ (ro nx : Nat) (hp : Heap), b ≤ nx → (∀ id, id < b → hget hp id = hget hp0 id) → R K 17 [encX x, .map m] ro nx hp = some ⟨.int .i64 (valX t x), false, nx, hp⟩ := by
  intro N
  induction N with
  | zero => intro x d hx; omega
  | succ N ih =>
    intro x d hx hf ro nx hp hb ho
    obtain ⟨h1, h2⟩ := exF_zero hf
    obtain ⟨q1, q2, q3, q4, q5, q6, q7, q8, q9⟩ := own_zero h1
    have hn : ∀ c id, id < b → hget ((nx, c) :: hp) id = hget hp0 id := fun c id hid => by
      have q1 : ¬ nx = id := by omega
      have q2 : ¬ id = nx := by omega
      rw [← ho id hid]
      simp [q1, q2]
    by_cases c1 : x.op = 1
    · rw [valX_eq, if_pos c1]
      rw [R_pure' K ro 17 _ nx hp [] Tryz.func17 rfl Tryz.ntmps17 Tryz.results17 (mu := []) rfl (by kernel_rfl) rfl rfl rfl]; simp only [slim, slimO, annO, List.map, List.zip, List.zipWith, List.lookup, holed, Nat.reduceBEq]
      simp [List.replicate, encX_eq, encXs_len, c1]
    · by_cases c2 : x.op = 2
      · rw [valX_eq, if_neg c1, if_pos c2]
        have hcl := fun c => alook_V ((hn c m hm).trans hmm) x.name
        subst htt
        have hmn : ¬ nx = m := by omega
        have hmn2 : ¬ m = nx := by omega
        have hcl2 := alook_V ((ho m hm).trans hmm) x.name
        rw [R_pure' K ro 17 _ nx hp [] Tryz.func17 rfl Tryz.ntmps17 Tryz.results17 (mu := []) rfl (by kernel_rfl) rfl rfl rfl]; simp only [slim, slimO, annO, List.map, List.zip, List.zipWith, List.lookup, holed, Nat.reduceBEq]
        simp [List.replicate, encX_eq, encXs_len, c1, c2, hcl]
      · rw [valX_eq, if_neg c1, if_neg c2]
        have ha := arity_le x.op
        have hloop := fun tm nx' hp' => valueOf_loop xs m t b nx hp0 hm hmm htt x.args (by omega) hb (fun y hy ro2 nx2 hp2 b1 b2 => ih y (d + 1) (by have := args_lt hy; omega) (exsF_mem h2 y hy) ro2 nx2 hp2 b1 b2) tm nx' hp'
        have hop := fun ro nx hp => computed_R x.op (by omega) (valXs t x.args) (by rw [valXs_eq, List.length_map]; exact q4) ro nx hp
        rw [R_pure' K ro 17 _ nx hp [] Tryz.func17 rfl Tryz.ntmps17 Tryz.results17 (mu := []) rfl (by kernel_rfl) rfl rfl rfl]; simp only [slim, slimO, annO, List.map, List.zip, List.zipWith, List.lookup, holed, Nat.reduceBEq]
        simp [List.replicate, encX_eq, encXs_len, c1, c2]
        generalize hg : X K _ (.loop _) _ = r
        obtain ⟨tm', nx', hp', rfl, g1, g2, g3, g4, g5⟩ : ∃ tm' n' hp', r = some (.exit 1, ⟨tm', n', hp'⟩) ∧ tm'.length = 38 ∧ getC tm' 2 = (.ptr nx 0, false) ∧ getC tm' 5 = (.lst (ints' (valXs t x.args)), true) ∧ nx + 1 ≤ n' ∧ ∀ id, id < nx + 1 → hget hp' id = hget ((nx, .cells [(.int .i64 x.op, false), (.int .i64 x.n, false), (.str x.name, false), (.lst (encXs x.args), false)]) :: hp) id := by
          rw [← hg]
          exact hloop _ _ _ (by omega) (hn _) (by simp) (by simp) (by simp) (by simp) (by simp) (by simp)
        have g6 := g5 nx (by omega)
        simp at g6
        clear hg g5 hloop
        simp [g1, g2, g3, g6, hop]
def evalF (x : Ex) (xs : List Sl) : Int × Int := if exF x 1 ≠ 0 then (0, exF x 1) else if slF xs ≠ 0 then (0, slF xs) else (valX (lookV xs) x, 0)
theorem eval_R (x : Ex) (xs : List Sl) (ro nx : Nat) (hp : Heap) : R K 13 [encX x, .lst (encSls xs)] ro nx hp = some ⟨.tup [.int .i64 (evalF x xs).1, .int .i64 (evalF x xs).2], false, nx, hp⟩ := by
  have hce := checkExpr_R x
  unfold evalF
  by_cases c1 : exF x 1 = 0
  · by_cases c2 : slF xs = 0
    · obtain ⟨g1, g2⟩ := slF_zero c2
      obtain ⟨n', hp', hv, ⟨f1, f2, f3⟩, f4⟩ := values_R xs g1 g2 0 1 [(0, .cells [(.int .i64 x.op, false), (.int .i64 x.n, false), (.str x.name, false), (.lst (encXs x.args), false)])] (by omega)
      have hof := fun ro => of_R _ _ _ (n' : Nat) hp' (cloV xs 1 2 n' hp' (by omega) (by omega) f2 f4) (SizeOf.sizeOf x + 1) x 1 (Nat.lt_succ_self _) c1 ro n' hp' (Nat.le_refl _) (fun _ _ => rfl)
      simp only [encX_eq] at hce hof
      simp only [Nat.reduceAdd] at hv
      have f30 := f3 0 (by omega)
      simp at f30
      rw [R_val' K ro 13 _ nx hp [(7, [[0], [], [0], [], [], []])] Tryz.func13 rfl Tryz.ntmps13 Tryz.results13 (mu := []) rfl (by kernel_rfl) rfl rfl]; simp only [slim, slimO, annO, List.map, List.zip, List.zipWith, List.lookup, holed, Nat.reduceBEq]
      simp [List.replicate, encX_eq, encXs_len, c1, c2, hce, hv, hof, f30]
    · simp only [encX_eq] at hce
      rw [R_val' K ro 13 _ nx hp [(7, [[0], [], [0], [], [], []])] Tryz.func13 rfl Tryz.ntmps13 Tryz.results13 (mu := []) rfl (by kernel_rfl) rfl rfl]; simp only [slim, slimO, annO, List.map, List.zip, List.zipWith, List.lookup, holed, Nat.reduceBEq]
      simp [List.replicate, encX_eq, encXs_len, c1, c2, hce]
  · simp only [encX_eq] at hce
    rw [R_val' K ro 13 _ nx hp [(7, [[0], [], [0], [], [], []])] Tryz.func13 rfl Tryz.ntmps13 Tryz.results13 (mu := []) rfl (by kernel_rfl) rfl rfl]; simp only [slim, slimO, annO, List.map, List.zip, List.zipWith, List.lookup, holed, Nat.reduceBEq]
    simp [List.replicate, encX_eq, encXs_len, c1, hce]
end Go.Proofs.YtleimfinniclgaaGreatDoor.M
/- The parts of an expression, their number, their names. -/
namespace Go.Proofs.YtleimfinniclgaaGreatDoor.M
open Go.Proofs Go.Proofs.YtleimfinniclgaaGreatDoor.X
set_option linter.unusedSimpArgs false
set_option linter.unusedVariables false
set_option maxRecDepth 100000
set_option pp.deepTerms false
set_option pp.deepTerms.threshold 6
set_option maxHeartbeats 4000000
mutual
def partsX : Ex → List Ex
  | .mk o n s a => partsXs a ++ [.mk o n s a]
def partsXs : List Ex → List Ex
  | [] => []
  | x :: r => partsX x ++ partsXs r
end
theorem partsX_eq (x : Ex) : partsX x = partsXs x.args ++ [x] := by cases x; rw [partsX]; rfl
theorem partsXs_app (l r : List Ex) : partsXs (l ++ r) = partsXs l ++ partsXs r := by induction l with | nil => rfl | cons x l ih => simp [partsXs, ih]
theorem partsXs_one (x : Ex) : partsXs [x] = partsX x := by simp [partsXs]
def cntB : Nat → Nat
  | 0 => 0
  | k + 1 => 1 + 3 * cntB k
theorem partsXs_len {l : List Ex} {c : Nat} (h : ∀ x ∈ l, (partsX x).length ≤ c) : (partsXs l).length ≤ l.length * c := by
  induction l with
  | nil => simp [partsXs]
  | cons x r ih =>
    have h1 := h x (.head _)
    have h2 := ih fun y hy => h y (.tail _ hy)
    rw [partsXs, List.length_append, List.length_cons, Nat.add_mul]
    omega
theorem cnt_le : ∀ (k : Nat) (x : Ex) (d : Int), exF x d = 0 → (k : Int) = 21 - d → (partsX x).length ≤ cntB k := by
  intro k
  induction k with
  | zero =>
    intro x d h hk
    obtain ⟨h1, _⟩ := exF_zero h
    have := (own_zero h1).1
    omega
  | succ k ih =>
    intro x d h hk
    obtain ⟨h1, h2⟩ := exF_zero h
    have q4 := (own_zero h1).2.2.2.1
    have ha := arity_le x.op
    rw [partsX_eq, List.length_append, List.length_singleton]
    have h3 := partsXs_len (l := x.args) (c := cntB k) fun y hy => ih y (d + 1) (exsF_mem h2 y hy) (by omega)
    have h4 : x.args.length * cntB k ≤ 3 * cntB k := Nat.mul_le_mul_right _ (by omega)
    simp only [cntB]
    omega
theorem cnt_bound {x : Ex} {d : Int} (h : exF x d = 0) (hd : 1 ≤ d) : (partsX x).length ≤ 1743392200 := by
  have hd2 := (own_zero (exF_zero h).1).1
  have h1 := cnt_le (21 - d).toNat x d h (by omega)
  have h2 : ∀ k, k ≤ 20 → cntB k ≤ cntB 20 := by decide
  have h3 := h2 (21 - d).toNat (by omega)
  have h4 : cntB 20 = 1743392200 := by decide
  omega
theorem cnts_bound {x : Ex} {d : Int} (h : exF x d = 0) (hd : 1 ≤ d) (k : Nat) : (partsXs (x.args.take k)).length ≤ 1743392200 := by
  have h1 := cnt_bound h hd
  rw [partsX_eq, ← List.take_append_drop k x.args, partsXs_app] at h1
  simp at h1
  omega
theorem size_R : ∀ (N : Nat) (x : Ex) (d : Int), SizeOf.sizeOf x < N → 1 ≤ d → exF x d = 0 → ∀ (ro nx : Nat) (hp : Heap), R K 83 [encX x] ro nx hp = some ⟨.int .i64 (partsX x).length, false, nx, hp⟩ := by
  have e := LB_open (P := Tryz.prog) [] 0 Tryz.func83 rfl rfl (by kernel_rfl)
  simp only [slim, slimO, annO, List.map, List.zip, List.zipWith, List.lookup, holed, loopsOf, List.nil_append, List.cons_append, List.getD_cons_zero, List.getD_cons_succ, Nat.reduceBEq] at e
  intro N
  induction N with
  | zero => intro x d hx; omega
  | succ N ih =>
    intro x d hx hd hf ro nx hp
    obtain ⟨h1, h2⟩ := exF_zero hf
    obtain ⟨q1, q2, q3, q4, q5, q6, q7, q8, q9⟩ := own_zero h1
    have ha := arity_le x.op
    have hloop := rounds (K := K) (ro := ⟨0, []⟩) e x.args.length (fun k tm1 n h => tm1.length = 19 ∧ getC tm1 1 = (.ptr 0 0, false) ∧ getC tm1 7 = (.lst (encXs x.args), false) ∧ getC tm1 8 = (.int .i64 x.args.length, false) ∧ getC tm1 9 = (.int .i64 k, false) ∧ getC tm1 3 = (.int .i64 (1 + (partsXs (x.args.take k)).length), false) ∧ 1 ≤ n ∧ hget h 0 = some (.cells [(.int .i64 x.op, false), (.int .i64 x.n, false), (.str x.name, false), (.lst (encXs x.args), false)]))
      (fun r => ∃ tm' n' hp', r = some (.exit 0, ⟨tm', n', hp'⟩) ∧ tm'.length = 19 ∧ getC tm' 1 = (.ptr 0 0, false) ∧ getC tm' 3 = (.int .i64 (1 + (partsXs x.args).length), false) ∧ 1 ≤ n' ∧ hget hp' 0 = some (.cells [(.int .i64 x.op, false), (.int .i64 x.n, false), (.str x.name, false), (.lst (encXs x.args), false)])) ?_ ?_ 0
    · skip
      rw [R_val' K ro 83 _ nx hp [] Tryz.func83 rfl Tryz.ntmps83 Tryz.results83 (mu := []) rfl (by kernel_rfl) rfl rfl]; simp only [slim, slimO, annO, List.map, List.zip, List.zipWith, List.lookup, holed, Nat.reduceBEq]
      simp [List.replicate, encX_eq, encXs_len]
      generalize hg : X K _ (.loop _) _ = r
      obtain ⟨tm', n', hp', rfl, g1, g2, g3, g4, g5⟩ : ∃ tm' n' hp', r = some (.exit 0, ⟨tm', n', hp'⟩) ∧ tm'.length = 19 ∧ getC tm' 1 = (.ptr 0 0, false) ∧ getC tm' 3 = (.int .i64 (1 + (partsXs x.args).length), false) ∧ 1 ≤ n' ∧ hget hp' 0 = some (.cells [(.int .i64 x.op, false), (.int .i64 x.n, false), (.str x.name, false), (.lst (encXs x.args), false)]) := by
        rw [← hg]
        refine hloop _ _ _ (by omega) ⟨?_, ?_, ?_, ?_, ?_, ?_, ?_, ?_⟩
        all_goals simp [partsXs]
      clear hg hloop
      simp [g1, g2, g3, g5, partsX_eq, Int.add_comm]
    · rintro tm1 n h r ⟨ht, hc1, hsl, hcl, hix, hac, hn, hb⟩ hX
      rw [List.take_length] at hac
      simp [ht, hcl, hix] at hX
      subst hX
      exact ⟨_, _, rfl, by simp, _, _, _, rfl, by simp [ht], by simp [hc1], by simp [hac], hn, hb⟩
    · rintro k tm1 n h r hk ⟨ht, hc1, hsl, hcl, hix, hac, hn, hb⟩ hX
      left
      have hx := List.getElem?_eq_getElem (l := x.args) (i := k) hk
      have htk : partsXs (x.args.take (k + 1)) = partsXs (x.args.take k) ++ partsX x.args[k] := by
        rw [List.take_add_one, hx, partsXs_app]; simp [partsXs]
      have hb1 := cnts_bound hf hd k
      have hb2 := cnts_bound hf hd (k + 1)
      rw [htk, List.length_append] at hb2
      generalize x.args[k] = y at hx htk hb2
      have hym := List.mem_of_getElem? hx
      have hkl : (k : Int) < x.args.length := by omega
      have hxe := encXs_at hx
      have hw2 : IntKind.i64.wrap ((k : Int) + 1) = (k : Int) + 1 := wrap_small (by omega) (by omega)
      have hn0 : ¬ n = 0 := by omega
      have hn0' : ¬ 0 = n := by omega
      have hxm := fun ro nx hp => ih y (d + 1) (by have := args_lt hym; omega) (by omega) (exsF_mem h2 y hym) ro nx hp
      rw [encX_eq] at hxm hxe
      have hws : IntKind.i64.wrap (1 + ((partsXs (x.args.take k)).length : Int) + ((partsX y).length : Int)) = 1 + ((partsXs (x.args.take k)).length : Int) + ((partsX y).length : Int) := wrap_small (by omega) (by omega)
      simp [ht, hc1, hsl, hcl, hix, hac, hkl, hxe, hw2, hxm, hn0, hn0', hws] at hX
      subst hX
      refine ⟨_, _, _, rfl, by simp [ht], by simp [hc1], by simp [hsl], by simp [hcl], by simp [ht], ?_, by omega, by simp [hn0, hn0', hb]⟩
      simp [ht, htk]
      omega
theorem parts_R : ∀ (N : Nat) (x : Ex) (d : Int), SizeOf.sizeOf x < N → 1 ≤ d → exF x d = 0 → ∀ (ro nx : Nat) (hp : Heap), R K 85 [encX x] ro nx hp = some ⟨.lst (encXs (partsX x)), true, nx, hp⟩ := by
  have e := LB_open (P := Tryz.prog) [] 0 Tryz.func85 rfl rfl (by kernel_rfl)
  simp only [slim, slimO, annO, List.map, List.zip, List.zipWith, List.lookup, holed, loopsOf, List.nil_append, List.cons_append, List.getD_cons_zero, List.getD_cons_succ, Nat.reduceBEq] at e
  intro N
  induction N with
  | zero => intro x d hx; omega
  | succ N ih =>
    intro x d hx hd hf ro nx hp
    obtain ⟨h1, h2⟩ := exF_zero hf
    obtain ⟨q1, q2, q3, q4, q5, q6, q7, q8, q9⟩ := own_zero h1
    have ha := arity_le x.op
    have hloop := rounds (K := K) (ro := ⟨0, []⟩) e x.args.length (fun k tm1 n h => tm1.length = 22 ∧ getC tm1 1 = (.ptr 0 0, false) ∧ getC tm1 7 = (.lst (encXs x.args), false) ∧ getC tm1 8 = (.int .i64 x.args.length, false) ∧ getC tm1 9 = (.int .i64 k, false) ∧ getC tm1 3 = (.lst (encXs (partsXs (x.args.take k))), true) ∧ 1 ≤ n ∧ hget h 0 = some (.cells [(.int .i64 x.op, false), (.int .i64 x.n, false), (.str x.name, false), (.lst (encXs x.args), false)]))
      (fun r => ∃ tm' n' hp', r = some (.exit 0, ⟨tm', n', hp'⟩) ∧ tm'.length = 22 ∧ getC tm' 1 = (.ptr 0 0, false) ∧ getC tm' 3 = (.lst (encXs (partsXs x.args)), true) ∧ 1 ≤ n' ∧ hget hp' 0 = some (.cells [(.int .i64 x.op, false), (.int .i64 x.n, false), (.str x.name, false), (.lst (encXs x.args), false)])) ?_ ?_ 0
    · have hb0 := cnts_bound hf hd x.args.length
      rw [List.take_length] at hb0
      have hlen : ((partsXs x.args).length + 1) * 56 ≤ 140737488355328 := by omega
      have hfold : encXs (partsXs x.args) ++ [.agg [.int .i64 x.op, .int .i64 x.n, .str x.name, .lst (encXs x.args)]] = encXs (partsX x) := by simp [partsX_eq, encXs_app, encXs, encX_eq]
      rw [R_val' K ro 85 _ nx hp [] Tryz.func85 rfl Tryz.ntmps85 Tryz.results85 (mu := []) rfl (by kernel_rfl) rfl rfl]; simp only [slim, slimO, annO, List.map, List.zip, List.zipWith, List.lookup, holed, Nat.reduceBEq]
      simp [List.replicate, encX_eq, encXs_len]
      generalize hg : X K _ (.loop _) _ = r
      obtain ⟨tm', n', hp', rfl, g1, g2, g3, g4, g5⟩ : ∃ tm' n' hp', r = some (.exit 0, ⟨tm', n', hp'⟩) ∧ tm'.length = 22 ∧ getC tm' 1 = (.ptr 0 0, false) ∧ getC tm' 3 = (.lst (encXs (partsXs x.args)), true) ∧ 1 ≤ n' ∧ hget hp' 0 = some (.cells [(.int .i64 x.op, false), (.int .i64 x.n, false), (.str x.name, false), (.lst (encXs x.args), false)]) := by
        rw [← hg]
        refine hloop _ _ _ (by omega) ⟨?_, ?_, ?_, ?_, ?_, ?_, ?_, ?_⟩
        all_goals simp [partsXs, encXs]
      clear hg hloop
      simp [g1, g2, g3, g5, hlen, hfold]
    · rintro tm1 n h r ⟨ht, hc1, hsl, hcl, hix, hac, hn, hb⟩ hX
      rw [List.take_length] at hac
      simp [ht, hcl, hix] at hX
      subst hX
      exact ⟨_, _, rfl, by simp, _, _, _, rfl, by simp [ht], by simp [hc1], by simp [hac], hn, hb⟩
    · rintro k tm1 n h r hk ⟨ht, hc1, hsl, hcl, hix, hac, hn, hb⟩ hX
      left
      have hx := List.getElem?_eq_getElem (l := x.args) (i := k) hk
      have htk : partsXs (x.args.take (k + 1)) = partsXs (x.args.take k) ++ partsX x.args[k] := by
        rw [List.take_add_one, hx, partsXs_app]; simp [partsXs]
      have hb1 := cnts_bound hf hd k
      have hb2 := cnts_bound hf hd (k + 1)
      rw [htk, List.length_append] at hb2
      generalize x.args[k] = y at hx htk hb2
      have hym := List.mem_of_getElem? hx
      have hkl : (k : Int) < x.args.length := by omega
      have hxe := encXs_at hx
      have hw2 : IntKind.i64.wrap ((k : Int) + 1) = (k : Int) + 1 := wrap_small (by omega) (by omega)
      have hn0 : ¬ n = 0 := by omega
      have hn0' : ¬ 0 = n := by omega
      have hxm := fun ro nx hp => ih y (d + 1) (by have := args_lt hym; omega) (by omega) (exsF_mem h2 y hym) ro nx hp
      rw [encX_eq] at hxm hxe
      have hlen : ((partsXs (x.args.take k)).length + (partsX y).length) * 56 ≤ 140737488355328 := by omega
      simp [ht, hc1, hsl, hcl, hix, hac, hkl, hxe, hw2, hxm, hn0, hn0', hlen] at hX
      subst hX
      refine ⟨_, _, _, rfl, by simp [ht], by simp [hc1], by simp [hsl], by simp [hcl], by simp [ht], ?_, by omega, by simp [hn0, hn0', hb]⟩
      simp [ht, htk, encXs_app]
theorem sizeIn_R {x : Ex} (hx : exF x 1 = 0) (ro nx : Nat) (hp : Heap) : R K 20 [encX x] ro nx hp = some ⟨.int .i64 (partsX x).length, false, nx, hp⟩ := by
  have h := fun ro nx hp => parts_R (SizeOf.sizeOf x + 1) x 1 (by omega) (by omega) hx ro nx hp
  rw [R_val' K ro 20 _ nx hp [] Tryz.func20 rfl Tryz.ntmps20 Tryz.results20 (mu := []) rfl (by kernel_rfl) rfl rfl]; simp only [slim, slimO, annO, List.map, List.zip, List.zipWith, List.lookup, holed, Nat.reduceBEq]
  simp only [encX_eq] at h
  simp [List.replicate, encX_eq, encXs_len, h]
def sizeF (x : Ex) : Int × Int := if exF x 1 ≠ 0 then (0, exF x 1) else ((partsX x).length, 0)
theorem vSize_R (x : Ex) (ro nx : Nat) (hp : Heap) : R K 15 [encX x] ro nx hp = some ⟨.tup [.int .i64 (sizeF x).1, .int .i64 (sizeF x).2], false, nx, hp⟩ := by
  have hce := checkExpr_R x
  unfold sizeF
  by_cases c1 : exF x 1 = 0
  · have h := fun ro nx hp => size_R (SizeOf.sizeOf x + 1) x 1 (by omega) (by omega) c1 ro nx hp
    simp only [encX_eq] at hce h
    rw [R_val' K ro 15 _ nx hp [] Tryz.func15 rfl Tryz.ntmps15 Tryz.results15 (mu := []) rfl (by kernel_rfl) rfl rfl]; simp only [slim, slimO, annO, List.map, List.zip, List.zipWith, List.lookup, holed, Nat.reduceBEq]
    simp [List.replicate, encX_eq, encXs_len, c1, hce, h]
  · simp only [encX_eq] at hce
    rw [R_val' K ro 15 _ nx hp [] Tryz.func15 rfl Tryz.ntmps15 Tryz.results15 (mu := []) rfl (by kernel_rfl) rfl rfl]; simp only [slim, slimO, annO, List.map, List.zip, List.zipWith, List.lookup, holed, Nat.reduceBEq]
    simp [List.replicate, encX_eq, encXs_len, c1, hce]
end Go.Proofs.YtleimfinniclgaaGreatDoor.M
/- The names of expressions: by a map, and by a sorted row. -/
namespace Go.Proofs.YtleimfinniclgaaGreatDoor.M
open Go.Proofs Go.Proofs.YtleimfinniclgaaGreatDoor.X
set_option linter.unusedSimpArgs false
set_option linter.unusedVariables false
set_option maxRecDepth 100000
set_option pp.deepTerms false
set_option pp.deepTerms.threshold 6
set_option maxHeartbeats 4000000
abbrev BL := List UInt8
def addN (l : List BL) (k : BL) : List BL := if k ∈ l then l else l ++ [k]
mutual
def namesX : Ex → List BL → List BL
  | .mk o n s a, l => namesXs a (if o = 2 then addN l s.data.toList else l)
def namesXs : List Ex → List BL → List BL
  | [], l => l
  | x :: r, l => namesXs r (namesX x l)
end
theorem namesX_eq (x : Ex) (l : List BL) : namesX x l = namesXs x.args (if x.op = 2 then addN l x.name.data.toList else l) := by cases x; rw [namesX]; rfl
theorem namesXs_app (a b : List Ex) (l : List BL) : namesXs (a ++ b) l = namesXs b (namesXs a l) := by induction a generalizing l with | nil => rfl | cons x r ih => simp [namesXs, ih]
/-- The names in the order of the parts. -/
def nmL (l : List Ex) : List BL := (l.filter fun x => x.op == 2).map fun x => x.name.data.toList
theorem nmL_app (a b : List Ex) : nmL (a ++ b) = nmL a ++ nmL b := by simp [nmL]
theorem addN_mem (l : List BL) (k j : BL) : j ∈ addN l k ↔ j ∈ l ∨ j = k := by
  unfold addN
  split
  · rename_i h
    constructor
    · exact Or.inl
    · rintro (h1 | rfl)
      · exact h1
      · exact h
  · simp
theorem addN_nodup {l : List BL} (h : l.Nodup) (k : BL) : (addN l k).Nodup := by
  unfold addN
  split
  · exact h
  · rename_i hn
    refine List.nodup_append.2 ⟨h, by simp, fun a ha b hb => ?_⟩
    simp at hb
    subst hb
    exact fun e => hn (e ▸ ha)
theorem addN_len (l : List BL) (k : BL) : (addN l k).length ≤ l.length + 1 := by
  unfold addN
  split <;> simp
theorem names_spec : ∀ (N : Nat), (∀ (x : Ex), SizeOf.sizeOf x < N → ∀ l : List BL, (l.Nodup → (namesX x l).Nodup) ∧ (namesX x l).length ≤ l.length + (partsX x).length ∧ ∀ k, k ∈ namesX x l ↔ k ∈ l ∨ k ∈ nmL (partsX x)) := by
  intro N
  induction N with
  | zero => intro x hx; omega
  | succ N ih =>
    intro x hx l
    have args : ∀ (ys : List Ex), (∀ y ∈ ys, SizeOf.sizeOf y < N) → ∀ l : List BL, (l.Nodup → (namesXs ys l).Nodup) ∧ (namesXs ys l).length ≤ l.length + (partsXs ys).length ∧ ∀ k, k ∈ namesXs ys l ↔ k ∈ l ∨ k ∈ nmL (partsXs ys) := by
      intro ys
      induction ys with
      | nil => intro _ l; exact ⟨fun h => h, by simp [namesXs, partsXs], fun k => by simp [namesXs, partsXs, nmL]⟩
      | cons y r ihr =>
        intro hs l
        obtain ⟨a1, a2, a3⟩ := ih y (hs y (.head _)) l
        obtain ⟨b1, b2, b3⟩ := ihr (fun z hz => hs z (.tail _ hz)) (namesX y l)
        rw [namesXs, partsXs, nmL_app]
        refine ⟨fun h => b1 (a1 h), by rw [List.length_append]; omega, fun k => ?_⟩
        rw [b3, a3, List.mem_append, or_assoc]
    have hs : ∀ y ∈ x.args, SizeOf.sizeOf y < N := fun y hy => by have := args_lt hy; omega
    rw [namesX_eq, partsX_eq, nmL_app]
    by_cases c : x.op = 2
    · rw [if_pos c]
      obtain ⟨b1, b2, b3⟩ := args x.args hs (addN l x.name.data.toList)
      have := addN_len l x.name.data.toList
      refine ⟨fun h => b1 (addN_nodup h _), by rw [List.length_append, List.length_singleton]; omega, fun k => ?_⟩
      rw [b3, addN_mem, List.mem_append]
      simp [nmL, c]
      grind
    · rw [if_neg c]
      obtain ⟨b1, b2, b3⟩ := args x.args hs l
      refine ⟨b1, by rw [List.length_append, List.length_singleton]; omega, fun k => ?_⟩
      rw [b3, List.mem_append]
      simp [nmL, c]
theorem namesXs_spec (ys : List Ex) (l : List BL) : (l.Nodup → (namesXs ys l).Nodup) ∧ (namesXs ys l).length ≤ l.length + (partsXs ys).length ∧ ∀ k, k ∈ namesXs ys l ↔ k ∈ l ∨ k ∈ nmL (partsXs ys) := by
  induction ys generalizing l with
  | nil => exact ⟨fun h => h, by simp [namesXs, partsXs], fun k => by simp [namesXs, partsXs, nmL]⟩
  | cons y r ihr =>
    obtain ⟨a1, a2, a3⟩ := names_spec (SizeOf.sizeOf y + 1) y (Nat.lt_succ_self _) l
    obtain ⟨b1, b2, b3⟩ := ihr (namesX y l)
    rw [namesXs, partsXs, nmL_app]
    refine ⟨fun h => b1 (a1 h), by rw [List.length_append]; omega, fun k => ?_⟩
    rw [b3, a3, List.mem_append, or_assoc]
/-- All names of right expressions are names. -/
theorem nmL_ok : ∀ (N : Nat) (x : Ex) (d : Int), SizeOf.sizeOf x < N → exF x d = 0 → ∀ k ∈ nmL (partsX x), k.length ≤ 40 := by
  intro N
  induction N with
  | zero => intro x d hx; omega
  | succ N ih =>
    intro x d hx hf k hk
    obtain ⟨h1, h2⟩ := exF_zero hf
    rw [partsX_eq, nmL_app, List.mem_append] at hk
    rcases hk with hk | hk
    · have args : ∀ (ys : List Ex), (∀ y ∈ ys, y ∈ x.args) → k ∈ nmL (partsXs ys) → k.length ≤ 40 := by
        intro ys
        induction ys with
        | nil => intro _ h; simp [partsXs, nmL] at h
        | cons y r ihr =>
          intro hs h
          rw [partsXs, nmL_app, List.mem_append] at h
          rcases h with h | h
          · have hy := hs y (.head _)
            exact ih y (d + 1) (by have := args_lt hy; omega) (exsF_mem h2 y hy) k h
          · exact ihr (fun z hz => hs z (.tail _ hz)) h
      exact args x.args (fun _ h => h) hk
    · obtain ⟨_, _, _, _, _, _, _, q8, _⟩ := own_zero h1
      by_cases c : x.op = 2
      · simp [nmL, c] at hk
        subst hk
        have hnb : nameB x.name = true := by rcases q8 with h | h; exact absurd c h; exact h
        unfold nameB nameL at hnb
        simp only [Bool.and_eq_true, decide_eq_true_eq] at hnb
        exact hnb.1.1.1.2
      · simp [nmL, c] at hk
/-! ### sorted rows -/
theorem leS_trans (a b c : BL) (h1 : leS a b = true) (h2 : leS b c = true) : leS a c = true := by simp only [leS, decide_eq_true_eq] at *; exact List.le_trans h1 h2
theorem leS_total (a b : BL) : (leS a b || leS b a) = true := by simp only [leS, Bool.or_eq_true, decide_eq_true_eq]; exact List.le_total a b
theorem sorted_lt {l : List BL} (h : l.Pairwise (fun a b => a < b)) : l.Nodup := h.imp fun h e => by subst e; exact List.lt_irrefl _ h
theorem sorted_eq {l l' : List BL} (h : l.Pairwise (fun a b => a < b)) (h' : l'.Pairwise (fun a b => a < b)) (hm : ∀ k, k ∈ l ↔ k ∈ l') : l = l' :=
  List.Perm.eq_of_pairwise (le := fun a b => a < b) (fun a b _ _ h1 h2 => absurd (List.lt_trans h1 h2) (List.lt_irrefl _)) h h' ((List.perm_ext_iff_of_nodup (sorted_lt h) (sorted_lt h')).2 hm)
theorem msort_lt {l : List BL} (h : l.Nodup) : (l.mergeSort leS).Pairwise (fun a b => a < b) := by
  have h1 := List.pairwise_mergeSort leS_trans leS_total l
  have h2 : (l.mergeSort leS).Nodup := (List.mergeSort_perm l leS).nodup_iff.2 h
  refine (List.pairwise_and_iff.2 ⟨h1, h2⟩).imp fun {a b} ⟨h1, h2⟩ => ?_
  simp only [leS, decide_eq_true_eq] at h1
  rcases List.le_iff_lt_or_eq.1 h1 with h | h
  · exact h
  · exact absurd h h2
theorem compact_sorted {zs : List BL} (h : zs.Pairwise (fun a b => leS a b = true)) : (Lib.compact zs).Pairwise (fun a b => a < b) ∧ ∀ k, k ∈ Lib.compact zs ↔ k ∈ zs := by
  have key : ∀ m, m ≤ zs.length → (Lib.compactUpTo zs.toArray m).Pairwise (fun a b => a < b) ∧ (∀ k, k ∈ Lib.compactUpTo zs.toArray m ↔ k ∈ zs.take m) := by
    intro m
    induction m with
    | zero => intro _; simp [Lib.compactUpTo]
    | succ m ih =>
      intro hm
      obtain ⟨i1, i2⟩ := ih (by omega)
      have hx : zs.toArray[m]! = zs[m] := by simp [show m < zs.length by omega]
      have htk : zs.take (m + 1) = zs.take m ++ [zs[m]] := by rw [List.take_add_one, List.getElem?_eq_getElem (by omega)]; rfl
      rw [Lib.compactUpTo_succ, htk, hx]
      by_cases hkp : Lib.keeps zs.toArray m = true
      · rw [if_pos hkp]
        refine ⟨List.pairwise_append.2 ⟨i1, by simp, fun a ha b hb => ?_⟩, fun k => by rw [List.mem_append, List.mem_append, i2]⟩
        simp only [List.mem_singleton] at hb
        subst hb
        have ha' := (i2 a).1 ha
        obtain ⟨j, hj, hje⟩ := List.getElem_of_mem ha'
        rw [List.getElem_take] at hje
        rw [List.length_take] at hj
        subst hje
        have hm0 : 0 < m := by omega
        have hne : zs[m] ≠ zs[m - 1] := by
          have h0 : m ≠ 0 := by omega
          have : zs.toArray[m - 1]! = zs[m - 1] := by simp [show m - 1 < zs.length by omega]
          simp only [Lib.keeps, hx, this, decide_eq_true_eq] at hkp
          rcases hkp with h | h
          · exact absurd h h0
          · exact h
        have hp := List.pairwise_iff_getElem.1 h
        have h1 : zs[j] ≤ zs[m - 1] := by
          by_cases e : j = m - 1
          · subst e; exact List.le_refl _
          · have := hp j (m - 1) (by omega) (by omega) (by omega)
            simpa [leS] using this
        have h2 : zs[m - 1] ≤ zs[m] := by
          have := hp (m - 1) m (by omega) (by omega) (by omega)
          simpa [leS] using this
        rcases List.le_iff_lt_or_eq.1 h2 with h3 | h3
        · rcases List.le_iff_lt_or_eq.1 h1 with h4 | h4
          · exact List.lt_trans h4 h3
          · rw [h4]; exact h3
        · exact absurd h3.symm hne
      · rw [if_neg hkp, List.append_nil]
        refine ⟨i1, fun k => ?_⟩
        rw [i2, List.mem_append]
        have h0 : m ≠ 0 := by
          intro e
          subst e
          simp [Lib.keeps] at hkp
        have : zs.toArray[m - 1]! = zs[m - 1] := by simp [show m - 1 < zs.length by omega]
        have he : zs[m] = zs[m - 1] := by
          simp only [Lib.keeps, hx, this, decide_eq_true_eq, not_or, Decidable.not_not] at hkp
          exact hkp.2
        constructor
        · exact Or.inl
        · rintro (h1 | h1)
          · exact h1
          · simp only [List.mem_singleton] at h1
            subst h1
            rw [he]
            exact List.mem_take_iff_getElem.2 ⟨m - 1, by omega, by rfl⟩
  have := key zs.length (Nat.le_refl _)
  rw [List.take_length] at this
  exact this
theorem compact_len (zs : List BL) : (Lib.compact zs).length ≤ zs.length := by
  unfold Lib.compact Lib.compactUpTo
  rw [List.length_map]
  exact Nat.le_trans (List.length_filter_le _ _) (by simp)
/-- Names by a map, sorted; names in a row, sorted and without repetitions. -/
theorem names_law {xs : List Ex} {l : List BL} (hn : l.Nodup) (hm : ∀ k, k ∈ l ↔ k ∈ nmL (partsXs xs)) : Lib.compact ((nmL (partsXs xs)).mergeSort leS) = l.mergeSort leS := by
  obtain ⟨h1, h2⟩ := compact_sorted (List.pairwise_mergeSort leS_trans leS_total (nmL (partsXs xs)))
  refine sorted_eq h1 (msort_lt hn) fun k => ?_
  rw [h2, List.mem_mergeSort, List.mem_mergeSort, hm]
end Go.Proofs.YtleimfinniclgaaGreatDoor.M
/- Simple expressions, in plain words. -/
namespace Go.Proofs.YtleimfinniclgaaGreatDoor.M
open Go.Proofs Go.Proofs.YtleimfinniclgaaGreatDoor.X
set_option linter.unusedSimpArgs false
set_option linter.unusedVariables false
set_option maxRecDepth 100000
set_option pp.deepTerms false
set_option pp.deepTerms.threshold 6
set_option maxHeartbeats 4000000
mutual
def okX : Ex → Bool
  | .mk o n s a => decide (1 ≤ o ∧ o ≤ 9 ∧ (a.length : Int) = arityF o) && oksX a
def oksX : List Ex → Bool
  | [] => true
  | x :: r => okX x && oksX r
end
mutual
def sameX : Ex → Ex → Bool
  | .mk o n s a, .mk o' n' s' a' => o == o' && n == n' && s.toList == s'.toList && samesX a a'
def samesX : List Ex → List Ex → Bool
  | [], [] => true
  | x :: r, y :: q => sameX x y && samesX r q
  | _, _ => false
end
theorem okX_eq (x : Ex) : okX x = true ↔ (1 ≤ x.op ∧ x.op ≤ 9 ∧ (x.args.length : Int) = arityF x.op) ∧ ∀ y ∈ x.args, okX y = true := by
  have h : ∀ l : List Ex, oksX l = true ↔ ∀ y ∈ l, okX y = true := by
    intro l
    induction l with
    | nil => simp [oksX]
    | cons y r ih => simp [oksX, ih]
  cases x with
  | mk o n s a => simp [okX, h, Ex.op, Ex.args]
theorem sameX_eq (x y : Ex) : sameX x y = (x.op == y.op && x.n == y.n && x.name.toList == y.name.toList && samesX x.args y.args) := by cases x; cases y; rw [sameX]; rfl
theorem sameX_iff : ∀ (N : Nat) (x y : Ex), SizeOf.sizeOf x < N → (sameX x y = true ↔ x = y) := by
  intro N
  induction N with
  | zero => intro x y hx; omega
  | succ N ih =>
    intro x y hx
    have hs : ∀ (a b : List Ex), (∀ z ∈ a, SizeOf.sizeOf z < N) → (samesX a b = true ↔ a = b) := by
      intro a
      induction a with
      | nil => intro b _; cases b <;> simp [samesX]
      | cons z r ihr =>
        intro b hz
        cases b with
        | nil => simp [samesX]
        | cons w q =>
          rw [samesX, Bool.and_eq_true, ih z w (hz z (.head _)), ihr q fun v hv => hz v (.tail _ hv)]
          simp
    rw [sameX_eq]
    have hsa := hs x.args y.args fun z hz => by have := args_lt hz; omega
    cases x with
    | mk o n s a =>
      cases y with
      | mk o' n' s' a' =>
        simp only [Ex.op, Ex.n, Ex.name, Ex.args] at hsa ⊢
        simp only [Bool.and_eq_true, beq_iff_eq, hsa, Ex.mk.injEq]
        constructor
        · rintro ⟨⟨⟨h1, h2⟩, h3⟩, h4⟩
          exact ⟨h1, h2, bytes_ext h3, h4⟩
        · rintro ⟨h1, h2, h3, h4⟩
          exact ⟨⟨⟨h1, h2⟩, by rw [h3]⟩, h4⟩
theorem same_iff (x y : Ex) : sameX x y = true ↔ x = y := sameX_iff _ x y (Nat.lt_succ_self _)
theorem same_refl' (x : Ex) : sameX x x = true := (same_iff x x).2 rfl
def isNX (e : Ex) (n : Int) : Bool := e.op == 1 && e.n == n
def numX (n : Int) : Ex := .mk 1 n ⟨#[]⟩ []
def notX (e : Ex) : Ex := .mk 8 0 ⟨#[]⟩ [e]
def r1X (e : Ex) : Option Ex := if e.args ≠ [] ∧ e.args.all (fun x => x.op == 1) = true then some (numX (appV e.op (e.args.map Ex.n))) else none
def r2X (e : Ex) : Option Ex := match e.args with
  | [x, y] => if ((e.op == 3 || e.op == 4) && isNX y 0 || e.op == 5 && isNX y 1) = true then some x else if (e.op == 3 && isNX x 0 || e.op == 5 && isNX x 1) = true then some y else if (e.op == 5 && (isNX x 0 || isNX y 0)) = true then some (numX 0) else none
  | _ => none
def r3X (e : Ex) : Option Ex := match e.args with
  | [x, y] => if sameX x y = true then (if (e.op == 4 || e.op == 6) = true then some (numX 0) else if e.op = 7 then some (numX 1) else none) else none
  | _ => none
def r4X (e : Ex) : Option Ex := match e.args with
  | [x, y] => if (e.op == 6 && (isNX y 0 || isNX x 999)) = true then some (numX 0) else none
  | _ => none
def r5X (e : Ex) : Option Ex := match e.args with
  | [x, y, z] => if x.op = 1 ∧ x.n ≠ 0 then some y else if x.op = 1 ∨ sameX y z = true then some z else none
  | _ => none
def r6X (e : Ex) : Option Ex := match e.args with
  | [x, y] => if (e.op == 7 && isNX y 0) = true then some (notX x) else if (e.op == 7 && isNX x 0) = true then some (notX y) else none
  | [x] => match x.args with
    | y :: _ => if x.op = 8 ∧ y.op = 8 then some y else none
    | [] => none
  | _ => none
def rX (e : Ex) (k : Nat) : Option Ex := match k with
  | 0 => r1X e
  | 1 => r2X e
  | 2 => r3X e
  | 3 => r4X e
  | 4 => r5X e
  | 5 => r6X e
  | _ => none
/-- The first rule that applies, from number k on. -/
def fromX (e : Ex) : Nat → Nat → Option Ex
  | 0, _ => none
  | n + 1, k => match rX e k with
    | some x => some x
    | none => fromX e n (k + 1)
def stepX (e : Ex) : Option Ex := fromX e 6 0
def fixF : Nat → Ex → Ex
  | 0, e => e
  | n + 1, e => match stepX e with
    | some x => fixF n x
    | none => e
def cnt (e : Ex) : Nat := (partsX e).length
def fixX (e : Ex) : Ex := fixF (cnt e) e
mutual
def simpX : Ex → Ex
  | .mk o n s a => fixX (.mk o n s (simpXs a))
def simpXs : List Ex → List Ex
  | [] => []
  | x :: r => simpX x :: simpXs r
end
theorem simpXs_eq (l : List Ex) : simpXs l = l.map simpX := by induction l with | nil => rfl | cons x r ih => simp [simpXs, ih]
theorem simpX_eq (x : Ex) : simpX x = fixX (.mk x.op x.n x.name (x.args.map simpX)) := by cases x; rw [simpX, simpXs_eq]; rfl
theorem cnt_eq (e : Ex) : cnt e = 1 + (partsXs e.args).length := by unfold cnt; rw [partsX_eq, List.length_append]; simp [Nat.add_comm]
theorem cnt_pos (e : Ex) : 1 ≤ cnt e := by rw [cnt_eq]; omega
theorem partsXs_mem {l : List Ex} {x : Ex} (h : x ∈ l) : cnt x ≤ (partsXs l).length := by
  induction l with
  | nil => cases h
  | cons y r ih =>
    rw [partsXs, List.length_append]
    cases h with
    | head => unfold cnt; omega
    | tail _ h => have := ih h; omega
theorem cnt_arg {e x : Ex} (h : x ∈ e.args) : cnt x < cnt e := by have := partsXs_mem h; rw [cnt_eq e]; omega
theorem cnt_num (n : Int) : cnt (numX n) = 1 := by simp [cnt_eq, numX, Ex.args, partsXs]
theorem cnt_not (e : Ex) : cnt (notX e) = 1 + cnt e := by rw [cnt_eq]; simp [notX, Ex.args, partsXs, cnt]
/-- A rule gives something smaller that is of right shape. -/
theorem rX_ok {e x : Ex} (k : Nat) (he : okX e = true) (h : rX e k = some x) : cnt x < cnt e ∧ okX x = true := by
  obtain ⟨⟨ho1, ho2, ha⟩, hargs⟩ := (okX_eq e).1 he
  have hnum : ∀ n, e.args ≠ [] → cnt (numX n) < cnt e ∧ okX (numX n) = true := by
    intro n hne
    obtain ⟨y, r, hy⟩ := List.exists_cons_of_ne_nil hne
    have h1 := cnt_arg (e := e) (x := y) (by rw [hy]; exact .head _)
    have h2 := cnt_pos y
    refine ⟨by rw [cnt_num]; omega, ?_⟩
    exact (okX_eq _).2 ⟨⟨by simp [numX, Ex.op], by simp [numX, Ex.op], by simp [numX, Ex.op, Ex.args, arityF]⟩, fun z hz => by simp [numX, Ex.args] at hz⟩
  have harg : ∀ y ∈ e.args, cnt y < cnt e ∧ okX y = true := fun y hy => ⟨cnt_arg hy, hargs y hy⟩
  have hnot : ∀ a b, e.args = [a, b] → (cnt (notX a) < cnt e ∧ okX (notX a) = true) ∧ (cnt (notX b) < cnt e ∧ okX (notX b) = true) := by
    intro a b hab
    have hka := cnt_pos a
    have hkb := cnt_pos b
    have hce : cnt e = 1 + (cnt a + cnt b) := by rw [cnt_eq, hab]; simp [partsXs, cnt]
    have h1 := hargs a (by rw [hab]; simp)
    have h2 := hargs b (by rw [hab]; simp)
    refine ⟨⟨by rw [cnt_not]; omega, ?_⟩, by rw [cnt_not]; omega, ?_⟩
    · exact (okX_eq _).2 ⟨⟨by simp [notX, Ex.op], by simp [notX, Ex.op], by simp [notX, Ex.op, Ex.args, arityF]⟩, fun z hz => by simp [notX, Ex.args] at hz; rw [hz]; exact h1⟩
    · exact (okX_eq _).2 ⟨⟨by simp [notX, Ex.op], by simp [notX, Ex.op], by simp [notX, Ex.op, Ex.args, arityF]⟩, fun z hz => by simp [notX, Ex.args] at hz; rw [hz]; exact h2⟩
  unfold rX at h
  split at h
  · unfold r1X at h
    split at h
    · rename_i hc
      cases h
      exact hnum _ hc.1
    · cases h
  · unfold r2X at h
    split at h
    · rename_i a b hab
      split at h
      · cases h; exact harg _ (by rw [hab]; simp)
      · split at h
        · cases h; exact harg _ (by rw [hab]; simp)
        · split at h
          · cases h; exact hnum _ (by rw [hab]; simp)
          · cases h
    · cases h
  · unfold r3X at h
    split at h
    · rename_i a b hab
      split at h
      · split at h
        · cases h; exact hnum _ (by rw [hab]; simp)
        · split at h
          · cases h; exact hnum _ (by rw [hab]; simp)
          · cases h
      · cases h
    · cases h
  · unfold r4X at h
    split at h
    · rename_i a b hab
      split at h
      · cases h; exact hnum _ (by rw [hab]; simp)
      · cases h
    · cases h
  · unfold r5X at h
    split at h
    · rename_i a b c hab
      split at h
      · cases h; exact harg _ (by rw [hab]; simp)
      · split at h
        · cases h; exact harg _ (by rw [hab]; simp)
        · cases h
    · cases h
  · unfold r6X at h
    split at h
    · rename_i a b hab
      split at h
      · cases h; exact (hnot a b hab).1
      · split at h
        · cases h; exact (hnot a b hab).2
        · cases h
    · rename_i a hab
      split at h
      · rename_i b r hb
        split at h
        · cases h
          have h1 := harg a (by rw [hab]; simp)
          have hbm : x ∈ a.args := by rw [hb]; simp
          have h2 := cnt_arg hbm
          exact ⟨by omega, ((okX_eq a).1 h1.2).2 x hbm⟩
        · cases h
      · cases h
    · cases h
  · cases h
theorem fromX_ok {e x : Ex} (he : okX e = true) : ∀ n k, fromX e n k = some x → cnt x < cnt e ∧ okX x = true := by
  intro n
  induction n with
  | zero => intro k h; cases h
  | succ n ih =>
    intro k h
    rw [fromX] at h
    split at h
    · rename_i y hy
      cases h
      exact rX_ok k he hy
    · exact ih (k + 1) h
theorem stepX_ok {e x : Ex} (he : okX e = true) (h : stepX e = some x) : cnt x < cnt e ∧ okX x = true := fromX_ok he _ _ h
theorem fixF_ok : ∀ n (e : Ex), okX e = true → okX (fixF n e) = true := by
  intro n
  induction n with
  | zero => intro e h; exact h
  | succ n ih =>
    intro e h
    rw [fixF]
    split
    · rename_i x hx
      exact ih x (stepX_ok h hx).2
    · exact h
theorem fixF_big : ∀ n m (e : Ex), okX e = true → cnt e ≤ n → cnt e ≤ m → fixF n e = fixF m e := by
  intro n
  induction n with
  | zero => intro m e _ h; have := cnt_pos e; omega
  | succ n ih =>
    intro m e ho hn hm
    have := cnt_pos e
    obtain ⟨m, rfl⟩ : ∃ k, m = k + 1 := ⟨m - 1, by omega⟩
    rw [fixF, fixF]
    split
    · rename_i x hx
      obtain ⟨h1, h2⟩ := stepX_ok ho hx
      exact ih m x h2 (by omega) (by omega)
    · rfl
theorem fixX_step {e x : Ex} (he : okX e = true) (h : stepX e = some x) : fixX e = fixX x := by
  obtain ⟨h1, h2⟩ := stepX_ok he h
  unfold fixX
  rw [fixF_big _ (cnt e - 1 + 1) e he (Nat.le_refl _) (by omega), fixF, h]
  exact fixF_big _ _ x h2 (by omega) (Nat.le_refl _)
theorem fixX_none {e : Ex} (h : stepX e = none) : fixX e = e := by
  unfold fixX
  have := cnt_pos e
  obtain ⟨n, hn⟩ : ∃ n, cnt e = n + 1 := ⟨cnt e - 1, by omega⟩
  rw [hn, fixF, h]
theorem simpX_ok : ∀ (N : Nat) (x : Ex), SizeOf.sizeOf x < N → okX x = true → okX (simpX x) = true := by
  intro N
  induction N with
  | zero => intro x hx; omega
  | succ N ih =>
    intro x hx ho
    obtain ⟨⟨h1, h2, h3⟩, h4⟩ := (okX_eq x).1 ho
    rw [simpX_eq]
    refine fixF_ok _ _ ?_
    rw [okX_eq]
    refine ⟨⟨h1, h2, by simp [Ex.args, Ex.op]; exact h3⟩, fun y hy => ?_⟩
    simp only [Ex.args] at hy
    obtain ⟨z, hz, rfl⟩ := List.mem_map.1 hy
    exact ih z (by have := args_lt hz; omega) (h4 z hz)
theorem exF_okX : ∀ (N : Nat) (x : Ex) (d : Int), SizeOf.sizeOf x < N → exF x d = 0 → okX x = true := by
  intro N
  induction N with
  | zero => intro x d hx; omega
  | succ N ih =>
    intro x d hx hf
    obtain ⟨h1, h2⟩ := exF_zero hf
    obtain ⟨q1, q2, q3, q4, _⟩ := own_zero h1
    rw [okX_eq]
    exact ⟨⟨q2, q3, q4⟩, fun y hy => ih y (d + 1) (by have := args_lt hy; omega) (exsF_mem h2 y hy)⟩
end Go.Proofs.YtleimfinniclgaaGreatDoor.M
/- Vars, VarsIn: by the machine. -/
namespace Go.Proofs.YtleimfinniclgaaGreatDoor.M
open Go.Proofs Go.Proofs.YtleimfinniclgaaGreatDoor.X
set_option linter.unusedSimpArgs false
set_option linter.unusedVariables false
set_option maxRecDepth 100000
set_option pp.deepTerms false
set_option pp.deepTerms.threshold 6
set_option maxHeartbeats 4000000
theorem ext_open {f : FuncId} {args : List AVal} {ro nx : Nat} {hp : Heap} {r : Res} (hp0 : K.pure f = false) (ht : K.tidy f = false) (h : K.ext f args ro nx hp = some r) : R K f args ro nx hp = some r := by
  have hv : K.vl f = false := by unfold Cfg.vl; rw [hp0, Bool.and_false]
  have hl : low K f ro nx = ro := by unfold low; rw [if_neg (by rw [hp0]; decide)]
  rw [R_eq]
  unfold vlc Fin core
  rw [if_neg (by rw [hv]; decide)]
  dsimp only
  rw [if_neg (by rw [hp0]; decide), if_neg (by rw [ht]; decide), hl, h]
theorem ext_still {f : FuncId} {args : List AVal} {ro nx : Nat} {hp : Heap} {a : AVal} (hv : K.vl f = false) (hp0 : K.pure f = true) (h : K.ext f args nx nx hp = some ⟨a, false, nx, hp⟩) (ha : a.idsLt nx = true) : R K f args ro nx hp = some ⟨a, false, nx, hp⟩ := by
  have hl : low K f ro nx = nx := by unfold low; rw [if_pos hp0]
  rw [R_eq]
  unfold vlc Fin core
  rw [if_neg (by rw [hv]; decide)]
  dsimp only
  rw [if_pos hp0, hl, h]
  simp [ha]
theorem ids_strs (n : Nat) (l : List BL) : idsLts n (l.map encSA) = true := by
  induction l with
  | nil => simp
  | cons x r ih => rw [List.map_cons, idsLts_cons, ih]; simp [encSA]
/-- The set of names. -/
def prN (l : List BL) : List (ByteArray × AVal) := l.map fun k => (⟨k.toArray⟩, .bool true)
def mapN (l : List BL) : List (AVal × AVal) := mapP (prN l)
theorem decs_N (l : List BL) : decs decS ((mapN l).map (·.1)) = some l := by
  induction l with
  | nil => rfl
  | cons k r ih =>
    rw [show (mapN (k :: r)).map (·.1) = .str ⟨k.toArray⟩ :: (mapN r).map (·.1) from rfl, decs, ih]
    simp [decS]
theorem amapset_N {l : List BL} {m lo : Nat} {hp : Heap} (h : hget hp m = some (.map (mapN l))) (s : ByteArray) (hlo : lo ≤ m) : amapset Tryz.prog lo 178 (.map m) (.str s) (.bool true) hp = some (hset hp m (.map (mapN (addN l s.data.toList)))) := by
  have hss : (⟨s.data.toList.toArray⟩ : ByteArray) = s := by simp
  unfold amapset
  rw [show (Tryz.prog).underlying 178 = some (.map 9 4) from by kernel_rfl]
  dsimp only
  rw [if_pos (akeyS _), h]
  dsimp only
  rw [if_pos hlo]
  rcases afind_P s (prN l) 0 with ⟨h1, h2⟩ | ⟨j, v, h1, h2, h3⟩
  · rw [show afind (.str s) (mapN l) 0 = some none from h2]
    have hn : s.data.toList ∉ l := by
      intro hm
      have : ∀ r : List BL, s.data.toList ∈ r → lookP (prN r) s ≠ none := by
        intro r
        induction r with
        | nil => intro h; cases h
        | cons k r ih =>
          intro hm
          show lookP ((⟨k.toArray⟩, .bool true) :: prN r) s ≠ none
          rw [lookP]
          split
          · simp
          · rename_i hne
            cases hm with
            | head => exfalso; apply hne; rw [hss]; simp
            | tail _ hm => exact ih hm
      exact this l hm h1
    unfold addN
    rw [if_neg hn]
    simp [mapN, mapP, prN]
  · rw [show afind (.str s) (mapN l) 0 = some (some (0 + j, v)) from h2]
    unfold prN at h3
    rw [List.getElem?_map] at h3
    obtain ⟨k, hk, hke⟩ := Option.map_eq_some_iff.1 h3
    injection hke with hk1 hk2
    have hks : k = s.data.toList := by rw [← hk1]
    subst hks hk2
    unfold addN
    rw [if_pos (List.mem_of_getElem? hk)]
    have : (mapN l).set (0 + j) (.str s, .bool true) = mapN l := by
      rw [Nat.zero_add]
      refine List.ext_getElem? fun i => ?_
      rw [List.getElem?_set]
      split
      · rename_i e
        subst e
        unfold mapN mapP prN
        rw [List.getElem?_map, List.getElem?_map, hk]
        simp [(List.getElem?_eq_some_iff.1 hk).1]
      · rfl
    dsimp only
    rw [this]
/-- check.Names adds the names of an expression. -/
def NamesOk (m : Nat) (l' : List BL) (nx : Nat) (hp : Heap) (n' : Nat) (hp' : Heap) : Prop := nx ≤ n' ∧ hget hp' m = some (.map (mapN l')) ∧ ∀ id, id < nx → id ≠ m → hget hp' id = hget hp id
theorem names_R (m : Nat) : ∀ (N : Nat) (x : Ex) (d : Int), SizeOf.sizeOf x < N → exF x d = 0 → ∀ (l : List BL) (ro nx : Nat) (hp : Heap), ro ≤ m → m < nx → hget hp m = some (.map (mapN l)) → ∃ n' hp', R K 161 [encX x, .map m] ro nx hp = some ⟨.tup [], false, n', hp'⟩ ∧ NamesOk m (namesX x l) nx hp n' hp' := by
  have e := LB_open (P := Tryz.prog) [] 0 Tryz.func161 rfl rfl (by kernel_rfl)
  simp only [slim, slimO, annO, List.map, List.zip, List.zipWith, List.lookup, holed, loopsOf, List.nil_append, List.cons_append, List.getD_cons_zero, List.getD_cons_succ, Nat.reduceBEq] at e
  intro N
  induction N with
  | zero => intro x d hx; omega
  | succ N ih =>
    intro x d hx hf l ro nx hp hro hm hh
    obtain ⟨h1, h2⟩ := exF_zero hf
    obtain ⟨q1, q2, q3, q4, q5, q6, q7, q8, q9⟩ := own_zero h1
    have ha := arity_le x.op
    have hloop := fun (l0 : List BL) => rounds (K := K) (ro := ⟨ro, []⟩) e x.args.length (fun k tm1 n h => tm1.length = 23 ∧ getC tm1 1 = (.map m, false) ∧ getC tm1 13 = (.lst (encXs x.args), false) ∧ getC tm1 14 = (.int .i64 x.args.length, false) ∧ getC tm1 15 = (.int .i64 k, false) ∧ NamesOk m (namesXs (x.args.take k) l0) nx hp n h)
      (fun r => ∃ tm' n' hp', r = some (.exit 0, ⟨tm', n', hp'⟩) ∧ tm'.length = 23 ∧ NamesOk m (namesXs x.args l0) nx hp n' hp') (fun tm1 n h r => by
        rintro ⟨ht, h1, h13, h14, h15, hn⟩ hX
        rw [List.take_length] at hn
        simp [ht, h14, h15] at hX
        subst hX
        exact ⟨_, _, rfl, by simp, _, _, _, rfl, by simp [ht], hn⟩) (fun k tm1 n h r hk => by
        rintro ⟨ht, h1, h13, h14, h15, hn1, hn2, hn3⟩ hX
        left
        have hx := List.getElem?_eq_getElem (l := x.args) (i := k) hk
        have htk : namesXs (x.args.take (k + 1)) l0 = namesX x.args[k] (namesXs (x.args.take k) l0) := by
          rw [List.take_add_one, hx, namesXs_app]; simp [namesXs]
        generalize x.args[k] = y at hx htk
        have hym := List.mem_of_getElem? hx
        have hkl : (k : Int) < x.args.length := by omega
        have hxe := encXs_at hx
        have hw2 : IntKind.i64.wrap ((k : Int) + 1) = (k : Int) + 1 := wrap_small (by omega) (by omega)
        have hron : ro ≤ n := by omega
        have w1 : ¬ n = m := by omega
        have w2 : ¬ m = n := by omega
        obtain ⟨n', hp', hR, k1, k2, k3⟩ := ih y (d + 1) (by have := args_lt hym; omega) (exsF_mem h2 y hym) (namesXs (x.args.take k) l0) ro (n + 1) ((n, .cells [(.int .i64 y.op, false), (.int .i64 y.n, false), (.str y.name, false), (.lst (encXs y.args), false)]) :: h) hro (by omega) (by simp [w1, w2, hn2])
        rw [encX_eq] at hR hxe
        simp [ht, h1, h13, h14, h15, hkl, hxe, hw2, hR, hron] at hX
        subst hX
        refine ⟨_, _, _, rfl, by simp [ht], by simp [h1], by simp [h13], by simp [h14], by simp [ht], by omega, by rw [htk]; exact k2, fun id hid hne => ?_⟩
        have w3 : ¬ n = id := by omega
        have w4 : ¬ id = n := by omega
        rw [k3 id (by omega) hne, ← hn3 id hid hne]
        simp [w3, w4]) 0
    have hron : ro ≤ nx := by omega
    have w1 : ¬ nx = m := by omega
    have w2 : ¬ m = nx := by omega
    by_cases c : x.op = 2
    · rw [namesX_eq, if_pos c]
      have ham := fun hp (hh : hget hp m = some (.map (mapN l))) => amapset_N hh x.name hro
      generalize hX : R K _ _ _ _ _ = z
      rw [R_body' K ro 161 _ nx hp [] Tryz.func161 rfl Tryz.ntmps161 Tryz.results161 (mu := []) rfl (by kernel_rfl) rfl rfl rfl] at hX; simp only [slim, slimO, annO, List.map, List.zip, List.zipWith, List.lookup, holed, Nat.reduceBEq] at hX
      simp [List.replicate, encX_eq, encXs_len, c, hron, w1, w2, hh, ham] at hX
      generalize hg : X K _ (.loop _) _ = r at hX
      obtain ⟨tm', n', hp', rfl, g1, g2⟩ : ∃ tm' n' hp', r = some (.exit 0, ⟨tm', n', hp'⟩) ∧ tm'.length = 23 ∧ NamesOk m (namesXs x.args (addN l x.name.data.toList)) nx hp n' hp' := by
        rw [← hg]
        refine hloop (addN l x.name.data.toList) _ _ _ (by omega) ⟨?_, ?_, ?_, ?_, ?_, ?_, ?_, ?_⟩
        rotate_left 7
        · intro id hid hne
          have w3 : ¬ nx = id := by omega
          have w4 : ¬ id = nx := by omega
          have w5 : ¬ m = id := fun e => hne e.symm
          simp [w3, w4, hne, w5]
        all_goals simp [namesXs, w1, w2, hh]
      refine ⟨n', hp', ?_, g2⟩
      rw [← hX]
      simp [g1]
    · rw [namesX_eq, if_neg c]
      generalize hX : R K _ _ _ _ _ = z
      rw [R_body' K ro 161 _ nx hp [] Tryz.func161 rfl Tryz.ntmps161 Tryz.results161 (mu := []) rfl (by kernel_rfl) rfl rfl rfl] at hX; simp only [slim, slimO, annO, List.map, List.zip, List.zipWith, List.lookup, holed, Nat.reduceBEq] at hX
      simp [List.replicate, encX_eq, encXs_len, c, hron, w1, w2, hh] at hX
      generalize hg : X K _ (.loop _) _ = r at hX
      obtain ⟨tm', n', hp', rfl, g1, g2⟩ : ∃ tm' n' hp', r = some (.exit 0, ⟨tm', n', hp'⟩) ∧ tm'.length = 23 ∧ NamesOk m (namesXs x.args l) nx hp n' hp' := by
        rw [← hg]
        refine hloop l _ _ _ (by omega) ⟨?_, ?_, ?_, ?_, ?_, ?_, ?_, ?_⟩
        rotate_left 7
        · intro id hid hne
          have w3 : ¬ nx = id := by omega
          have w4 : ¬ id = nx := by omega
          simp [w3, w4]
        all_goals simp [namesXs, w1, w2, hh]
      refine ⟨n', hp', ?_, g2⟩
      rw [← hX]
      simp [g1]
theorem keys_R (m ro nx : Nat) (hp : Heap) (hro : ro ≤ nx) : R K 163 [.map m] ro nx hp = some ⟨.clo 241 [] [.ptr nx 0], false, nx + 1, (nx, .cells [(.map m, false)]) :: hp⟩ := by
  rw [R_body' K ro 163 _ nx hp [] Tryz.func163 rfl Tryz.ntmps163 Tryz.results163 (mu := []) rfl (by kernel_rfl) rfl rfl rfl]; simp only [slim, slimO, annO, List.map, List.zip, List.zipWith, List.lookup, holed, Nat.reduceBEq]
  simp [List.replicate]
theorem sorted_R {l : List BL} {m p ro nx : Nat} {hp : Heap} {cs : List Cell} (h1 : hget hp p = some (.cells ((.map m, false) :: cs))) (h2 : hget hp m = some (.map (mapN l))) (h3 : l.length < 1099511627776) (h4 : ∀ k ∈ l, k.length ≤ 1000000) :
    R K 162 [.clo 241 [] [.ptr p 0]] ro nx hp = some ⟨.lst ((l.mergeSort leS).map encSA), false, nx, hp⟩ := by
  refine ext_still rfl rfl ?_ (by simp [ids_strs])
  have h5 : l.all (fun k => decide (k.length ≤ 1000000)) = true := by rw [List.all_eq_true]; exact fun k hk => by simpa using h4 k hk
  show orExt (pureExt 88 nameExt) (orExt (pureExt 78 nameExt) (orExt (pureExt 75 repeatExt) moreExt)) 162 _ _ _ _ = _
  have h6 : keysExt 162 241 162 [.clo 241 [] [.ptr p 0]] nx nx hp = some ⟨.lst ((l.mergeSort leS).map encSA), false, nx, hp⟩ := by
    simp only [keysExt, if_true, h1, h2, decs_N]
    rw [if_pos ⟨h3, h5⟩]
  simp only [orExt, moreExt, h6]
  rfl
theorem vars_R (es : List Ex) (he : es.length ≤ 2) (hx : ∀ x ∈ es, exF x 1 = 0) (ro nx : Nat) (hp : Heap) : R K 82 [.lst (encXs es)] ro nx hp = some ⟨.lst (((namesXs es []).mergeSort leS).map encSA), false, nx, hp⟩ := by
  have e := LB_open (P := Tryz.prog) [] 0 Tryz.func82 rfl rfl (by kernel_rfl)
  simp only [slim, slimO, annO, List.map, List.zip, List.zipWith, List.lookup, holed, loopsOf, List.nil_append, List.cons_append, List.getD_cons_zero, List.getD_cons_succ, Nat.reduceBEq] at e
  have hloop := rounds (K := K) (ro := ⟨0, []⟩) e es.length (fun k tm1 n h => tm1.length = 20 ∧ getC tm1 3 = (.map 0, false) ∧ getC tm1 7 = (.lst (encXs es), false) ∧ getC tm1 8 = (.int .i64 es.length, false) ∧ getC tm1 9 = (.int .i64 k, false) ∧ 1 ≤ n ∧ hget h 0 = some (.map (mapN (namesXs (es.take k) []))))
    (fun r => ∃ tm' n' hp', r = some (.exit 0, ⟨tm', n', hp'⟩) ∧ tm'.length = 20 ∧ getC tm' 3 = (.map 0, false) ∧ 1 ≤ n' ∧ hget hp' 0 = some (.map (mapN (namesXs es [])))) (fun tm1 n h r => by
      rintro ⟨ht, h3, h7, h8, h9, hn, hm⟩ hX
      rw [List.take_length] at hm
      simp [ht, h8, h9] at hX
      subst hX
      exact ⟨_, _, rfl, by simp, _, _, _, rfl, by simp [ht], by simp [h3], hn, hm⟩) (fun k tm1 n h r hk => by
      rintro ⟨ht, h3, h7, h8, h9, hn, hm⟩ hX
      left
      have hxk := List.getElem?_eq_getElem (l := es) (i := k) hk
      have htk : namesXs (es.take (k + 1)) [] = namesX es[k] (namesXs (es.take k) []) := by
        rw [List.take_add_one, hxk, namesXs_app]; simp [namesXs]
      generalize es[k] = y at hxk htk
      have hym := List.mem_of_getElem? hxk
      have hkl : (k : Int) < es.length := by omega
      have hxe := encXs_at hxk
      have hw2 : IntKind.i64.wrap ((k : Int) + 1) = (k : Int) + 1 := wrap_small (by omega) (by omega)
      have w1 : ¬ n = 0 := by omega
      have w2 : ¬ 0 = n := by omega
      obtain ⟨n', hp', hR, k1, k2, k3⟩ := names_R 0 (SizeOf.sizeOf y + 1) y 1 (Nat.lt_succ_self _) (hx y hym) (namesXs (es.take k) []) 0 (n + 1) ((n, .cells [(.int .i64 y.op, false), (.int .i64 y.n, false), (.str y.name, false), (.lst (encXs y.args), false)]) :: h) (Nat.le_refl _) (by omega) (by simp [w1, w2, hm])
      rw [encX_eq] at hR hxe
      simp [ht, h3, h7, h8, h9, hkl, hxe, hw2, hR] at hX
      subst hX
      exact ⟨_, _, _, rfl, by simp [ht], by simp [h3], by simp [h7], by simp [h8], by simp [ht], by omega, by rw [htk]; exact k2⟩) 0
  obtain ⟨hs1, hs2, hs3⟩ := namesXs_spec es []
  have hb : (partsXs es).length ≤ es.length * 1743392200 := partsXs_len fun x h => cnt_bound (hx x h) (by omega)
  have hok : ∀ k ∈ namesXs es [], k.length ≤ 1000000 := by
    intro k hk
    have hk' := (hs3 k).1 hk
    have : ∀ ys : List Ex, (∀ y ∈ ys, y ∈ es) → k ∈ nmL (partsXs ys) → k.length ≤ 40 := by
      intro ys
      induction ys with
      | nil => intro _ h; simp [partsXs, nmL] at h
      | cons y r ihr =>
        intro hs h
        rw [partsXs, nmL_app, List.mem_append] at h
        rcases h with h | h
        · exact nmL_ok (SizeOf.sizeOf y + 1) y 1 (Nat.lt_succ_self _) (hx y (hs y (.head _))) k h
        · exact ihr (fun z hz => hs z (.tail _ hz)) h
    have := this es (fun _ h => h) (by simpa using hk')
    omega
  have hlen : (namesXs es []).length < 1099511627776 := by
    have : es.length * 1743392200 ≤ 2 * 1743392200 := Nat.mul_le_mul_right _ he
    simp at hs2
    omega
  rw [R_val' K ro 82 _ nx hp [] Tryz.func82 rfl Tryz.ntmps82 Tryz.results82 (mu := []) rfl (by kernel_rfl) rfl rfl]; simp only [slim, slimO, annO, List.map, List.zip, List.zipWith, List.lookup, holed, Nat.reduceBEq]
  simp [List.replicate, encXs_len]
  generalize hg : X K _ (.loop _) _ = r
  obtain ⟨tm', n', hp', rfl, g1, g2, g3, g4⟩ : ∃ tm' n' hp', r = some (.exit 0, ⟨tm', n', hp'⟩) ∧ tm'.length = 20 ∧ getC tm' 3 = (.map 0, false) ∧ 1 ≤ n' ∧ hget hp' 0 = some (.map (mapN (namesXs es []))) := by
    rw [← hg]
    refine hloop _ _ _ (by omega) ⟨?_, ?_, ?_, ?_, ?_, ?_, ?_⟩
    all_goals simp [namesXs, mapN, mapP, prN]
  clear hg hloop
  have w1 : ¬ n' = 0 := by omega
  have w2 : ¬ 0 = n' := by omega
  have hk := keys_R 0 0 n' hp' (Nat.zero_le _)
  have hso := fun ro => sorted_R (l := namesXs es []) (m := 0) (p := n') (ro := ro) (nx := n' + 1) (hp := (n', .cells [(.map 0, false)]) :: hp') (cs := []) (by simp) (by simp [w1, w2, g4]) hlen hok
  simp [g1, g2, hk, hso, ids_strs]
theorem vVars_R (x : Ex) (ro nx : Nat) (hp : Heap) : R K 14 [encX x] ro nx hp = some ⟨.tup [.lst (if exF x 1 ≠ 0 then [] else ((namesXs [x] []).mergeSort leS).map encSA), .int .i64 (exF x 1)], false, nx, hp⟩ := by
  have hce := checkExpr_R x
  by_cases c1 : exF x 1 = 0
  · have hv := fun ro nx hp => vars_R [x] (by simp) (fun y hy => by simp at hy; subst hy; exact c1) ro nx hp
    simp only [encX_eq, encXs] at hce hv
    rw [R_val' K ro 14 _ nx hp [] Tryz.func14 rfl Tryz.ntmps14 Tryz.results14 (mu := []) rfl (by kernel_rfl) rfl rfl]; simp only [slim, slimO, annO, List.map, List.zip, List.zipWith, List.lookup, holed, Nat.reduceBEq]
    simp [List.replicate, encX_eq, encXs_len, c1, hce, hv, ids_strs]
  · simp only [encX_eq] at hce
    rw [R_val' K ro 14 _ nx hp [] Tryz.func14 rfl Tryz.ntmps14 Tryz.results14 (mu := []) rfl (by kernel_rfl) rfl rfl]; simp only [slim, slimO, annO, List.map, List.zip, List.zipWith, List.lookup, holed, Nat.reduceBEq]
    simp [List.replicate, encX_eq, encXs_len, c1, hce]
end Go.Proofs.YtleimfinniclgaaGreatDoor.M
/- Equal expressions, by the machine. -/
namespace Go.Proofs.YtleimfinniclgaaGreatDoor.M
open Go.Proofs Go.Proofs.YtleimfinniclgaaGreatDoor.X
set_option linter.unusedSimpArgs false
set_option linter.unusedVariables false
set_option maxRecDepth 100000
set_option pp.deepTerms false
set_option pp.deepTerms.threshold 6
set_option maxHeartbeats 4000000
mutual
def shX : Ex → Bool
  | .mk o n s a => decide (a.length ≤ 3) && shXs a
def shXs : List Ex → Bool
  | [] => true
  | x :: r => shX x && shXs r
end
theorem shX_eq (x : Ex) : shX x = true ↔ x.args.length ≤ 3 ∧ ∀ y ∈ x.args, shX y = true := by
  have h : ∀ l : List Ex, shXs l = true ↔ ∀ y ∈ l, shX y = true := by
    intro l
    induction l with
    | nil => simp [shXs]
    | cons y r ih => simp [shXs, ih]
  cases x with
  | mk o n s a => simp [shX, h, Ex.args]
theorem okX_sh : ∀ (N : Nat) (x : Ex), SizeOf.sizeOf x < N → okX x = true → shX x = true := by
  intro N
  induction N with
  | zero => intro x hx; omega
  | succ N ih =>
    intro x hx ho
    obtain ⟨⟨h1, h2, h3⟩, h4⟩ := (okX_eq x).1 ho
    have ha := arity_le x.op
    exact (shX_eq x).2 ⟨by omega, fun y hy => ih y (by have := args_lt hy; omega) (h4 y hy)⟩
theorem ok_sh {x : Ex} (h : okX x = true) : shX x = true := okX_sh _ x (Nat.lt_succ_self _) h
def cellsX (x : Ex) : ABlk := .cells [(.int .i64 x.op, false), (.int .i64 x.n, false), (.str x.name, false), (.lst (encXs x.args), false)]
theorem samesX_iff : ∀ (a b : List Ex), samesX a b = true ↔ a = b := by
  intro a
  induction a with
  | nil => intro b; cases b <;> simp [samesX]
  | cons z r ih => intro b; cases b <;> simp [samesX, same_iff, ih]
theorem take_step {a b : List Ex} {k : Nat} {x y : Ex} (hx : a[k]? = some x) (hy : b[k]? = some y) (h : a.take k = b.take k) : a.take (k + 1) = b.take (k + 1) ↔ x = y := by
  rw [List.take_add_one, List.take_add_one, hx, hy, h]
  simp
theorem sameK_R : ∀ (N : Nat) (x y : Ex), SizeOf.sizeOf x < N → shX x = true → ∀ (ro nx : Nat) (hp : Heap), R K 263 [encX x, encX y] ro nx hp = some ⟨.bool (sameX x y), false, nx, hp⟩ := by
  have e := LB_open (P := Tryz.prog) [] 0 Tryz.func263 rfl rfl (by kernel_rfl)
  simp only [slim, slimO, annO, List.map, List.zip, List.zipWith, List.lookup, holed, loopsOf, List.nil_append, List.cons_append, List.getD_cons_zero, List.getD_cons_succ, Nat.reduceBEq] at e
  intro N
  induction N with
  | zero => intro x y hx; omega
  | succ N ih =>
    intro x y hx hs ro nx hp
    obtain ⟨h3, h4⟩ := (shX_eq x).1 hs
    have hloop := fun (hlen : x.args.length = y.args.length) => rounds (K := K) (ro := ⟨0, []⟩) e x.args.length (fun k tm1 n h => tm1.length = 52 ∧ getC tm1 3 = (.ptr 1 0, false) ∧ getC tm1 36 = (.lst (encXs x.args), false) ∧ getC tm1 37 = (.int .i64 x.args.length, false) ∧ getC tm1 38 = (.int .i64 k, false) ∧ 2 ≤ n ∧ hget h 1 = some (cellsX y) ∧ x.args.take k = y.args.take k)
      (fun r => ∃ tm' n' hp', r = some (if samesX x.args y.args = true then .exit 0 else .ret, ⟨tm', n', hp'⟩) ∧ tm'.length = 52 ∧ (samesX x.args y.args = false → getC tm' 4 = (.bool false, false))) (fun tm1 n h r => by
        rintro ⟨ht, h3, h36, h37, h38, hn, hb, htk⟩ hX
        rw [List.take_length, hlen, List.take_length] at htk
        have hsm := (samesX_iff _ _).2 htk
        simp [ht, h37, h38] at hX
        subst hX
        exact ⟨_, _, rfl, by simp, _, _, _, by rw [if_pos hsm], by simp [ht], fun h => by rw [hsm] at h; cases h⟩) (fun k tm1 n h r hk => by
        rintro ⟨ht, h3, h36, h37, h38, hn, hb, htk⟩ hX
        have hxk := List.getElem?_eq_getElem (l := x.args) (i := k) hk
        have hyk := List.getElem?_eq_getElem (l := y.args) (i := k) (by omega)
        generalize x.args[k] = u at hxk
        generalize y.args[k] = v at hyk
        have hum := List.mem_of_getElem? hxk
        have hkl : (k : Int) < x.args.length := by omega
        have hue := encXs_at hxk
        have hve := encXs_at hyk
        have hw2 : IntKind.i64.wrap ((k : Int) + 1) = (k : Int) + 1 := wrap_small (by omega) (by omega)
        have w1 : ¬ n = 1 := by omega
        have w2 : ¬ 1 = n := by omega
        unfold cellsX at hb
        have hxm := fun ro nx hp => ih u v (by have := args_lt hum; omega) (h4 u hum) ro nx hp
        rw [encX_eq u, encX_eq v] at hxm
        rw [encX_eq] at hue hve
        by_cases c : u = v
        · left
          have hsv : sameX u v = true := (same_iff u v).2 c
          rw [hsv] at hxm
          simp [ht, h3, h36, h37, h38, hkl, hue, hve, hw2, hxm, hb, w1, w2] at hX
          subst hX
          refine ⟨_, _, _, rfl, by simp [ht], by simp [h3], by simp [h36], by simp [h37], by simp [ht], by omega, by simp [w1, w2, hb, cellsX], (take_step hxk hyk htk).2 c⟩
        · right
          have hsv : sameX u v = false := by cases hq : sameX u v with | false => rfl | true => exact absurd ((same_iff u v).1 hq) c
          have hsm : samesX x.args y.args = false := by
            cases hq : samesX x.args y.args with
            | false => rfl
            | true =>
              have := (samesX_iff _ _).1 hq
              rw [this, hyk] at hxk
              cases hxk
              exact absurd rfl c
          rw [hsv] at hxm
          simp [ht, h3, h36, h37, h38, hkl, hue, hve, hw2, hxm, hb, w1, w2] at hX
          subst hX
          exact ⟨_, _, rfl, by simp, _, _, _, by rw [hsm]; rfl, by simp [ht], fun _ => by simp [ht]⟩) 0
    rw [sameX_eq]
    rw [R_val' K ro 263 _ nx hp [] Tryz.func263 rfl Tryz.ntmps263 Tryz.results263 (mu := []) rfl (by kernel_rfl) rfl rfl]; simp only [slim, slimO, annO, List.map, List.zip, List.zipWith, List.lookup, holed, Nat.reduceBEq]
    by_cases c1 : x.op = y.op
    · by_cases c2 : x.n = y.n
      · by_cases c3 : x.name.toList = y.name.toList
        · by_cases c4 : x.args.length = y.args.length
          · have c4' : (x.args.length : Int) = y.args.length := by omega
            simp [List.replicate, encX_eq, encXs_len, c1, c2, c3, c4']
            generalize hg : X K _ (.loop _) _ = r
            obtain ⟨tm', n', hp', rfl, g1, g2⟩ : ∃ tm' n' hp', r = some (if samesX x.args y.args = true then .exit 0 else .ret, ⟨tm', n', hp'⟩) ∧ tm'.length = 52 ∧ (samesX x.args y.args = false → getC tm' 4 = (.bool false, false)) := by
              rw [← hg]
              refine hloop c4 _ _ _ (by omega) ⟨?_, ?_, ?_, ?_, ?_, ?_, ?_, ?_⟩
              all_goals simp [cellsX, c1, c2, c4]
            clear hg hloop
            cases hsm : samesX x.args y.args
            · simp [g1, g2 hsm, hsm]
            · simp [g1, hsm]
          · have c4' : ¬ (x.args.length : Int) = y.args.length := by omega
            have hsm : samesX x.args y.args = false := by
              cases hq : samesX x.args y.args with
              | false => rfl
              | true => exact absurd (by rw [(samesX_iff _ _).1 hq]) c4
            simp [List.replicate, encX_eq, encXs_len, c1, c2, c3, c4', hsm]
        · simp [List.replicate, encX_eq, encXs_len, c1, c2, c3]
      · simp [List.replicate, encX_eq, encXs_len, c1, c2]
    · simp [List.replicate, encX_eq, encXs_len, c1]
theorem sameQ_R : ∀ (N : Nat) (x y : Ex), SizeOf.sizeOf x < N → shX x = true → ∀ (ro nx : Nat) (hp : Heap), R K 35 [encX x, encX y] ro nx hp = some ⟨.bool (sameX x y), false, nx, hp⟩ := by
  have e := LB_open (P := Tryz.prog) [] 0 Tryz.func103 rfl rfl (by kernel_rfl)
  simp only [slim, slimO, annO, List.map, List.zip, List.zipWith, List.lookup, holed, loopsOf, List.nil_append, List.cons_append, List.getD_cons_zero, List.getD_cons_succ, Nat.reduceBEq] at e
  intro N
  induction N with
  | zero => intro x y hx; omega
  | succ N ih =>
    intro x y hx hs ro nx hp
    obtain ⟨h3, h4⟩ := (shX_eq x).1 hs
    have hloop := fun (hlen : x.args.length = y.args.length) => rounds (K := K) (ro := ⟨0, []⟩) e x.args.length (fun k tm1 n h => tm1.length = 32 ∧ getC tm1 1 = (.lst (encXs y.args), false) ∧ getC tm1 2 = (.clo 35 [] [], false) ∧ getC tm1 15 = (.lst (encXs x.args), false) ∧ getC tm1 16 = (.int .i64 x.args.length, false) ∧ getC tm1 17 = (.int .i64 k, false) ∧ x.args.take k = y.args.take k)
      (fun r => ∃ tm' n' hp', r = some (if samesX x.args y.args = true then .exit 0 else .ret, ⟨tm', n', hp'⟩) ∧ tm'.length = 32 ∧ (samesX x.args y.args = false → getC tm' 6 = (.bool false, false))) (fun tm1 n h r => by
        rintro ⟨ht, h1, h2, h15, h16, h17, htk⟩ hX
        rw [List.take_length, hlen, List.take_length] at htk
        have hsm := (samesX_iff _ _).2 htk
        simp [ht, h16, h17] at hX
        subst hX
        exact ⟨_, _, rfl, by simp, _, _, _, by rw [if_pos hsm], by simp [ht], fun h => by rw [hsm] at h; cases h⟩) (fun k tm1 n h r hk => by
        rintro ⟨ht, h1, h2, h15, h16, h17, htk⟩ hX
        have hxk := List.getElem?_eq_getElem (l := x.args) (i := k) hk
        have hyk := List.getElem?_eq_getElem (l := y.args) (i := k) (by omega)
        generalize x.args[k] = u at hxk
        generalize y.args[k] = v at hyk
        have hum := List.mem_of_getElem? hxk
        have hkl : (k : Int) < x.args.length := by omega
        have hue := encXs_at hxk
        have hve := encXs_at hyk
        have hw2 : IntKind.i64.wrap ((k : Int) + 1) = (k : Int) + 1 := wrap_small (by omega) (by omega)
        have hxm := fun ro nx hp => ih u v (by have := args_lt hum; omega) (h4 u hum) ro nx hp
        rw [encX_eq u, encX_eq v] at hxm
        rw [encX_eq] at hue hve
        by_cases c : u = v
        · left
          have hsv : sameX u v = true := (same_iff u v).2 c
          rw [hsv] at hxm
          simp [ht, h1, h2, h15, h16, h17, hkl, hue, hve, hw2, hxm] at hX
          subst hX
          refine ⟨_, _, _, rfl, by simp [ht], by simp [h1], by simp [h2], by simp [h15], by simp [h16], by simp [ht], (take_step hxk hyk htk).2 c⟩
        · right
          have hsv : sameX u v = false := by cases hq : sameX u v with | false => rfl | true => exact absurd ((same_iff u v).1 hq) c
          have hsm : samesX x.args y.args = false := by
            cases hq : samesX x.args y.args with
            | false => rfl
            | true =>
              have := (samesX_iff _ _).1 hq
              rw [this, hyk] at hxk
              cases hxk
              exact absurd rfl c
          rw [hsv] at hxm
          simp [ht, h1, h2, h15, h16, h17, hkl, hue, hve, hw2, hxm] at hX
          subst hX
          exact ⟨_, _, rfl, by simp, _, _, _, by rw [hsm]; rfl, by simp [ht], fun _ => by simp [ht]⟩) 0
    have heq : ∀ (ro nx : Nat) (hp : Heap), R K 103 [.lst (encXs x.args), .lst (encXs y.args), .clo 35 [] []] ro nx hp = some ⟨.bool (samesX x.args y.args), false, nx, hp⟩ := by
      intro ro nx hp
      rw [R_val' K ro 103 _ nx hp [] Tryz.func103 rfl Tryz.ntmps103 Tryz.results103 (mu := []) rfl (by kernel_rfl) rfl rfl]; simp only [slim, slimO, annO, List.map, List.zip, List.zipWith, List.lookup, holed, Nat.reduceBEq]
      by_cases c4 : x.args.length = y.args.length
      · have c4' : (x.args.length : Int) = y.args.length := by omega
        simp [List.replicate, encXs_len, c4']
        generalize hg : X K _ (.loop _) _ = r
        obtain ⟨tm', n', hp', rfl, g1, g2⟩ : ∃ tm' n' hp', r = some (if samesX x.args y.args = true then .exit 0 else .ret, ⟨tm', n', hp'⟩) ∧ tm'.length = 32 ∧ (samesX x.args y.args = false → getC tm' 6 = (.bool false, false)) := by
          rw [← hg]
          refine hloop c4 _ _ _ (by omega) ⟨?_, ?_, ?_, ?_, ?_, ?_, ?_⟩
          all_goals simp [c4]
        clear hg hloop
        cases hsm : samesX x.args y.args
        · simp [g1, g2 hsm, hsm]
        · simp [g1, hsm]
      · have c4' : ¬ (x.args.length : Int) = y.args.length := by omega
        have hsm : samesX x.args y.args = false := by
          cases hq : samesX x.args y.args with
          | false => rfl
          | true => exact absurd (by rw [(samesX_iff _ _).1 hq]) c4
        simp [List.replicate, encXs_len, c4', hsm]
    rw [sameX_eq]
    rw [R_val' K ro 35 _ nx hp [] Tryz.func35 rfl Tryz.ntmps35 Tryz.results35 (mu := []) rfl (by kernel_rfl) rfl rfl]; simp only [slim, slimO, annO, List.map, List.zip, List.zipWith, List.lookup, holed, Nat.reduceBEq]
    by_cases c1 : x.op = y.op
    · by_cases c2 : x.n = y.n
      · by_cases c3 : x.name.toList = y.name.toList
        · simp [List.replicate, encX_eq, encXs_len, c1, c2, c3, heq]
        · simp [List.replicate, encX_eq, encXs_len, c1, c2, c3]
      · simp [List.replicate, encX_eq, encXs_len, c1, c2]
    · simp [List.replicate, encX_eq, encXs_len, c1]
@[simp] theorem sameKit_R {x : Ex} (h : shX x = true) (y : Ex) (ro nx : Nat) (hp : Heap) : R K 263 [encX x, encX y] ro nx hp = some ⟨.bool (sameX x y), false, nx, hp⟩ := sameK_R _ x y (Nat.lt_succ_self _) h ro nx hp
@[simp] theorem sameRef_R {x : Ex} (h : shX x = true) (y : Ex) (ro nx : Nat) (hp : Heap) : R K 35 [encX x, encX y] ro nx hp = some ⟨.bool (sameX x y), false, nx, hp⟩ := sameQ_R _ x y (Nat.lt_succ_self _) h ro nx hp
end Go.Proofs.YtleimfinniclgaaGreatDoor.M
/- The rules of simple expressions: the program. -/
namespace Go.Proofs.YtleimfinniclgaaGreatDoor.M
open Go.Proofs Go.Proofs.YtleimfinniclgaaGreatDoor.X
set_option linter.unusedSimpArgs false
set_option linter.unusedVariables false
set_option maxRecDepth 100000
set_option pp.deepTerms false
set_option pp.deepTerms.threshold 6
set_option maxHeartbeats 4000000
theorem shape {e : Ex} (he : okX e = true) : ((e.op = 1 ∨ e.op = 2) ∧ e.args = []) ∨ ((e.op = 3 ∨ e.op = 4 ∨ e.op = 5 ∨ e.op = 6 ∨ e.op = 7) ∧ ∃ x y, e.args = [x, y] ∧ okX x = true ∧ okX y = true) ∨ (e.op = 8 ∧ ∃ x, e.args = [x] ∧ okX x = true) ∨ (e.op = 9 ∧ ∃ x y z, e.args = [x, y, z] ∧ okX x = true ∧ okX y = true ∧ okX z = true) := by
  obtain ⟨⟨h1, h2, h3⟩, h4⟩ := (okX_eq e).1 he
  by_cases c : e.op ≤ 2
  · left
    have ha : arityF e.op = 0 := by unfold arityF; grind
    refine ⟨by omega, List.eq_nil_of_length_eq_zero (by omega)⟩
  · right
    rcases arity_list (op := e.op) (by omega) e.args h3 with ⟨q, a, b, hab⟩ | ⟨q, a, hab⟩ | ⟨q, a, b, c, hab⟩
    · exact .inl ⟨q, a, b, hab, h4 a (by rw [hab]; simp), h4 b (by rw [hab]; simp)⟩
    · exact .inr (.inl ⟨q, a, hab, h4 a (by rw [hab]; simp)⟩)
    · exact .inr (.inr ⟨q, a, b, c, hab, h4 a (by rw [hab]; simp), h4 b (by rw [hab]; simp), h4 c (by rw [hab]; simp)⟩)
theorem encX_num (n : Int) : encX (numX n) = .agg [.int .i64 1, .int .i64 n, .str ⟨#[]⟩, .lst []] := by rw [encX_eq]; simp [numX, Ex.op, Ex.n, Ex.name, Ex.args, encXs]
theorem encX_not (e : Ex) : encX (notX e) = .agg [.int .i64 8, .int .i64 0, .str ⟨#[]⟩, .lst [encX e]] := by rw [encX_eq]; simp [notX, Ex.op, Ex.n, Ex.name, Ex.args, encXs]
theorem num_R (n : Int) (ro nx : Nat) (hp : Heap) : R K 261 [.int .i64 n] ro nx hp = some ⟨.agg [.int .i64 1, .int .i64 n, .str ⟨#[]⟩, .lst []], false, nx, hp⟩ := by
  rw [R_val' K ro 261 _ nx hp [] Tryz.func261 rfl Tryz.ntmps261 Tryz.results261 (mu := []) rfl (by kernel_rfl) rfl rfl]; simp only [slim, slimO, annO, List.map, List.zip, List.zipWith, List.lookup, holed, Nat.reduceBEq]
  simp [List.replicate]
  try rfl
theorem not_R (e : Ex) (ro nx : Nat) (hp : Heap) : R K 264 [encX e] ro nx hp = some ⟨.agg [.int .i64 8, .int .i64 0, .str ⟨#[]⟩, .lst [encX e]], false, nx, hp⟩ := by
  rw [R_val' K ro 264 _ nx hp [] Tryz.func264 rfl Tryz.ntmps264 Tryz.results264 (mu := []) rfl (by kernel_rfl) rfl rfl]; simp only [slim, slimO, annO, List.map, List.zip, List.zipWith, List.lookup, holed, Nat.reduceBEq]
  simp [List.replicate, encX_eq, encXs_len]
  try rfl
theorem isN_R (e : Ex) (n : Int) (ro nx : Nat) (hp : Heap) : R K 262 [encX e, .int .i64 n] ro nx hp = some ⟨.bool (isNX e n), false, nx, hp⟩ := by
  unfold isNX
  rw [R_val' K ro 262 _ nx hp [] Tryz.func262 rfl Tryz.ntmps262 Tryz.results262 (mu := []) rfl (by kernel_rfl) rfl rfl]; simp only [slim, slimO, annO, List.map, List.zip, List.zipWith, List.lookup, holed, Nat.reduceBEq]
  by_cases c : e.op = 1
  · simp [List.replicate, encX_eq, encXs_len, c]
  · simp [List.replicate, encX_eq, encXs_len, c]
theorem num1_R (n : Int) (ro nx : Nat) (hp : Heap) : R K 184 [.int .i64 n] ro nx hp = some ⟨.agg [.int .i64 1, .int .i64 n, .str ⟨#[]⟩, .lst []], false, nx, hp⟩ := by
  rw [R_val' K ro 184 _ nx hp [] Tryz.func184 rfl Tryz.ntmps184 Tryz.results184 (mu := []) rfl (by kernel_rfl) rfl rfl]; simp only [slim, slimO, annO, List.map, List.zip, List.zipWith, List.lookup, holed, Nat.reduceBEq]
  simp [List.replicate]
  try rfl
theorem not1_R (e : Ex) (ro nx : Nat) (hp : Heap) : R K 191 [encX e] ro nx hp = some ⟨.agg [.int .i64 8, .int .i64 0, .str ⟨#[]⟩, .lst [encX e]], false, nx, hp⟩ := by
  rw [R_val' K ro 191 _ nx hp [] Tryz.func191 rfl Tryz.ntmps191 Tryz.results191 (mu := []) rfl (by kernel_rfl) rfl rfl]; simp only [slim, slimO, annO, List.map, List.zip, List.zipWith, List.lookup, holed, Nat.reduceBEq]
  simp [List.replicate, encX_eq, encXs_len]
  try rfl
theorem isN1_R (e : Ex) (n : Int) (ro nx : Nat) (hp : Heap) : R K 186 [encX e, .int .i64 n] ro nx hp = some ⟨.bool (isNX e n), false, nx, hp⟩ := by
  unfold isNX
  rw [R_val' K ro 186 _ nx hp [] Tryz.func186 rfl Tryz.ntmps186 Tryz.results186 (mu := []) rfl (by kernel_rfl) rfl rfl]; simp only [slim, slimO, annO, List.map, List.zip, List.zipWith, List.lookup, holed, Nat.reduceBEq]
  by_cases c : e.op = 1
  · simp [List.replicate, encX_eq, encXs_len, c]
  · simp [List.replicate, encX_eq, encXs_len, c]
@[simp] theorem numX_op (n : Int) : (numX n).op = 1 := rfl
@[simp] theorem numX_n (n : Int) : (numX n).n = n := rfl
@[simp] theorem numX_name (n : Int) : (numX n).name = ⟨#[]⟩ := rfl
@[simp] theorem numX_args (n : Int) : (numX n).args = [] := rfl
@[simp] theorem notX_op (e : Ex) : (notX e).op = 8 := rfl
@[simp] theorem notX_n (e : Ex) : (notX e).n = 0 := rfl
@[simp] theorem notX_name (e : Ex) : (notX e).name = ⟨#[]⟩ := rfl
@[simp] theorem notX_args (e : Ex) : (notX e).args = [e] := rfl
/-- A rule's answer: what it gives, and whether it applies. -/
def ansX (e : Ex) (r : Option Ex) : AVal := .tup [encX (r.getD e), .bool r.isSome]
theorem folded_R {e : Ex} (he : okX e = true) (ro nx : Nat) (hp : Heap) : R K 173 [encX e] ro nx hp = some ⟨ansX e (r1X e), false, nx, hp⟩ := by
  have el := LB_open (P := Tryz.prog) [] 0 Tryz.func173 rfl rfl (by kernel_rfl)
  simp only [slim, slimO, annO, List.map, List.zip, List.zipWith, List.lookup, holed, loopsOf, List.nil_append, List.cons_append, List.getD_cons_zero, List.getD_cons_succ, Nat.reduceBEq] at el
  obtain ⟨⟨ho1, ho2, ho3⟩, ho4⟩ := (okX_eq e).1 he
  have ha := arity_le e.op
  have hloop := rounds (K := K) (ro := ⟨0, []⟩) el e.args.length (fun k tm1 n h => tm1.length = 33 ∧ getC tm1 1 = (.ptr 0 0, false) ∧ getC tm1 2 = (.ptr 1 0, false) ∧ getC tm1 8 = (.lst (encXs e.args), false) ∧ getC tm1 9 = (.int .i64 e.args.length, false) ∧ getC tm1 10 = (.int .i64 k, false) ∧ getC tm1 4 = (.lst (ints' ((e.args.take k).map Ex.n)), true) ∧ 2 ≤ n ∧ hget h 0 = some (cellsX e) ∧ (∃ a b c d, hget h 1 = some (.cells [a, b, c, d])) ∧ (e.args.take k).all (fun x => x.op == 1) = true)
    (fun r => if e.args.all (fun x => x.op == 1) = true then ∃ tm' n' hp', r = some (.exit 0, ⟨tm', n', hp'⟩) ∧ tm'.length = 33 ∧ getC tm' 1 = (.ptr 0 0, false) ∧ getC tm' 2 = (.ptr 1 0, false) ∧ getC tm' 4 = (.lst (ints' (e.args.map Ex.n)), true) ∧ 2 ≤ n' ∧ hget hp' 0 = some (cellsX e) ∧ (∃ a b c d, hget hp' 1 = some (.cells [a, b, c, d]))
      else ∃ tm' n' hp', r = some (.ret, ⟨tm', n', hp'⟩) ∧ tm'.length = 33 ∧ getC tm' 2 = (.ptr 1 0, false) ∧ getC tm' 3 = (.bool false, false) ∧ hget hp' 1 = some (cellsX e)) (fun tm1 n h r => by
      rintro ⟨ht, h1, h2, h8, h9, h10, h4, hn, hb, hz, hal⟩ hX
      rw [List.take_length] at hal h4
      simp [ht, h9, h10] at hX
      subst hX
      refine ⟨_, _, rfl, by simp, ?_⟩
      rw [if_pos hal]
      exact ⟨_, _, _, rfl, by simp [ht], by simp [h1], by simp [h2], by simp [h4], hn, hb, hz⟩) (fun k tm1 n h r hk => by
      rintro ⟨ht, h1, h2, h8, h9, h10, h4, hn, hb, ⟨za, zb, zc, zd, hz⟩, hal⟩ hX
      have hxk := List.getElem?_eq_getElem (l := e.args) (i := k) hk
      have htk : (e.args.take (k + 1)).map Ex.n = (e.args.take k).map Ex.n ++ [e.args[k].n] := by rw [List.take_add_one, hxk, List.map_append]; rfl
      have hta : (e.args.take (k + 1)).all (fun x => x.op == 1) = ((e.args.take k).all (fun x => x.op == 1) && e.args[k].op == 1) := by rw [List.take_add_one, hxk, List.all_append]; simp only [Option.toList_some, List.all_cons, List.all_nil, Bool.and_true]
      generalize e.args[k] = u at hxk htk hta
      have hum := List.mem_of_getElem? hxk
      have hkl : (k : Int) < e.args.length := by omega
      have hue := encXs_at hxk
      have hw2 : IntKind.i64.wrap ((k : Int) + 1) = (k : Int) + 1 := wrap_small (by omega) (by omega)
      have w1 : ¬ n = 1 := by omega
      have w2 : ¬ 1 = n := by omega
      have w3 : ¬ n = 0 := by omega
      have w4 : ¬ 0 = n := by omega
      have hlen : ((e.args.take k).length + 1) * 8 ≤ 140737488355328 := by rw [List.length_take]; omega
      unfold cellsX at hb
      rw [encX_eq] at hue
      by_cases c : u.op = 1
      · left
        have hlen2 : (min k e.args.length + 1) * 8 ≤ 140737488355328 := by omega
        simp [ht, h1, h2, h8, h9, h10, h4, hkl, hue, hw2, hb, w1, w2, w3, w4, c, hlen, hlen2] at hX
        subst hX
        exact ⟨_, _, _, rfl, by simp [ht], by simp [h1], by simp [h2], by simp [h8], by simp [h9], by simp [ht], by simp [ht, htk], by omega, by simp [w3, w4, hb, cellsX], ⟨za, zb, zc, zd, by simp [w1, w2, hz]⟩, by rw [hta, hal, c]; rfl⟩
      · right
        have hna : ¬ e.args.all (fun x => x.op == 1) = true := by
          intro h
          have := List.all_eq_true.1 h u hum
          simp at this
          exact c this
        simp [ht, h1, h2, h8, h9, h10, h4, hkl, hue, hw2, hb, hz, w1, w2, w3, w4, c] at hX
        subst hX
        refine ⟨_, _, rfl, by simp, ?_⟩
        rw [if_neg hna]
        exact ⟨_, _, _, rfl, by simp [ht], by simp [h2], by simp [ht], by simp [w1, w2, hz, cellsX]⟩) 0
  have hap := fun ro nx hp (h : 3 ≤ e.op) => apply_R e.op ⟨h, ho2⟩ (e.args.map Ex.n) (by rw [List.length_map]; exact ho3) ro nx hp
  have hnm := num_R
  unfold ansX
  rw [R_val' K ro 173 _ nx hp [] Tryz.func173 rfl Tryz.ntmps173 Tryz.results173 (mu := []) rfl (by kernel_rfl) rfl rfl]; simp only [slim, slimO, annO, List.map, List.zip, List.zipWith, List.lookup, holed, Nat.reduceBEq]
  simp [List.replicate, encX_eq, encXs_len]
  generalize hg : X K _ (.loop _) _ = r
  have hk : if e.args.all (fun x => x.op == 1) = true then ∃ tm' n' hp', r = some (.exit 0, ⟨tm', n', hp'⟩) ∧ tm'.length = 33 ∧ getC tm' 1 = (.ptr 0 0, false) ∧ getC tm' 2 = (.ptr 1 0, false) ∧ getC tm' 4 = (.lst (ints' (e.args.map Ex.n)), true) ∧ 2 ≤ n' ∧ hget hp' 0 = some (cellsX e) ∧ (∃ a b c d, hget hp' 1 = some (.cells [a, b, c, d]))
      else ∃ tm' n' hp', r = some (.ret, ⟨tm', n', hp'⟩) ∧ tm'.length = 33 ∧ getC tm' 2 = (.ptr 1 0, false) ∧ getC tm' 3 = (.bool false, false) ∧ hget hp' 1 = some (cellsX e) := by
    rw [← hg]
    refine hloop _ _ _ (by omega) ⟨?_, ?_, ?_, ?_, ?_, ?_, ?_, ?_, ?_, ⟨(.int .i64 0, false), (.int .i64 0, false), (.str ⟨#[]⟩, false), (.lst [], true), ?_⟩, ?_⟩
    rotate_left 9
    · simp; rfl
    all_goals simp [cellsX, ints']
  clear hg hloop
  by_cases hal : e.args.all (fun x => x.op == 1) = true
  · rw [if_pos hal] at hk
    obtain ⟨tm', n', hp', rfl, g1, g2, g3, g4, g5, g6, a, b, c, d, g7⟩ := hk
    unfold cellsX at g6
    by_cases hnil : e.args = []
    · have hr : r1X e = none := by simp [r1X, hnil]
      simp [g1, g2, g3, g4, g6, g7, hnil, hr, encXs]
    · have h3 : 3 ≤ e.op := by
        rcases shape he with ⟨_, q⟩ | ⟨q, _⟩ | ⟨q, _⟩ | ⟨q, _⟩
        · exact absurd q hnil
        all_goals omega
      have hal' : ∀ x ∈ e.args, x.op = 1 := fun x hx => by have := List.all_eq_true.1 hal x hx; simpa using this
      have hap' := fun ro nx hp => hap ro nx hp h3
      have hr : r1X e = some (numX (appV e.op (e.args.map Ex.n))) := by unfold r1X; rw [if_pos ⟨hnil, hal⟩]
      simp [g1, g2, g3, g4, g6, g7, hnil, hap', hnm, hr, encXs]
  · rw [if_neg hal] at hk
    obtain ⟨tm', n', hp', rfl, g1, g2, g3, g4⟩ := hk
    unfold cellsX at g4
    have hr : r1X e = none := by unfold r1X; rw [if_neg fun h => hal h.2]
    simp [g1, g2, g3, g4, hr]
theorem neutral_R {e : Ex} (he : okX e = true) (ro nx : Nat) (hp : Heap) : R K 174 [encX e] ro nx hp = some ⟨ansX e (r2X e), false, nx, hp⟩ := by
  have hN := fun (e : Ex) (n : Int) ro nx hp => isN_R e n ro nx hp
  have hnm := num_R
  have hnt := fun (e : Ex) ro nx hp => not_R e ro nx hp
  have hsa := fun (x y : Ex) (h : okX x = true) ro nx hp => sameKit_R (ok_sh h) y ro nx hp
  simp only [encX_eq] at hN hnt hsa
  unfold ansX r2X
  rcases shape he with ⟨hop, ha⟩ | ⟨hop, x, y, ha, hx, hy⟩ | ⟨hop, x, ha, hx⟩ | ⟨hop, x, y, z, ha, hx, hy, hz⟩
  · rw [R_val' K ro 174 _ nx hp [(3, [[], [1], [], [3], [], [5], [], [7], [1, 3, 5, 7], [1, 3, 5, 7], [5, 7], []])] Tryz.func174 rfl Tryz.ntmps174 Tryz.results174 (mu := []) rfl (by kernel_rfl) rfl rfl]; simp only [slim, slimO, annO, List.map, List.zip, List.zipWith, List.lookup, holed, Nat.reduceBEq]
    rcases hop with hop | hop <;> simp [List.replicate, List.lookup, stayB, encX_eq, encXs_len, ha, encXs, hop, hN, hnm, hnt, hsa, encX_num, encX_not, List.length]
  · rcases hop with hop | hop | hop | hop | hop
    · rw [R_val' K ro 174 _ nx hp [(3, [[], [1], [], [3], [], [5], [], [7], [1, 3, 5, 7], [1, 3, 5, 7], [5, 7], []])] Tryz.func174 rfl Tryz.ntmps174 Tryz.results174 (mu := []) rfl (by kernel_rfl) rfl rfl]; simp only [slim, slimO, annO, List.map, List.zip, List.zipWith, List.lookup, holed, Nat.reduceBEq]
      cases c1 : isNX y 0 <;> cases c2 : isNX x 0 <;> simp [List.replicate, List.lookup, stayB, encX_eq, encXs_len, ha, encXs, hop, hN, hnm, hnt, hsa, encX_num, encX_not, c1, c2]
    · rw [R_val' K ro 174 _ nx hp [(3, [[], [1], [], [3], [], [5], [], [7], [1, 3, 5, 7], [1, 3, 5, 7], [5, 7], []])] Tryz.func174 rfl Tryz.ntmps174 Tryz.results174 (mu := []) rfl (by kernel_rfl) rfl rfl]; simp only [slim, slimO, annO, List.map, List.zip, List.zipWith, List.lookup, holed, Nat.reduceBEq]
      cases c1 : isNX y 0 <;> simp [List.replicate, List.lookup, stayB, encX_eq, encXs_len, ha, encXs, hop, hN, hnm, hnt, hsa, encX_num, encX_not, c1]
    · rw [R_val' K ro 174 _ nx hp [(3, [[], [1], [], [3], [], [5], [], [7], [1, 3, 5, 7], [1, 3, 5, 7], [5, 7], []])] Tryz.func174 rfl Tryz.ntmps174 Tryz.results174 (mu := []) rfl (by kernel_rfl) rfl rfl]; simp only [slim, slimO, annO, List.map, List.zip, List.zipWith, List.lookup, holed, Nat.reduceBEq]
      cases c1 : isNX y 1 <;> cases c2 : isNX x 1 <;> cases c3 : isNX x 0 <;> cases c4 : isNX y 0 <;> simp [List.replicate, List.lookup, stayB, encX_eq, encXs_len, ha, encXs, hop, hN, hnm, hnt, hsa, encX_num, encX_not, c1, c2, c3, c4]
    · rw [R_val' K ro 174 _ nx hp [(3, [[], [1], [], [3], [], [5], [], [7], [1, 3, 5, 7], [1, 3, 5, 7], [5, 7], []])] Tryz.func174 rfl Tryz.ntmps174 Tryz.results174 (mu := []) rfl (by kernel_rfl) rfl rfl]; simp only [slim, slimO, annO, List.map, List.zip, List.zipWith, List.lookup, holed, Nat.reduceBEq]
      simp [List.replicate, List.lookup, stayB, encX_eq, encXs_len, ha, encXs, hop, hN, hnm, hnt, hsa, encX_num, encX_not, List.length]
    · rw [R_val' K ro 174 _ nx hp [(3, [[], [1], [], [3], [], [5], [], [7], [1, 3, 5, 7], [1, 3, 5, 7], [5, 7], []])] Tryz.func174 rfl Tryz.ntmps174 Tryz.results174 (mu := []) rfl (by kernel_rfl) rfl rfl]; simp only [slim, slimO, annO, List.map, List.zip, List.zipWith, List.lookup, holed, Nat.reduceBEq]
      simp [List.replicate, List.lookup, stayB, encX_eq, encXs_len, ha, encXs, hop, hN, hnm, hnt, hsa, encX_num, encX_not, List.length]
  · rw [R_val' K ro 174 _ nx hp [(3, [[], [1], [], [3], [], [5], [], [7], [1, 3, 5, 7], [1, 3, 5, 7], [5, 7], []])] Tryz.func174 rfl Tryz.ntmps174 Tryz.results174 (mu := []) rfl (by kernel_rfl) rfl rfl]; simp only [slim, slimO, annO, List.map, List.zip, List.zipWith, List.lookup, holed, Nat.reduceBEq]
    simp [List.replicate, List.lookup, stayB, encX_eq, encXs_len, ha, encXs, hop, hN, hnm, hnt, hsa, encX_num, encX_not, List.length]
  · rw [R_val' K ro 174 _ nx hp [(3, [[], [1], [], [3], [], [5], [], [7], [1, 3, 5, 7], [1, 3, 5, 7], [5, 7], []])] Tryz.func174 rfl Tryz.ntmps174 Tryz.results174 (mu := []) rfl (by kernel_rfl) rfl rfl]; simp only [slim, slimO, annO, List.map, List.zip, List.zipWith, List.lookup, holed, Nat.reduceBEq]
    simp [List.replicate, List.lookup, stayB, encX_eq, encXs_len, ha, encXs, hop, hN, hnm, hnt, hsa, encX_num, encX_not, List.length]
theorem equal_R {e : Ex} (he : okX e = true) (ro nx : Nat) (hp : Heap) : R K 175 [encX e] ro nx hp = some ⟨ansX e (r3X e), false, nx, hp⟩ := by
  have hN := fun (e : Ex) (n : Int) ro nx hp => isN_R e n ro nx hp
  have hnm := num_R
  have hnt := fun (e : Ex) ro nx hp => not_R e ro nx hp
  have hsa := fun (x y : Ex) (h : okX x = true) ro nx hp => sameKit_R (ok_sh h) y ro nx hp
  simp only [encX_eq] at hN hnt hsa
  unfold ansX r3X
  rcases shape he with ⟨hop, ha⟩ | ⟨hop, x, y, ha, hx, hy⟩ | ⟨hop, x, ha, hx⟩ | ⟨hop, x, y, z, ha, hx, hy, hz⟩
  · rw [R_val' K ro 175 _ nx hp [] Tryz.func175 rfl Tryz.ntmps175 Tryz.results175 (mu := []) rfl (by kernel_rfl) rfl rfl]; simp only [slim, slimO, annO, List.map, List.zip, List.zipWith, List.lookup, holed, Nat.reduceBEq]
    rcases hop with hop | hop <;> simp [List.replicate, List.lookup, stayB, encX_eq, encXs_len, ha, encXs, hop, hN, hnm, hnt, hsa, encX_num, encX_not, List.length]
  · rcases hop with hop | hop | hop | hop | hop
    all_goals
      rw [R_val' K ro 175 _ nx hp [] Tryz.func175 rfl Tryz.ntmps175 Tryz.results175 (mu := []) rfl (by kernel_rfl) rfl rfl]; simp only [slim, slimO, annO, List.map, List.zip, List.zipWith, List.lookup, holed, Nat.reduceBEq]
      cases c1 : sameX x y <;> simp [List.replicate, List.lookup, stayB, encX_eq, encXs_len, ha, encXs, hop, hN, hnm, hnt, hsa, encX_num, encX_not, c1, hx]
  · rw [R_val' K ro 175 _ nx hp [] Tryz.func175 rfl Tryz.ntmps175 Tryz.results175 (mu := []) rfl (by kernel_rfl) rfl rfl]; simp only [slim, slimO, annO, List.map, List.zip, List.zipWith, List.lookup, holed, Nat.reduceBEq]
    simp [List.replicate, List.lookup, stayB, encX_eq, encXs_len, ha, encXs, hop, hN, hnm, hnt, hsa, encX_num, encX_not, List.length]
  · rw [R_val' K ro 175 _ nx hp [] Tryz.func175 rfl Tryz.ntmps175 Tryz.results175 (mu := []) rfl (by kernel_rfl) rfl rfl]; simp only [slim, slimO, annO, List.map, List.zip, List.zipWith, List.lookup, holed, Nat.reduceBEq]
    simp [List.replicate, List.lookup, stayB, encX_eq, encXs_len, ha, encXs, hop, hN, hnm, hnt, hsa, encX_num, encX_not, List.length]
theorem never_R {e : Ex} (he : okX e = true) (ro nx : Nat) (hp : Heap) : R K 176 [encX e] ro nx hp = some ⟨ansX e (r4X e), false, nx, hp⟩ := by
  have hN := fun (e : Ex) (n : Int) ro nx hp => isN_R e n ro nx hp
  have hnm := num_R
  have hnt := fun (e : Ex) ro nx hp => not_R e ro nx hp
  have hsa := fun (x y : Ex) (h : okX x = true) ro nx hp => sameKit_R (ok_sh h) y ro nx hp
  simp only [encX_eq] at hN hnt hsa
  unfold ansX r4X
  rcases shape he with ⟨hop, ha⟩ | ⟨hop, x, y, ha, hx, hy⟩ | ⟨hop, x, ha, hx⟩ | ⟨hop, x, y, z, ha, hx, hy, hz⟩
  · rw [R_val' K ro 176 _ nx hp [] Tryz.func176 rfl Tryz.ntmps176 Tryz.results176 (mu := []) rfl (by kernel_rfl) rfl rfl]; simp only [slim, slimO, annO, List.map, List.zip, List.zipWith, List.lookup, holed, Nat.reduceBEq]
    rcases hop with hop | hop <;> simp [List.replicate, List.lookup, stayB, encX_eq, encXs_len, ha, encXs, hop, hN, hnm, hnt, hsa, encX_num, encX_not, List.length]
  · rcases hop with hop | hop | hop | hop | hop
    all_goals
      rw [R_val' K ro 176 _ nx hp [] Tryz.func176 rfl Tryz.ntmps176 Tryz.results176 (mu := []) rfl (by kernel_rfl) rfl rfl]; simp only [slim, slimO, annO, List.map, List.zip, List.zipWith, List.lookup, holed, Nat.reduceBEq]
      cases c1 : isNX y 0 <;> cases c2 : isNX x 999 <;> simp [List.replicate, List.lookup, stayB, encX_eq, encXs_len, ha, encXs, hop, hN, hnm, hnt, hsa, encX_num, encX_not, c1, c2]
  · rw [R_val' K ro 176 _ nx hp [] Tryz.func176 rfl Tryz.ntmps176 Tryz.results176 (mu := []) rfl (by kernel_rfl) rfl rfl]; simp only [slim, slimO, annO, List.map, List.zip, List.zipWith, List.lookup, holed, Nat.reduceBEq]
    simp [List.replicate, List.lookup, stayB, encX_eq, encXs_len, ha, encXs, hop, hN, hnm, hnt, hsa, encX_num, encX_not, List.length]
  · rw [R_val' K ro 176 _ nx hp [] Tryz.func176 rfl Tryz.ntmps176 Tryz.results176 (mu := []) rfl (by kernel_rfl) rfl rfl]; simp only [slim, slimO, annO, List.map, List.zip, List.zipWith, List.lookup, holed, Nat.reduceBEq]
    simp [List.replicate, List.lookup, stayB, encX_eq, encXs_len, ha, encXs, hop, hN, hnm, hnt, hsa, encX_num, encX_not, List.length]
theorem decided_R {e : Ex} (he : okX e = true) (ro nx : Nat) (hp : Heap) : R K 177 [encX e] ro nx hp = some ⟨ansX e (r5X e), false, nx, hp⟩ := by
  have hN := fun (e : Ex) (n : Int) ro nx hp => isN_R e n ro nx hp
  have hnm := num_R
  have hnt := fun (e : Ex) ro nx hp => not_R e ro nx hp
  have hsa := fun (x y : Ex) (h : okX x = true) ro nx hp => sameKit_R (ok_sh h) y ro nx hp
  simp only [encX_eq] at hN hnt hsa
  unfold ansX r5X
  rcases shape he with ⟨hop, ha⟩ | ⟨hop, x, y, ha, hx, hy⟩ | ⟨hop, x, ha, hx⟩ | ⟨hop, x, y, z, ha, hx, hy, hz⟩
  · rw [R_val' K ro 177 _ nx hp [] Tryz.func177 rfl Tryz.ntmps177 Tryz.results177 (mu := []) rfl (by kernel_rfl) rfl rfl]; simp only [slim, slimO, annO, List.map, List.zip, List.zipWith, List.lookup, holed, Nat.reduceBEq]
    rcases hop with hop | hop <;> simp [List.replicate, List.lookup, stayB, encX_eq, encXs_len, ha, encXs, hop, hN, hnm, hnt, hsa, encX_num, encX_not, List.length]
  · rcases hop with hop | hop | hop | hop | hop
    all_goals
      rw [R_val' K ro 177 _ nx hp [] Tryz.func177 rfl Tryz.ntmps177 Tryz.results177 (mu := []) rfl (by kernel_rfl) rfl rfl]; simp only [slim, slimO, annO, List.map, List.zip, List.zipWith, List.lookup, holed, Nat.reduceBEq]
      simp [List.replicate, List.lookup, stayB, encX_eq, encXs_len, ha, encXs, hop, hN, hnm, hnt, hsa, encX_num, encX_not, List.length]
  · rw [R_val' K ro 177 _ nx hp [] Tryz.func177 rfl Tryz.ntmps177 Tryz.results177 (mu := []) rfl (by kernel_rfl) rfl rfl]; simp only [slim, slimO, annO, List.map, List.zip, List.zipWith, List.lookup, holed, Nat.reduceBEq]
    simp [List.replicate, List.lookup, stayB, encX_eq, encXs_len, ha, encXs, hop, hN, hnm, hnt, hsa, encX_num, encX_not, List.length]
  · by_cases c1 : x.op = 1
    · by_cases c2 : x.n = 0
      · rw [R_val' K ro 177 _ nx hp [] Tryz.func177 rfl Tryz.ntmps177 Tryz.results177 (mu := []) rfl (by kernel_rfl) rfl rfl]; simp only [slim, slimO, annO, List.map, List.zip, List.zipWith, List.lookup, holed, Nat.reduceBEq]
        simp [List.replicate, List.lookup, stayB, encX_eq, encXs_len, ha, encXs, hop, hN, hnm, hnt, hsa, encX_num, encX_not, c1, c2]
      · rw [R_val' K ro 177 _ nx hp [] Tryz.func177 rfl Tryz.ntmps177 Tryz.results177 (mu := []) rfl (by kernel_rfl) rfl rfl]; simp only [slim, slimO, annO, List.map, List.zip, List.zipWith, List.lookup, holed, Nat.reduceBEq]
        simp [List.replicate, List.lookup, stayB, encX_eq, encXs_len, ha, encXs, hop, hN, hnm, hnt, hsa, encX_num, encX_not, c1, c2]
    · rw [R_val' K ro 177 _ nx hp [] Tryz.func177 rfl Tryz.ntmps177 Tryz.results177 (mu := []) rfl (by kernel_rfl) rfl rfl]; simp only [slim, slimO, annO, List.map, List.zip, List.zipWith, List.lookup, holed, Nat.reduceBEq]
      cases c3 : sameX y z <;> simp [List.replicate, List.lookup, stayB, encX_eq, encXs_len, ha, encXs, hop, hN, hnm, hnt, hsa, encX_num, encX_not, c1, c3, hy]
theorem denied_R {e : Ex} (he : okX e = true) (ro nx : Nat) (hp : Heap) : R K 178 [encX e] ro nx hp = some ⟨ansX e (r6X e), false, nx, hp⟩ := by
  have hN := fun (e : Ex) (n : Int) ro nx hp => isN_R e n ro nx hp
  have hnm := num_R
  have hnt := fun (e : Ex) ro nx hp => not_R e ro nx hp
  have hsa := fun (x y : Ex) (h : okX x = true) ro nx hp => sameKit_R (ok_sh h) y ro nx hp
  simp only [encX_eq] at hN hnt hsa
  unfold ansX r6X
  rcases shape he with ⟨hop, ha⟩ | ⟨hop, x, y, ha, hx, hy⟩ | ⟨hop, x, ha, hx⟩ | ⟨hop, x, y, z, ha, hx, hy, hz⟩
  · rw [R_val' K ro 178 _ nx hp [] Tryz.func178 rfl Tryz.ntmps178 Tryz.results178 (mu := []) rfl (by kernel_rfl) rfl rfl]; simp only [slim, slimO, annO, List.map, List.zip, List.zipWith, List.lookup, holed, Nat.reduceBEq]
    rcases hop with hop | hop <;> simp [List.replicate, List.lookup, stayB, encX_eq, encXs_len, ha, encXs, hop, hN, hnm, hnt, hsa, encX_num, encX_not, List.length]
  · rcases hop with hop | hop | hop | hop | hop
    all_goals
      rw [R_val' K ro 178 _ nx hp [] Tryz.func178 rfl Tryz.ntmps178 Tryz.results178 (mu := []) rfl (by kernel_rfl) rfl rfl]; simp only [slim, slimO, annO, List.map, List.zip, List.zipWith, List.lookup, holed, Nat.reduceBEq]
      cases c1 : isNX y 0 <;> cases c2 : isNX x 0 <;> simp [List.replicate, List.lookup, stayB, encX_eq, encXs_len, ha, encXs, hop, hN, hnm, hnt, hsa, encX_num, encX_not, c1, c2]
  · by_cases c1 : x.op = 8
    · rcases shape hx with ⟨q, _⟩ | ⟨q, _⟩ | ⟨_, y, hxa, _⟩ | ⟨q, _⟩
      · omega
      · omega
      · by_cases c2 : y.op = 8
        · rw [R_val' K ro 178 _ nx hp [] Tryz.func178 rfl Tryz.ntmps178 Tryz.results178 (mu := []) rfl (by kernel_rfl) rfl rfl]; simp only [slim, slimO, annO, List.map, List.zip, List.zipWith, List.lookup, holed, Nat.reduceBEq]
          simp [List.replicate, List.lookup, stayB, encX_eq, encXs_len, ha, encXs, hop, hN, hnm, hnt, hsa, encX_num, encX_not, c1, c2, hxa]
        · rw [R_val' K ro 178 _ nx hp [] Tryz.func178 rfl Tryz.ntmps178 Tryz.results178 (mu := []) rfl (by kernel_rfl) rfl rfl]; simp only [slim, slimO, annO, List.map, List.zip, List.zipWith, List.lookup, holed, Nat.reduceBEq]
          simp [List.replicate, List.lookup, stayB, encX_eq, encXs_len, ha, encXs, hop, hN, hnm, hnt, hsa, encX_num, encX_not, c1, c2, hxa]
      · omega
    · rw [R_val' K ro 178 _ nx hp [] Tryz.func178 rfl Tryz.ntmps178 Tryz.results178 (mu := []) rfl (by kernel_rfl) rfl rfl]; simp only [slim, slimO, annO, List.map, List.zip, List.zipWith, List.lookup, holed, Nat.reduceBEq]
      cases hxa : x.args <;> simp [List.replicate, List.lookup, stayB, encX_eq, encXs_len, ha, encXs, hop, hN, hnm, hnt, hsa, encX_num, encX_not, c1, hxa]
  · rw [R_val' K ro 178 _ nx hp [] Tryz.func178 rfl Tryz.ntmps178 Tryz.results178 (mu := []) rfl (by kernel_rfl) rfl rfl]; simp only [slim, slimO, annO, List.map, List.zip, List.zipWith, List.lookup, holed, Nat.reduceBEq]
    simp [List.replicate, List.lookup, stayB, encX_eq, encXs_len, ha, encXs, hop, hN, hnm, hnt, hsa, encX_num, encX_not, List.length]
end Go.Proofs.YtleimfinniclgaaGreatDoor.M
/- The rules of simple expressions: the reference. -/
namespace Go.Proofs.YtleimfinniclgaaGreatDoor.M
open Go.Proofs Go.Proofs.YtleimfinniclgaaGreatDoor.X
set_option linter.unusedSimpArgs false
set_option linter.unusedVariables false
set_option maxRecDepth 100000
set_option pp.deepTerms false
set_option pp.deepTerms.threshold 6
set_option maxHeartbeats 4000000
theorem contains34 (op : Int) (h : 1 ≤ op ∧ op ≤ 9) (ro nx : Nat) (hp : Heap) : R K 182 [.lst [.int .i64 3, .int .i64 4], .int .i64 op] ro nx hp = some ⟨.bool (op == 3 || op == 4), false, nx, hp⟩ := by
  have : op = 1 ∨ op = 2 ∨ op = 3 ∨ op = 4 ∨ op = 5 ∨ op = 6 ∨ op = 7 ∨ op = 8 ∨ op = 9 := by omega
  rcases this with rfl | rfl | rfl | rfl | rfl | rfl | rfl | rfl | rfl
  all_goals exact val_any rfl (by simp) (R_iff.2 ⟨20, by kernel_rfl⟩) ro nx hp
theorem contains467 (op : Int) (h : 1 ≤ op ∧ op ≤ 9) (ro nx : Nat) (hp : Heap) : R K 182 [.lst [.int .i64 4, .int .i64 6, .int .i64 7], .int .i64 op] ro nx hp = some ⟨.bool (op == 4 || op == 6 || op == 7), false, nx, hp⟩ := by
  have : op = 1 ∨ op = 2 ∨ op = 3 ∨ op = 4 ∨ op = 5 ∨ op = 6 ∨ op = 7 ∨ op = 8 ∨ op = 9 := by omega
  rcases this with rfl | rfl | rfl | rfl | rfl | rfl | rfl | rfl | rfl
  all_goals exact val_any rfl (by simp) (R_iff.2 ⟨20, by kernel_rfl⟩) ro nx hp
theorem rule1_R {x y : Ex} (hx : okX x = true) (ro nx : Nat) (hp : Heap) : R K 180 [.lst [encX x, encX y]] ro nx hp = some ⟨.bool (sameX x y), false, nx, hp⟩ := by
  have hsa := fun (x y : Ex) (h : okX x = true) ro nx hp => sameRef_R (ok_sh h) y ro nx hp
  simp only [encX_eq] at hsa
  rw [R_val' K ro 180 _ nx hp [] Tryz.func180 rfl Tryz.ntmps180 Tryz.results180 (mu := []) rfl (by kernel_rfl) rfl rfl]; simp only [slim, slimO, annO, List.map, List.zip, List.zipWith, List.lookup, holed, Nat.reduceBEq]
  simp [List.replicate, encX_eq, encXs_len, hsa, hx]
theorem rule2_R (op : Int) (h : 1 ≤ op ∧ op ≤ 9) (a : List Ex) (ro nx : Nat) (hp : Heap) : R K 181 [.int .i64 op, .lst (encXs a), .lst [.int .i64 3, .int .i64 4]] ro nx hp = some ⟨.bool (op == 3 || op == 4), false, nx, hp⟩ ∧ R K 181 [.int .i64 op, .lst (encXs a), .lst [.int .i64 4, .int .i64 6, .int .i64 7]] ro nx hp = some ⟨.bool (op == 4 || op == 6 || op == 7), false, nx, hp⟩ := by
  have h1 := contains34 op h
  have h2 := contains467 op h
  constructor
  · rw [R_val' K ro 181 _ nx hp [] Tryz.func181 rfl Tryz.ntmps181 Tryz.results181 (mu := []) rfl (by kernel_rfl) rfl rfl]; simp only [slim, slimO, annO, List.map, List.zip, List.zipWith, List.lookup, holed, Nat.reduceBEq]
    simp [List.replicate, h1]
  · rw [R_val' K ro 181 _ nx hp [] Tryz.func181 rfl Tryz.ntmps181 Tryz.results181 (mu := []) rfl (by kernel_rfl) rfl rfl]; simp only [slim, slimO, annO, List.map, List.zip, List.zipWith, List.lookup, holed, Nat.reduceBEq]
    simp [List.replicate, h2]
/-- A rule's answer: it applies or not, and then what it gives. -/
def RefOk (f : FuncId) (cs : List AVal) (e : Ex) (r : Option Ex) (nx : Nat) (hp : Heap) : Prop := ∃ g : Ex, (∀ ro, R K f ([.int .i64 e.op, .lst (encXs e.args)] ++ cs) ro nx hp = some ⟨.tup [encX g, .bool r.isSome], false, nx, hp⟩) ∧ ∀ x, r = some x → g = x
def zeroX : Ex := .mk 0 0 ⟨#[]⟩ []
theorem encX_zero : encX zeroX = .agg [.int .i64 0, .int .i64 0, .str ⟨#[]⟩, .lst []] := by rw [encX_eq]; simp [zeroX, Ex.op, Ex.n, Ex.name, Ex.args, encXs]
theorem rule3_R {e : Ex} (he : okX e = true) (nx : Nat) (hp : Heap) : RefOk 183 [] e (r1X e) nx hp := by
  have el := LB_open (P := Tryz.prog) [] 0 Tryz.func183 rfl rfl (by kernel_rfl)
  simp only [slim, slimO, annO, List.map, List.zip, List.zipWith, List.lookup, holed, loopsOf, List.nil_append, List.cons_append, List.getD_cons_zero, List.getD_cons_succ, Nat.reduceBEq] at el
  obtain ⟨⟨ho1, ho2, ho3⟩, ho4⟩ := (okX_eq e).1 he
  have ha := arity_le e.op
  have hloop := rounds (K := K) (ro := ⟨0, []⟩) el e.args.length (fun k tm1 n h => tm1.length = 33 ∧ getC tm1 1 = (.lst (encXs e.args), false) ∧ getC tm1 0 = (.int .i64 e.op, false) ∧ getC tm1 4 = (.ptr 0 0, false) ∧ getC tm1 9 = (.lst (encXs e.args), false) ∧ getC tm1 10 = (.int .i64 e.args.length, false) ∧ getC tm1 11 = (.int .i64 k, false) ∧ getC tm1 6 = (.lst (ints' ((e.args.take k).map Ex.n)), true) ∧ 1 ≤ n ∧ (∃ a b c d, hget h 0 = some (.cells [a, b, c, d])) ∧ (e.args.take k).all (fun x => x.op == 1) = true)
    (fun r => if e.args.all (fun x => x.op == 1) = true then ∃ tm' n' hp', r = some (.exit 0, ⟨tm', n', hp'⟩) ∧ tm'.length = 33 ∧ getC tm' 1 = (.lst (encXs e.args), false) ∧ getC tm' 0 = (.int .i64 e.op, false) ∧ getC tm' 4 = (.ptr 0 0, false) ∧ getC tm' 6 = (.lst (ints' (e.args.map Ex.n)), true) ∧ 1 ≤ n' ∧ (∃ a b c d, hget hp' 0 = some (.cells [a, b, c, d]))
      else ∃ tm' n' hp', r = some (.ret, ⟨tm', n', hp'⟩) ∧ tm'.length = 33 ∧ getC tm' 4 = (.ptr 0 0, false) ∧ getC tm' 5 = (.bool false, false) ∧ hget hp' 0 = some (.cells [(.int .i64 0, false), (.int .i64 0, false), (.str ⟨#[]⟩, false), (.lst [], true)])) (fun tm1 n h r => by
      rintro ⟨ht, h1, h0, h4, h9, h10, h11, h6, hn, hz, hal⟩ hX
      rw [List.take_length] at hal h6
      simp [ht, h10, h11] at hX
      subst hX
      refine ⟨_, _, rfl, by simp, ?_⟩
      rw [if_pos hal]
      exact ⟨_, _, _, rfl, by simp [ht], by simp [h1], by simp [h0], by simp [h4], by simp [h6], hn, hz⟩) (fun k tm1 n h r hk => by
      rintro ⟨ht, h1, h0, h4, h9, h10, h11, h6, hn, ⟨za, zb, zc, zd, hz⟩, hal⟩ hX
      have hxk := List.getElem?_eq_getElem (l := e.args) (i := k) hk
      have htk : (e.args.take (k + 1)).map Ex.n = (e.args.take k).map Ex.n ++ [e.args[k].n] := by rw [List.take_add_one, hxk, List.map_append]; rfl
      have hta : (e.args.take (k + 1)).all (fun x => x.op == 1) = ((e.args.take k).all (fun x => x.op == 1) && e.args[k].op == 1) := by rw [List.take_add_one, hxk, List.all_append]; simp only [Option.toList_some, List.all_cons, List.all_nil, Bool.and_true]
      generalize e.args[k] = u at hxk htk hta
      have hum := List.mem_of_getElem? hxk
      have hkl : (k : Int) < e.args.length := by omega
      have hue := encXs_at hxk
      have hw2 : IntKind.i64.wrap ((k : Int) + 1) = (k : Int) + 1 := wrap_small (by omega) (by omega)
      have w3 : ¬ n = 0 := by omega
      have w4 : ¬ 0 = n := by omega
      have hlen2 : (min k e.args.length + 1) * 8 ≤ 140737488355328 := by omega
      rw [encX_eq] at hue
      by_cases c : u.op = 1
      · left
        simp [ht, h1, h0, h4, h9, h10, h11, h6, hkl, hue, hw2, w3, w4, c, hlen2] at hX
        subst hX
        exact ⟨_, _, _, rfl, by simp [ht], by simp [h1], by simp [h0], by simp [h4], by simp [h9], by simp [h10], by simp [ht], by simp [ht, htk], by omega, ⟨za, zb, zc, zd, by simp [w3, w4, hz]⟩, by rw [hta, hal, c]; rfl⟩
      · right
        have hna : ¬ e.args.all (fun x => x.op == 1) = true := by
          intro h
          have := List.all_eq_true.1 h u hum
          simp at this
          exact c this
        simp [ht, h1, h0, h4, h9, h10, h11, h6, hkl, hue, hw2, hz, w3, w4, c] at hX
        subst hX
        refine ⟨_, _, rfl, by simp, ?_⟩
        rw [if_neg hna]
        exact ⟨_, _, _, rfl, by simp [ht], by simp [h4], by simp [ht], by simp [w3, w4, hz]; rfl⟩) 0
  have hap := fun ro nx hp (h : 3 ≤ e.op) => computed_R e.op ⟨h, ho2⟩ (e.args.map Ex.n) (by rw [List.length_map]; exact ho3) ro nx hp
  have hnm := num1_R
  by_cases hal : e.args.all (fun x => x.op == 1) = true
  · by_cases hnil : e.args = []
    · have hr : r1X e = none := by simp [r1X, hnil]
      refine ⟨zeroX, fun ro => ?_, fun x hx => by rw [hr] at hx; cases hx⟩
      rw [hr, encX_zero]
      rw [R_val' K ro 183 _ nx hp [] Tryz.func183 rfl Tryz.ntmps183 Tryz.results183 (mu := []) rfl (by kernel_rfl) rfl rfl]; simp only [slim, slimO, annO, List.map, List.zip, List.zipWith, List.lookup, holed, Nat.reduceBEq]
      simp [List.replicate, encXs_len]
      generalize hg : X K _ (.loop _) _ = r
      obtain ⟨tm', n', hp', rfl, g1, g2, g3, g4, g5, g6, a, b, c, d, g7⟩ : ∃ tm' n' hp', r = some (.exit 0, ⟨tm', n', hp'⟩) ∧ tm'.length = 33 ∧ getC tm' 1 = (.lst (encXs e.args), false) ∧ getC tm' 0 = (.int .i64 e.op, false) ∧ getC tm' 4 = (.ptr 0 0, false) ∧ getC tm' 6 = (.lst (ints' (e.args.map Ex.n)), true) ∧ 1 ≤ n' ∧ (∃ a b c d, hget hp' 0 = some (.cells [a, b, c, d])) := by
        have := hloop
        simp only [if_pos hal] at this
        rw [← hg]
        refine this _ _ _ (by omega) ⟨?_, ?_, ?_, ?_, ?_, ?_, ?_, ?_, ?_, ⟨(.int .i64 0, false), (.int .i64 0, false), (.str ⟨#[]⟩, false), (.lst [], true), ?_⟩, ?_⟩
        rotate_left 9
        · simp; rfl
        all_goals simp [ints']
      clear hg hloop
      simp [g1, g2, g3, g4, g5, g7, hnil, encXs]
      try rfl
    · have h3 : 3 ≤ e.op := by
        rcases shape he with ⟨_, q⟩ | ⟨q, _⟩ | ⟨q, _⟩ | ⟨q, _⟩
        · exact absurd q hnil
        all_goals omega
      have hap' := fun ro nx hp => hap ro nx hp h3
      have hr : r1X e = some (numX (appV e.op (e.args.map Ex.n))) := by unfold r1X; rw [if_pos ⟨hnil, hal⟩]
      refine ⟨numX (appV e.op (e.args.map Ex.n)), fun ro => ?_, fun x hx => by rw [hr] at hx; cases hx; rfl⟩
      rw [hr, encX_num]
      rw [R_val' K ro 183 _ nx hp [] Tryz.func183 rfl Tryz.ntmps183 Tryz.results183 (mu := []) rfl (by kernel_rfl) rfl rfl]; simp only [slim, slimO, annO, List.map, List.zip, List.zipWith, List.lookup, holed, Nat.reduceBEq]
      simp [List.replicate, encXs_len]
      generalize hg : X K _ (.loop _) _ = r
      obtain ⟨tm', n', hp', rfl, g1, g2, g3, g4, g5, g6, a, b, c, d, g7⟩ : ∃ tm' n' hp', r = some (.exit 0, ⟨tm', n', hp'⟩) ∧ tm'.length = 33 ∧ getC tm' 1 = (.lst (encXs e.args), false) ∧ getC tm' 0 = (.int .i64 e.op, false) ∧ getC tm' 4 = (.ptr 0 0, false) ∧ getC tm' 6 = (.lst (ints' (e.args.map Ex.n)), true) ∧ 1 ≤ n' ∧ (∃ a b c d, hget hp' 0 = some (.cells [a, b, c, d])) := by
        have := hloop
        simp only [if_pos hal] at this
        rw [← hg]
        refine this _ _ _ (by omega) ⟨?_, ?_, ?_, ?_, ?_, ?_, ?_, ?_, ?_, ⟨(.int .i64 0, false), (.int .i64 0, false), (.str ⟨#[]⟩, false), (.lst [], true), ?_⟩, ?_⟩
        rotate_left 9
        · simp; rfl
        all_goals simp [ints']
      clear hg hloop
      simp [g1, g2, g3, g4, g5, g7, hnil, hap', hnm]
  · have hr : r1X e = none := by unfold r1X; rw [if_neg fun h => hal h.2]
    refine ⟨zeroX, fun ro => ?_, fun x hx => by rw [hr] at hx; cases hx⟩
    rw [hr, encX_zero]
    rw [R_val' K ro 183 _ nx hp [] Tryz.func183 rfl Tryz.ntmps183 Tryz.results183 (mu := []) rfl (by kernel_rfl) rfl rfl]; simp only [slim, slimO, annO, List.map, List.zip, List.zipWith, List.lookup, holed, Nat.reduceBEq]
    simp [List.replicate, encXs_len]
    generalize hg : X K _ (.loop _) _ = r
    obtain ⟨tm', n', hp', rfl, g1, g2, g3, g4⟩ : ∃ tm' n' hp', r = some (.ret, ⟨tm', n', hp'⟩) ∧ tm'.length = 33 ∧ getC tm' 4 = (.ptr 0 0, false) ∧ getC tm' 5 = (.bool false, false) ∧ hget hp' 0 = some (.cells [(.int .i64 0, false), (.int .i64 0, false), (.str ⟨#[]⟩, false), (.lst [], true)]) := by
      have := hloop
      simp only [if_neg hal] at this
      rw [← hg]
      refine this _ _ _ (by omega) ⟨?_, ?_, ?_, ?_, ?_, ?_, ?_, ?_, ?_, ⟨(.int .i64 0, false), (.int .i64 0, false), (.str ⟨#[]⟩, false), (.lst [], true), ?_⟩, ?_⟩
      rotate_left 9
      · simp; rfl
      all_goals simp [ints']
    clear hg hloop
    simp [g1, g2, g3, g4]
end Go.Proofs.YtleimfinniclgaaGreatDoor.M
