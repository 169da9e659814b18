/- Generators of expressions and spans. -/
import Derived.Test.YtleimfinniclgaaDoorGA
import Derived.Test.YtleimfinniclgaaDoorEX
namespace Go.Proofs.YtleimfinniclgaaDoor.M
open Go.Proofs
set_option linter.unusedSimpArgs false
set_option linter.unusedVariables false
set_option maxRecDepth 100000
set_option pp.deepTerms false
set_option pp.deepTerms.threshold 6
set_option maxHeartbeats 4000000
def Base (n : Nat) (hp : Heap) : Prop := hlow n hp = hp ∧ hclean n hp = true
theorem ints_ids (n : Nat) (l : List Int) : idsLts n (ints' l) = true := by
  unfold ints'
  induction l with
  | nil => simp
  | cons x r ih => simpa using ih
theorem Base.set {n s : Nat} {hp : Heap} (h : Base n hp) (l : List Int) (a : Int) : Base n (hset hp s (strm l a)) := by
  refine ⟨by rw [hlow_hset, h.1], ?_⟩
  unfold strm
  exact hclean_hset h.2 (by simp [ints_ids])
theorem hget_strm {hp : Heap} {s : Nat} {l : List Int} {a : Int} (hs : hget hp s = some (strm l a)) (b : Int) : hget (hset hp s (strm l b)) s = some (strm l b) := by rw [hget_hset_same]; simp [hs]
theorem hget_lt {n : Nat} {hp : Heap} (h : Base n hp) {s : Nat} {b : ABlk} (hs : hget hp s = some b) : s < n := by
  rw [← h.1] at hs
  by_cases hl : s < n
  · exact hl
  · exfalso
    have : ∀ hp : Heap, hget (hlow n hp) s = none := by
      intro hp
      induction hp with
      | nil => rfl
      | cons p hp ih =>
        obtain ⟨i, c⟩ := p
        rw [hlow_cons]
        split
        · rw [hget_cons, if_neg (by omega)]; exact ih
        · exact ih
    rw [this] at hs
    cases hs
theorem hset_cons_ne {i j : Nat} (b v : ABlk) (h : Heap) (hn : j ≠ i) : hset ((i, b) :: h) j v = (i, b) :: hset h j v := by simp [hn]
theorem leaf_R (l : List Int) (a : Int) (s ro nx : Nat) (hp : Heap) (ha : 0 ≤ a ∧ a < 4611686018427387000) (hl : l.length < 4611686018427387904) (hs : hget hp s = some (strm l a)) (hro : ro ≤ s) (hsn : s < nx) :
    ∃ op n nm b, R K 29 [.ptr s 0] ro nx hp = some ⟨.agg [.int .i64 op, .int .i64 n, .str nm, .lst []], false, nx + 1, (nx, b) :: hset hp s (strm l (a + 2))⟩ := by
  have hne : ¬ s = nx := by omega
  have e2 : a + 1 + 1 = a + 2 := by omega
  have hs1 : hget ((nx, ABlk.cells [(.int .i64 0, false), (.int .i64 0, false), (.str ByteArray.empty, false), (.lst [], true)]) :: hp) s = some (strm l a) := by simp [hne, hs]
  have hF := flip_R l a 2 s ro (nx + 1) _ (by omega) (by omega) hl hs1 hro
  have hs2 : hget ((nx, ABlk.cells [(.int .i64 0, false), (.int .i64 0, false), (.str ByteArray.empty, false), (.lst [], true)]) :: hset hp s (strm l (a + 1))) s = some (strm l (a + 1)) := by simp [hne, hget_strm hs]
  have hP := pick_R l (a + 1) [0, 1, 2, 5, 999] s ro (nx + 1) _ (by omega) (by simp) hl hs2 hro
  have hS := some_R l (a + 1) [⟨#[120]⟩, ⟨#[121]⟩, ⟨#[120]⟩, ⟨#[122]⟩] s ro (nx + 1) _ (by omega) (by simp) hl hs2 hro
  simp only [ints', strs, List.map_cons, List.map_nil] at hP hS
  have hro' : ro ≤ nx := by omega
  by_cases h0 : nextF l a 2 = 0
  · refine ⟨1, pickF l (a + 1) [0, 1, 2, 5, 999], ByteArray.empty, .cells [(.int .i64 1, false), (.int .i64 (pickF l (a + 1) [0, 1, 2, 5, 999]), false), (.str ByteArray.empty, false), (.lst [], true)], ?_⟩
    rw [R_body' K ro 29 _ nx hp [] Tryd.func29 rfl Tryd.ntmps29 Tryd.results29 (mu := []) rfl (by kernel_rfl) rfl rfl rfl]; simp only [slim, slimO, annO, List.map, List.zip, List.zipWith, List.lookup, holed, Nat.reduceBEq]
    simp [List.replicate, hF, hne, h0, hP, e2, hro']
  · refine ⟨2, 0, someF l (a + 1) [⟨#[120]⟩, ⟨#[121]⟩, ⟨#[120]⟩, ⟨#[122]⟩], .cells [(.int .i64 2, false), (.int .i64 0, false), (.str (someF l (a + 1) [⟨#[120]⟩, ⟨#[121]⟩, ⟨#[120]⟩, ⟨#[122]⟩]), false), (.lst [], true)], ?_⟩
    rw [R_body' K ro 29 _ nx hp [] Tryd.func29 rfl Tryd.ntmps29 Tryd.results29 (mu := []) rfl (by kernel_rfl) rfl rfl rfl]; simp only [slim, slimO, annO, List.map, List.zip, List.zipWith, List.lookup, holed, Nat.reduceBEq]
    simp [List.replicate, hF, hne, h0, hS, e2, hro']
/-- What a generator leaves: old variables as they were but for the stream's, new ones above. -/
structure Gen (l : List Int) (s nx : Nat) (hp : Heap) (n' : Nat) (hp' : Heap) (a' : Int) : Prop where
  le : nx ≤ n'
  low : hlow nx hp' = hset hp s (strm l a')
  fresh : Fresh n' hp'
theorem Gen.old {l : List Int} {s nx n' : Nat} {hp hp' : Heap} {a' : Int} (h : Gen l s nx hp n' hp' a') {j : Nat} (hj : j < nx) (hs : j ≠ s) : hget hp' j = hget hp j := by
  have := congrArg (fun h => hget h j) h.low
  simp only [hget_hlow', if_pos hj] at this
  rw [this, hget_hset, if_neg hs]
theorem Gen.strm {l : List Int} {s nx n' : Nat} {hp hp' : Heap} {a a' : Int} (h : Gen l s nx hp n' hp' a') (hs : hget hp s = some (M.strm l a)) (hsn : s < nx) : hget hp' s = some (M.strm l a') := by
  have := congrArg (fun h => hget h s) h.low
  simp only [hget_hlow', if_pos hsn] at this
  rw [this]; exact hget_strm hs a'
theorem Gen.trans {l : List Int} {s nx n1 n2 : Nat} {hp h1 h2 : Heap} {a1 a2 : Int} (h : Gen l s nx hp n1 h1 a1) (k : Gen l s n1 h1 n2 h2 a2) : Gen l s nx hp n2 h2 a2 :=
  ⟨Nat.le_trans h.le k.le, by rw [← hlow_hlow h.le, k.low, hlow_hset, h.low, hset_hset], k.fresh⟩
theorem Gen.push {l : List Int} {s nx n : Nat} {hp h1 : Heap} {a : Int} (h : Gen l s nx hp n h1 a) (b : ABlk) : Gen l s nx hp (n + 1) ((n, b) :: h1) a :=
  ⟨by have := h.le; omega, by rw [hlow_cons, if_neg (by have := h.le; omega), h.low], h.fresh.push b⟩
theorem Gen.set {l : List Int} {s nx n : Nat} {hp h1 : Heap} {a : Int} (h : Gen l s nx hp n h1 a) {i : Nat} (hi : nx ≤ i) (b : ABlk) : Gen l s nx hp n (hset h1 i b) a :=
  ⟨h.le, by rw [hlow_hset' _ _ _ _ hi, h.low], h.fresh.hset i b⟩
theorem Gen.del {l : List Int} {s nx n : Nat} {hp h1 : Heap} {a : Int} (h : Gen l s nx hp n h1 a) {i : Nat} (hi : nx ≤ i) : Gen l s nx hp n (hdel h1 i) a :=
  ⟨h.le, by rw [hlow_hdel' _ _ _ hi, h.low], h.fresh.hdel i⟩
theorem Gen.next {l : List Int} {s nx n : Nat} {hp h1 : Heap} {a : Int} (h : Gen l s nx hp n h1 a) (hsn : s < nx) (a' : Int) : Gen l s nx hp n (hset h1 s (M.strm l a')) a' :=
  ⟨h.le, by rw [hlow_hset, h.low, hset_hset], h.fresh.hset s _⟩
theorem hset_self {hp : Heap} {s : Nat} {b : ABlk} (h : hget hp s = some b) : hset hp s b = hp := by
  induction hp with
  | nil => rfl
  | cons p hp ih =>
    obtain ⟨i, c⟩ := p
    simp only [hget] at h
    simp only [hset]
    split
    · rename_i e
      rw [if_pos e] at h; cases h; rfl
    · rename_i e
      rw [if_neg e] at h; rw [ih h]
theorem Gen.start {l : List Int} {s nx : Nat} {hp : Heap} {a : Int} (hf : Fresh nx hp) (hs : hget hp s = some (M.strm l a)) : Gen l s nx hp nx hp a :=
  ⟨Nat.le_refl _, by rw [hset_self hs]; exact hf, hf⟩
def treeB : Nat → Int
  | 0 => 4
  | d + 1 => 3 + 3 * treeB d
theorem treeB_pos (d : Nat) : 4 ≤ treeB d := by induction d with | zero => decide | succ d ih => simp only [treeB]; omega
def blkB : Nat → Nat
  | 0 => 2
  | d + 1 => 8 + 3 * blkB d
theorem blkB_pos (d : Nat) : 2 ≤ blkB d := by induction d with | zero => decide | succ d ih => simp only [blkB]; omega
def TreeOk (l : List Int) (s ro : Nat) (d : Nat) : Prop := ∀ (a : Int) (nx : Nat) (hp : Heap), 0 ≤ a → a + treeB d < 4611686018427387000 → hget hp s = some (strm l a) → Fresh nx hp →
  ∃ op n nm av n' hp' a', R K 12 [.ptr s 0, .int .i64 d] ro nx hp = some ⟨.agg [.int .i64 op, .int .i64 n, .str nm, av], false, n', hp'⟩ ∧ Gen l s nx hp n' hp' a' ∧ a ≤ a' ∧ a' ≤ a + treeB d ∧ Tv exprT hp' nx n' (.row 0) av ∧ n' ≤ nx + blkB d
/-- The list of arguments while it grows. -/
def Args (hp : Heap) (lo n : Nat) (k : Nat) (v : AVal) (f : Bool) : Prop := (k = 0 ∧ v = .lst [] ∧ f = true) ∨ (∃ id cs, v = .sl id 0 k 4 true ∧ f = false ∧ lo ≤ id ∧ id < n ∧ hget hp id = some (.cells cs) ∧ cs.length = 4 * k ∧ k ≤ 3 ∧ ∀ (j : Nat) (c : Cell) t, cs[j]? = some c → (exprT.of 0).cs[j % 4]? = some t → Tv exprT hp lo id t c.1)
theorem Args.tv {hp : Heap} {lo n k : Nat} {v : AVal} {f : Bool} (h : Args hp lo n k v f) : Tv exprT hp lo n (.row 0) v := by
  rcases h with ⟨_, rfl, _⟩ | ⟨id, cs, rfl, _, h0, h1, hg, hl, hk, hc⟩
  · exact .fr (Leaf.nil 0)
  · have := Tv.sl (T := exprT) (hp := hp) (lo := lo) n 0 id 0 k cs h0 h1 hg (by show (0 + k) * 4 ≤ _; omega) (by show _ ≤ 100; omega) hc
    rwa [Nat.zero_mul] at this
theorem tree_loop (l : List Int) (s ro d : Nat) (hl : l.length < 4611686018427387904) (hd : d + 1 < 100) (ih : TreeOk l s ro d) (nx : Nat) (hp0 : Heap) (hsn : s < nx) (hro : ro ≤ s) (op : Int) (a0 : Int) (hs0 : hget hp0 s = some (strm l a0)) (mm : Int) : ∀ (r k : Nat) (tm : List Cell) (n : Nat) (hp : Heap) (a : Int) (av : AVal) (f : Bool), r + k ≤ 3 → mm = r + k →
    tm.length = 39 → getC tm 0 = (.ptr s 0, false) → getC tm 1 = (.int .i64 (d + 1), false) → getC tm 4 = (.ptr nx 0, false) → getC tm 5 = (.ptr (nx + 1) 0, false) → getC tm 25 = (.int .i64 mm, false) → getC tm 26 = (.int .i64 k, false) →
    0 ≤ a → a + r * treeB d < 4611686018427387000 → nx + 2 ≤ n → Gen l s nx hp0 n hp a → hget hp nx = some (.cells [(.int .i64 0, false), (.int .i64 0, false), (.str ByteArray.empty, false), (.lst [], true)]) → hget hp (nx + 1) = some (.cells [(.int .i64 op, false), (.int .i64 0, false), (.str ByteArray.empty, false), (av, f)]) → Args hp (nx + 2) n k av f →
    ∃ tm' n' hp' a' av' f', X K ⟨ro, [26]⟩ (.loop (LB Tryd.prog 12 [(12, [[], [1], [], [], [], [1], [1], [], [], []])] 0)) ⟨tm, n, hp⟩ = some (.exit 1, ⟨tm', n', hp'⟩) ∧ tm'.length = 39 ∧ getC tm' 4 = (.ptr nx 0, false) ∧ getC tm' 5 = (.ptr (nx + 1) 0, false) ∧ a ≤ a' ∧ a' ≤ a + r * treeB d ∧ nx + 2 ≤ n' ∧ Gen l s nx hp0 n' hp' a' ∧
      hget hp' nx = some (.cells [(.int .i64 0, false), (.int .i64 0, false), (.str ByteArray.empty, false), (.lst [], true)]) ∧ hget hp' (nx + 1) = some (.cells [(.int .i64 op, false), (.int .i64 0, false), (.str ByteArray.empty, false), (av', f')]) ∧ Args hp' (nx + 2) n' (r + k) av' f' ∧ n' ≤ n + r * (blkB d + 2) := by
  have e := LB_open (P := Tryd.prog) [(12, [[], [1], [], [], [], [1], [1], [], [], []])] 0 Tryd.func12 rfl rfl (by kernel_rfl)
  simp only [slim, slimO, annO, List.map, List.zip, List.zipWith, List.lookup, holed, loopsOf, List.nil_append, List.cons_append, List.getD_cons_zero, List.getD_cons_succ, Nat.reduceBEq] at e
  intro r
  induction r with
  | zero =>
    intro k tm n hp a av f hk hmm ht h0 h1 h4 h5 h25 h26 ha hb hn hG hg1 hg2 hA
    rw [Y_loop_eq _ _ e]
    generalize hX : X K _ _ _ = x
    have hk1 : ¬ (k : Int) < mm := by omega
    simp [ht, h25, h26, hk1] at hX
    subst hX
    exact ⟨_, n, hp, a, av, f, rfl, by simp [ht], by simp [h4], by simp [h5], by omega, by omega, hn, hG, hg1, hg2, by rw [Nat.zero_add]; exact hA, by omega⟩
  | succ r ihr =>
    intro k tm n hp a av f hk hmm ht h0 h1 h4 h5 h25 h26 ha hb hn hG hg1 hg2 hA
    rw [Y_loop_eq _ _ e]
    have hpos := treeB_pos d
    have hmul : ((r + 1 : Nat) : Int) * treeB d = r * treeB d + treeB d := by rw [Int.natCast_add, Int.add_mul]; simp
    have hr0 : 0 ≤ (r : Int) * treeB d := Int.mul_nonneg (by omega) (by omega)
    obtain ⟨op1, n1, nm1, av1, n2, hp2, a2, hR, hG2, ha1, ha2, hT2, hnb⟩ := ih a n hp ha (by omega) (hG.strm hs0 hsn) hG.fresh
    have hk1 : (k : Int) < mm := by omega
    have hw1 : IntKind.i64.wrap (d : Int) = d := wrap_small (by omega) (by omega)
    have hw2 : IntKind.i64.wrap ((k : Int) + 1) = (k : Int) + 1 := wrap_small (by omega) (by omega)
    have g2a := (hG2.old (j := nx) (by omega) (by omega)).trans hg1
    have g2b := (hG2.old (j := nx + 1) (by omega) (by omega)).trans hg2
    have hn2 := hG2.le
    have ne1 : ¬ nx + 1 = n2 := by omega
    have ne2 : ¬ nx + 1 = n2 + 1 := by omega
    have key : ∀ (tm2 : List Cell) (n3 : Nat) (hp3 : Heap) (av3 : AVal) (f3 : Bool), tm2.length = 39 → getC tm2 0 = (.ptr s 0, false) → getC tm2 1 = (.int .i64 (d + 1), false) → getC tm2 4 = (.ptr nx 0, false) → getC tm2 5 = (.ptr (nx + 1) 0, false) → getC tm2 25 = (.int .i64 mm, false) → getC tm2 26 = (.int .i64 (k + 1), false) → n3 = n2 + 2 →
        Gen l s nx hp0 n3 hp3 a2 → hget hp3 nx = some (.cells [(.int .i64 0, false), (.int .i64 0, false), (.str ByteArray.empty, false), (.lst [], true)]) → hget hp3 (nx + 1) = some (.cells [(.int .i64 op, false), (.int .i64 0, false), (.str ByteArray.empty, false), (av3, f3)]) → Args hp3 (nx + 2) n3 (k + 1) av3 f3 →
        ∃ tm' n' hp' a' av' f', XK K ⟨ro, [26]⟩ (.loop (LB Tryd.prog 12 [(12, [[], [1], [], [], [], [1], [1], [], [], []])] 0)) (some (.normal, ⟨tm2, n3, hp3⟩)) = some (.exit 1, ⟨tm', n', hp'⟩) ∧ tm'.length = 39 ∧ getC tm' 4 = (.ptr nx 0, false) ∧ getC tm' 5 = (.ptr (nx + 1) 0, false) ∧ a ≤ a' ∧ a' ≤ a + (r + 1 : Nat) * treeB d ∧ nx + 2 ≤ n' ∧ Gen l s nx hp0 n' hp' a' ∧
      hget hp' nx = some (.cells [(.int .i64 0, false), (.int .i64 0, false), (.str ByteArray.empty, false), (.lst [], true)]) ∧ hget hp' (nx + 1) = some (.cells [(.int .i64 op, false), (.int .i64 0, false), (.str ByteArray.empty, false), (av', f')]) ∧ Args hp' (nx + 2) n' (r + 1 + k) av' f' ∧ n' ≤ n + (r + 1) * (blkB d + 2) := by
      intro tm2 n3 hp3 av3 f3 q1 q2 q3 q4 q5 q6 q7 q8 q9 q10 q11 q12
      rw [XK_normal]
      obtain ⟨tm', n', hp', a', av', f', w1, w2, w3, w4, w5, w6, w7, w8, w9, w10, w11, w12⟩ := ihr (k + 1) tm2 n3 hp3 a2 av3 f3 (by omega) (by omega) q1 q2 q3 q4 q5 q6 (by rw [q7]; rfl) (by omega) (by omega) (by omega) q9 q10 q11 q12
      exact ⟨tm', n', hp', a', av', f', w1, w2, w3, w4, by omega, by omega, w7, w8, w9, w10, by rw [show r + 1 + k = r + (k + 1) by omega]; exact w11, by rw [Nat.succ_mul]; omega⟩
    have typed : ∀ (hp3 : Heap), (∀ j, n ≤ j → j < n2 → hget hp3 j = hget hp2 j) → ∀ (j : Nat) (c : Cell) t, [((AVal.int .i64 op1 : AVal), false), (.int .i64 n1, false), (.str nm1, false), (av1, false)][j]? = some c → (exprT.of 0).cs[j]? = some t → Tv exprT hp3 (nx + 2) (n2 + 1) t c.1 := by
      intro hp3 hk3 j c t hj hc
      match j with
      | 0 => cases hj; cases hc; exact .fr (Leaf.int _)
      | 1 => cases hj; cases hc; exact .fr (Leaf.int _)
      | 2 => cases hj; cases hc; exact .fr (Leaf.str _)
      | 3 => cases hj; cases hc; exact hT2.keep hn (by omega) hk3
      | j + 4 => simp at hj
    have h1av := hT2.one
    have hw3 : IntKind.i64.wrap 1 = 1 := wrap_small (by omega) (by omega)
    have ne0 : ¬ nx = n2 := by omega
    have hro2 : ro ≤ nx + 1 := by omega
    generalize hX : X K _ _ _ = x
    rcases hA with ⟨rfl, rfl, rfl⟩ | ⟨id, cs, rfl, rfl, i0, i1, ig, il, ik, ic⟩
    · have hk0 : 0 < mm := by omega
      simp [ht, h0, h1, h4, h5, h25, h26, hk0, hg2, hw1, hR, h1av, hro2, ne0, g2b, ne1, ne2, hw2] at hX
      subst hX
      refine key _ _ _ (.sl (n2 + 1) 0 1 4 true) false ?_ ?_ ?_ ?_ ?_ ?_ ?_ rfl ((((hG.trans hG2).set (i := nx + 1) (by omega) _).push _).push _) ?_ ?_ (.inr ⟨n2 + 1, _, rfl, rfl, by omega, by omega, hget_same _ _ _, ?_, by omega, fun j c t hj hc => ?_⟩)
      · simp [ht]
      · simp [h0]
      · simp [h1]
      · simp [h4]
      · simp [h5]
      · simp [h25]
      · simp [ht, hw3]
      · simp [g2a, hget_hset, show ¬ nx = n2 + 1 by omega, show ¬ nx = n2 by omega]
      · simp [g2b, ne0, ne1, ne2, hget_hset]
      · rfl
      · have hj4 : j < 4 := (List.getElem?_eq_some_iff.1 hj).1
        rw [Nat.mod_eq_of_lt hj4] at hc
        exact typed _ (fun i hi1 hi2 => by simp [hget_hset, show ¬ i = n2 + 1 by omega, show ¬ i = n2 by omega, show ¬ i = nx + 1 by omega]) j c t hj hc
    · have g2c := (hG2.old (j := id) (by omega) (by omega)).trans ig
      have ne3 : ¬ id = n2 := by omega
      have ne4 : ¬ nx + 1 = id := by omega
      have hg' : hget ((n2, ABlk.cells [(AVal.int .i64 op1, false), (.int .i64 n1, false), (.str nm1, false), (av1, false)]) :: hp2) id = some (.cells cs) := by simp [ne3, g2c]
      have hap := apM_sl hg' ro 56 4 true true false (.tmp 29) (n2 + 1) k 4 1 [AVal.int .i64 op1, .int .i64 n1, .str nm1, av1]
      rw [if_pos ⟨by omega, rfl, by omega, by omega⟩] at hap
      simp [ht, h0, h1, h4, h5, h25, h26, hk1, hg2, hw1, hR, h1av, hro2, ne0, g2b, g2c, ne1, ne2, ne3, ne4, hw2, hap] at hX
      subst hX
      refine key _ _ _ (.sl (n2 + 1) 0 (k + 1) 4 true) false ?_ ?_ ?_ ?_ ?_ ?_ ?_ rfl (((((hG.trans hG2).push _).del (i := id) (by omega)).set (i := nx + 1) (by omega) _).push _) ?_ ?_ (.inr ⟨n2 + 1, _, rfl, rfl, by omega, by omega, hget_same _ _ _, ?_, by omega, fun j c t hj hc => ?_⟩)
      · simp [ht]
      · simp [h0]
      · simp [h1]
      · simp [h4]
      · simp [h5]
      · simp [h25]
      · simp [ht, hw3]
      · simp [g2a, hget_hset, hget_hdel, show ¬ nx = n2 + 1 by omega, show ¬ nx = n2 by omega, show ¬ nx = id by omega]
      · simp [g2b, ne0, ne1, ne2, hget_hset, hget_hdel, show ¬ nx + 1 = id by omega]
      · simp; omega
      · by_cases hj4 : j < k * 4
        · rw [List.getElem?_append_left (by simp; omega), List.getElem?_take, if_pos hj4, List.getElem?_map] at hj
          obtain ⟨c0, hc0, rfl⟩ := Option.map_eq_some_iff.1 hj
          exact (ic j c0 t hc0 hc).keep (Nat.le_refl _) (by omega) fun i hi1 hi2 => by
            have := hG2.old (j := i) (by omega) (by omega)
            simp [hget_hset, this, show ¬ i = n2 + 1 by omega, show ¬ i = n2 by omega, show ¬ i = nx + 1 by omega, show ¬ i = id by omega]
        · have hlen : (List.take (k * 4) (List.map ((fun v => ((v : AVal), false)) ∘ fun (x : Cell) => x.1) cs)).length = k * 4 := by simp; omega
          rw [List.getElem?_append_right (by omega), hlen] at hj
          have hj4' : j - k * 4 < 4 := (List.getElem?_eq_some_iff.1 hj).1
          have hm : j % 4 = j - k * 4 := by omega
          rw [hm] at hc
          exact typed _ (fun i hi1 hi2 => by simp [hget_hset, show ¬ i = n2 + 1 by omega, show ¬ i = n2 by omega, show ¬ i = nx + 1 by omega, show ¬ i = id by omega]) _ c t hj hc
theorem tree_zero (l : List Int) (s ro d : Nat) (hl : l.length < 4611686018427387904) (hro : ro ≤ s) (hd : d < 2) : TreeOk l s ro d := by
  intro a nx hp ha hb hs hf
  have hsn := hf.lt hs
  have hne : ¬ s = nx := by omega
  have hro' : ro ≤ nx := by omega
  have hpos := treeB_pos d
  have hs1 : hget ((nx, ABlk.cells [(.int .i64 0, false), (.int .i64 0, false), (.str ByteArray.empty, false), (.lst [], true)]) :: hp) s = some (strm l a) := by simp [hne, hs]
  obtain ⟨op, n, nm, b, hL⟩ := leaf_R l a s ro (nx + 1) _ ⟨ha, by omega⟩ hl hs1 hro (by omega)
  have hd' : (d : Int) < 2 := by omega
  refine ⟨op, n, nm, .lst [], nx + 2, (nx + 1, b) :: (nx, .cells [(.int .i64 op, false), (.int .i64 n, false), (.str nm, false), (.lst [], false)]) :: hset hp s (strm l (a + 2)), a + 2, ?_, (((Gen.start hf hs).next hsn _).push _).push _, by omega, by omega, .fr (Leaf.nil 0), by have := blkB_pos d; omega⟩
  rw [R_body' K ro 12 _ nx hp [(12, [[], [1], [], [], [], [1], [1], [], [], []])] Tryd.func12 rfl Tryd.ntmps12 Tryd.results12 (mu := [26]) rfl (by kernel_rfl) rfl rfl rfl]; simp only [slim, slimO, annO, List.map, List.zip, List.zipWith, List.lookup, holed, Nat.reduceBEq]
  simp [List.replicate, hd', hL, hne, hro']
theorem tree_R (l : List Int) (s ro : Nat) (hl : l.length < 4611686018427387904) (hro : ro ≤ s) : ∀ d : Nat, d < 90 → TreeOk l s ro d := by
  intro d
  induction d with
  | zero => intro _; exact tree_zero l s ro 0 hl hro (by omega)
  | succ d ih =>
    intro hd
    by_cases hd2 : d + 1 < 2
    · exact tree_zero l s ro _ hl hro hd2
    intro a nx hp ha hb hs hf
    have hsn := hf.lt hs
    have hne : ¬ s = nx := by omega
    have hne' : ¬ s = nx + 1 := by omega
    have hro' : ro ≤ nx := by omega
    have hro2 : ro ≤ nx + 1 := by omega
    have hpos := treeB_pos d
    simp only [treeB] at hb ⊢
    have hs1 : hget ((nx, ABlk.cells [(.int .i64 0, false), (.int .i64 0, false), (.str ByteArray.empty, false), (.lst [], true)]) :: hp) s = some (strm l a) := by simp [hne, hs]
    have hF := flip_R l a 3 s ro (nx + 1) _ ⟨ha, by omega⟩ (by omega) hl hs1 hro
    have hs2 : hget ((nx, ABlk.cells [(.int .i64 0, false), (.int .i64 0, false), (.str ByteArray.empty, false), (.lst [], true)]) :: hset hp s (strm l (a + 1))) s = some (strm l (a + 1)) := by simp [hne, hget_strm hs]
    have hd' : ¬ ((d : Int) + 1 < 2) := by omega
    by_cases h0 : nextF l a 3 = 0
    · obtain ⟨op, n, nm, b, hL⟩ := leaf_R l (a + 1) s ro (nx + 1) _ ⟨by omega, by omega⟩ hl hs2 hro (by omega)
      refine ⟨op, n, nm, .lst [], nx + 2, (nx + 1, b) :: (nx, .cells [(.int .i64 op, false), (.int .i64 n, false), (.str nm, false), (.lst [], false)]) :: hset hp s (strm l (a + 1 + 2)), a + 1 + 2, ?_, (((Gen.start hf hs).next hsn _).push _).push _, by omega, by omega, .fr (Leaf.nil 0), by have := blkB_pos d; simp only [blkB]; omega⟩
      rw [R_body' K ro 12 _ nx hp [(12, [[], [1], [], [], [], [1], [1], [], [], []])] Tryd.func12 rfl Tryd.ntmps12 Tryd.results12 (mu := [26]) rfl (by kernel_rfl) rfl rfl rfl]; simp only [slim, slimO, annO, List.map, List.zip, List.zipWith, List.lookup, holed, Nat.reduceBEq]
      simp [List.replicate, hd', hF, h0, hL, hne, hro']
    · have hP := pick_R l (a + 1) [3, 4, 5, 6, 7, 8, 9] s ro (nx + 1) _ ⟨by omega, by omega⟩ (by simp) hl hs2 hro
      simp only [ints', List.map_cons, List.map_nil] at hP
      generalize hop : pickF l (a + 1) [3, 4, 5, 6, 7, 8, 9] = op at hP
      have hG0 := (((Gen.start hf hs).next hsn (a + 2)).push (ABlk.cells [(.int .i64 0, false), (.int .i64 0, false), (.str ByteArray.empty, false), (.lst [], true)])).push (ABlk.cells [(.int .i64 op, false), (.int .i64 0, false), (.str ByteArray.empty, false), (.lst [], true)])
      have hloop := fun (m : Nat) (hm : m ≤ 3) tm q1 q2 q3 q4 q5 q6 q7 => tree_loop l s ro d hl (by omega) (ih (by omega)) nx hp hsn hro op a hs m m 0 tm (nx + 2) _ (a + 2) (.lst []) true (by omega) (by omega) q1 q2 q3 q4 q5 q6 q7 (by omega) (by have : (m : Int) * treeB d ≤ 3 * treeB d := Int.mul_le_mul_of_nonneg_right (by omega) (by omega); omega) (by omega) hG0 (by simp) (by simp) (.inl ⟨rfl, rfl, rfl⟩)
      have fin : ∀ (m : Nat) (tm' : List Cell) (n' : Nat) (hp' : Heap) (a' : Int) (av' : AVal) (f' : Bool), a + 2 ≤ a' → a' ≤ a + 2 + 3 * treeB d → nx + 2 ≤ n' → Gen l s nx hp n' hp' a' →
          hget hp' (nx + 1) = some (.cells [(.int .i64 op, false), (.int .i64 0, false), (.str ByteArray.empty, false), (av', f')]) → Args hp' (nx + 2) n' (m + 0) av' f' →
          Gen l s nx hp n' (hset hp' nx (.cells [(.int .i64 op, false), (.int .i64 0, false), (.str ByteArray.empty, false), (av', false)])) a' ∧ a ≤ a' ∧ a' ≤ a + (3 + 3 * treeB d) ∧ Tv exprT (hset hp' nx (.cells [(.int .i64 op, false), (.int .i64 0, false), (.str ByteArray.empty, false), (av', false)])) nx n' (.row 0) av' :=
        fun m tm' n' hp' a' av' f' h1 h2 h3 h4 h5 h6 => ⟨h4.set (Nat.le_refl nx) _, by omega, by omega, h6.tv.keep (by omega) (Nat.le_refl _) fun i hi1 hi2 => by rw [hget_hset, if_neg (by omega)]⟩
      generalize hX : R K _ _ _ _ _ = x
      rw [R_body' K ro 12 _ nx hp [(12, [[], [1], [], [], [], [1], [1], [], [], []])] Tryd.func12 rfl Tryd.ntmps12 Tryd.results12 (mu := [26]) rfl (by kernel_rfl) rfl rfl rfl] at hX; simp only [slim, slimO, annO, List.map, List.zip, List.zipWith, List.lookup, holed, Nat.reduceBEq] at hX
      by_cases h8 : op = 8
      · subst h8
        simp [List.replicate, hd', hF, h0, hP, hne, hne', hro', hro2] at hX
        generalize hb' : X K _ (.loop _) _ = r at hX
        have hk : ∃ tm' n' hp' a' av' f', r = some (.exit 1, ⟨tm', n', hp'⟩) ∧ tm'.length = 39 ∧ getC tm' 4 = (.ptr nx 0, false) ∧ getC tm' 5 = (.ptr (nx + 1) 0, false) ∧ a + 2 ≤ a' ∧ a' ≤ a + 2 + (1 : Nat) * treeB d ∧ nx + 2 ≤ n' ∧ Gen l s nx hp n' hp' a' ∧
            hget hp' nx = some (.cells [(.int .i64 0, false), (.int .i64 0, false), (.str ByteArray.empty, false), (.lst [], true)]) ∧ hget hp' (nx + 1) = some (.cells [(.int .i64 8, false), (.int .i64 0, false), (.str ByteArray.empty, false), (av', f')]) ∧ Args hp' (nx + 2) n' (1 + 0) av' f' ∧ n' ≤ nx + 2 + 1 * (blkB d + 2) := by
          rw [← hb']
          have e2 : a + 1 + 1 = a + 2 := by omega
          simp only [e2]
          apply hloop 1 (by omega)
          all_goals simp
        obtain ⟨tm', n', hp', a', av', f', rfl, w2, w3, w4, w5, w6, w7, w8, w9, w10, w11, w12⟩ := hk
        simp [w2, w3, w4, w9, w10, hro', show ¬ nx = nx + 1 by omega, w11.tv.one, w11.tv.unS] at hX
        obtain ⟨g1, g2, g3, g4⟩ := fin 1 tm' n' hp' a' av' f' w5 (by omega) w7 w8 w10 w11
        subst hX
        exact ⟨_, _, _, _, _, _, _, rfl, g1, g2, g3, g4, by simp only [blkB]; omega⟩
      · by_cases h9 : op = 9
        · subst h9
          simp [List.replicate, hd', hF, h0, hP, hne, hne', hro', hro2] at hX
          generalize hb' : X K _ (.loop _) _ = r at hX
          have hk : ∃ tm' n' hp' a' av' f', r = some (.exit 1, ⟨tm', n', hp'⟩) ∧ tm'.length = 39 ∧ getC tm' 4 = (.ptr nx 0, false) ∧ getC tm' 5 = (.ptr (nx + 1) 0, false) ∧ a + 2 ≤ a' ∧ a' ≤ a + 2 + (3 : Nat) * treeB d ∧ nx + 2 ≤ n' ∧ Gen l s nx hp n' hp' a' ∧
              hget hp' nx = some (.cells [(.int .i64 0, false), (.int .i64 0, false), (.str ByteArray.empty, false), (.lst [], true)]) ∧ hget hp' (nx + 1) = some (.cells [(.int .i64 9, false), (.int .i64 0, false), (.str ByteArray.empty, false), (av', f')]) ∧ Args hp' (nx + 2) n' (3 + 0) av' f' ∧ n' ≤ nx + 2 + 3 * (blkB d + 2) := by
            rw [← hb']
            have e2 : a + 1 + 1 = a + 2 := by omega
            simp only [e2]
            apply hloop 3 (by omega)
            all_goals simp
          obtain ⟨tm', n', hp', a', av', f', rfl, w2, w3, w4, w5, w6, w7, w8, w9, w10, w11, w12⟩ := hk
          simp [w2, w3, w4, w9, w10, hro', show ¬ nx = nx + 1 by omega, w11.tv.one, w11.tv.unS] at hX
          obtain ⟨g1, g2, g3, g4⟩ := fin 3 tm' n' hp' a' av' f' w5 (by omega) w7 w8 w10 w11
          subst hX
          exact ⟨_, _, _, _, _, _, _, rfl, g1, g2, g3, g4, by simp only [blkB]; omega⟩
        · skip
          simp [List.replicate, hd', hF, h0, hP, hne, hne', hro', hro2, h8, h9] at hX
          generalize hb' : X K _ (.loop _) _ = r at hX
          have hk : ∃ tm' n' hp' a' av' f', r = some (.exit 1, ⟨tm', n', hp'⟩) ∧ tm'.length = 39 ∧ getC tm' 4 = (.ptr nx 0, false) ∧ getC tm' 5 = (.ptr (nx + 1) 0, false) ∧ a + 2 ≤ a' ∧ a' ≤ a + 2 + (2 : Nat) * treeB d ∧ nx + 2 ≤ n' ∧ Gen l s nx hp n' hp' a' ∧
              hget hp' nx = some (.cells [(.int .i64 0, false), (.int .i64 0, false), (.str ByteArray.empty, false), (.lst [], true)]) ∧ hget hp' (nx + 1) = some (.cells [(.int .i64 op, false), (.int .i64 0, false), (.str ByteArray.empty, false), (av', f')]) ∧ Args hp' (nx + 2) n' (2 + 0) av' f' ∧ n' ≤ nx + 2 + 2 * (blkB d + 2) := by
            rw [← hb']
            have e2 : a + 1 + 1 = a + 2 := by omega
            simp only [e2]
            apply hloop 2 (by omega)
            all_goals simp
          obtain ⟨tm', n', hp', a', av', f', rfl, w2, w3, w4, w5, w6, w7, w8, w9, w10, w11, w12⟩ := hk
          simp [w2, w3, w4, w9, w10, hro', show ¬ nx = nx + 1 by omega, w11.tv.one, w11.tv.unS] at hX
          obtain ⟨g1, g2, g3, g4⟩ := fin 2 tm' n' hp' a' av' f' w5 (by omega) w7 w8 w10 w11
          subst hX
          exact ⟨_, _, _, _, _, _, _, rfl, g1, g2, g3, g4, by simp only [blkB]; omega⟩
end Go.Proofs.YtleimfinniclgaaDoor.M
