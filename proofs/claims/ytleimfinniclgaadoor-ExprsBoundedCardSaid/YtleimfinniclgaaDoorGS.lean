/- SpanList gives spans. -/
import Derived.Test.YtleimfinniclgaaDoorGE
namespace Go.Proofs.YtleimfinniclgaaDoor.M
open Go.Proofs Go.Proofs.YtleimfinniclgaaDoor.X
set_option linter.unusedSimpArgs false
set_option linter.unusedVariables false
set_option maxRecDepth 100000
set_option pp.deepTerms false
set_option pp.deepTerms.threshold 6
set_option maxHeartbeats 4000000
structure Sp where
  name : ByteArray
  low : Int
  high : Int
def encS (x : Sp) : AVal := .agg [.str x.name, .int .i64 x.low, .int .i64 x.high]
def encSs (l : List Sp) : List AVal := l.map encS
@[simp] theorem encS_flat (x : Sp) : (encS x).flat = [.str x.name, .int .i64 x.low, .int .i64 x.high] := rfl
@[simp] theorem encS_ids (n : Nat) (x : Sp) : (encS x).idsLt n = true := by simp [encS]
@[simp] theorem encSs_ids (n : Nat) (l : List Sp) : idsLts n (encSs l) = true := by
  induction l with
  | nil => simp [encSs]
  | cons x r ih => rw [show encSs (x :: r) = encS x :: encSs r from rfl, idsLts_cons, ih]; simp
@[simp] theorem encSs_len (l : List Sp) : (encSs l).length = l.length := by simp [encSs]
@[simp] theorem encSs_head (l : List Sp) : headOk (encSs l) 3 = true := by cases l <;> rfl
theorem encSs_at {l : List Sp} {k : Nat} {x : Sp} (h : l[k]? = some x) : (encSs l)[k]? = some (encS x) := by simp [encSs, h]
def spanT : Recs := ⟨fun _ => ⟨true, [.str, .int, .int]⟩, fun _ => true, 100, fun _ => by decide, fun _ h => by cases h⟩
theorem fr_spans {v : AVal} (h : Fr spanT (.row 0) v) : ∃ l, v = .lst (encSs l) := by
  cases h with
  | row k xs hl ha h =>
    have : ∀ x, x ∈ xs → ∃ y, x = encS y := by
      intro x hx
      obtain ⟨cs, rfl⟩ := ha x hx
      have hlen : cs.length = 3 := hl _ hx
      have at_ : ∀ i t, i < 3 → (spanT.of 0).cs[i]? = some t → ∃ u, cs[i]? = some u ∧ Fr spanT t u := fun i t hi ht => by
        have hc : cs[i]? = some (cs[i]'(by omega)) := List.getElem?_eq_getElem (by omega)
        exact ⟨_, hc, h _ hx i t _ ht hc⟩
      obtain ⟨u0, e0, h0⟩ := at_ 0 .str (by omega) rfl
      obtain ⟨u1, e1, h1⟩ := at_ 1 .int (by omega) rfl
      obtain ⟨u2, e2, h2⟩ := at_ 2 .int (by omega) rfl
      obtain ⟨s, rfl⟩ := fr_str h0
      obtain ⟨n, rfl⟩ := fr_int h1
      obtain ⟨m, rfl⟩ := fr_int h2
      refine ⟨⟨s, n, m⟩, ?_⟩
      show AVal.agg cs = .agg _
      congr 1
      refine List.ext_getElem? fun i => ?_
      match i with
      | 0 => exact e0
      | 1 => exact e1
      | 2 => exact e2
      | i + 3 => rw [List.getElem?_eq_none (by omega)]; rfl
    clear h ha hl
    induction xs with
    | nil => exact ⟨[], rfl⟩
    | cons x r ihr =>
      obtain ⟨y, rfl⟩ := this x (.head _)
      obtain ⟨l, hl⟩ := ihr fun z hz => this z (.tail _ hz)
      injection hl with hl
      exact ⟨y :: l, by rw [hl]; rfl⟩
def Typed3 (cs : List Cell) : Prop := ∀ (j : Nat) (c : Cell) t, cs[j]? = some c → (spanT.of 0).cs[j % 3]? = some t → Leaf spanT t c.1
/-- The spans so far. -/
def Sps (hp : Heap) (lo n k : Nat) (v : AVal) (f : Bool) : Prop := (k = 0 ∧ v = .lst [] ∧ f = true) ∨ ∃ id cs, v = .sl id 0 k 3 true ∧ f = false ∧ lo ≤ id ∧ id < n ∧ hget hp id = some (.cells cs) ∧ cs.length = 3 * k ∧ 0 < k ∧ Typed3 cs
theorem Sps.keep {hp hp' : Heap} {lo n n' k : Nat} {v : AVal} {f : Bool} (h : Sps hp lo n k v f) (hn : n ≤ n') (he : ∀ id, lo ≤ id → id < n → hget hp' id = hget hp id) : Sps hp' lo n' k v f := by
  rcases h with h | ⟨id, cs, q1, q2, q3, q4, q5, q6, q7, q8⟩
  · exact .inl h
  · exact .inr ⟨id, cs, q1, q2, q3, by omega, by rw [he id q3 q4]; exact q5, q6, q7, q8⟩
theorem typed3_app {cs : List Cell} {k : Nat} (h : Typed3 cs) (hl : cs.length = 3 * k) (nm : ByteArray) (a b : Int) : Typed3 (cs.map (fun c => (c.1, false)) ++ [(.str nm, false), (.int .i64 a, false), (.int .i64 b, false)]) := by
  intro j c t hj ht
  by_cases hj3 : j < 3 * k
  · rw [List.getElem?_append_left (by simp; omega), List.getElem?_map] at hj
    obtain ⟨c0, hc0, rfl⟩ := Option.map_eq_some_iff.1 hj
    exact h j c0 t hc0 ht
  · rw [List.getElem?_append_right (by simp; omega), List.length_map, hl] at hj
    have hj4 : j - 3 * k < 3 := (List.getElem?_eq_some_iff.1 hj).1
    rw [show j % 3 = j - 3 * k by omega] at ht
    generalize j - 3 * k = i at hj ht hj4
    match i with
    | 0 => cases hj; cases ht; exact Leaf.str _
    | 1 => cases hj; cases ht; exact Leaf.int _
    | 2 => cases hj; cases ht; exact Leaf.int _
    | i + 3 => omega
theorem spans_loop (l : List Int) (s ro nx : Nat) (hp0 : Heap) (hl : l.length < 4611686018427387904) (hro : ro ≤ s) (hsn : s < nx) (a0 : Int) (hs0 : hget hp0 s = some (strm l a0)) : ∀ (r i k : Nat) (tm : List Cell) (n : Nat) (hp : Heap) (a : Int) (v : AVal) (f : Bool), r + i = 3 → k ≤ i → tm.length = 66 → getC tm 0 = (.ptr s 0, false) → getC tm 3 = (v, f) → getC tm 8 = (.lst [.str ⟨#[120]⟩, .str ⟨#[121]⟩, .str ⟨#[122]⟩], true) → getC tm 9 = (.int .i64 3, false) → getC tm 10 = (.int .i64 i, false) →
    0 ≤ a → a + 3 * r < 4611686018427387000 → Gen l s nx hp0 n hp a → Sps hp nx n k v f →
    ∃ tm' n' hp' a' k' v' f', X K ⟨ro, [30]⟩ (.loop (LB Tryd.prog 5 [] 0)) ⟨tm, n, hp⟩ = some (.exit 0, ⟨tm', n', hp'⟩) ∧ tm'.length = 66 ∧ getC tm' 0 = (.ptr s 0, false) ∧ getC tm' 3 = (v', f') ∧ a ≤ a' ∧ a' ≤ a + 3 * r ∧ k' ≤ 3 ∧ Gen l s nx hp0 n' hp' a' ∧ Sps hp' nx n' k' v' f' := by
  have e := LB_open (P := Tryd.prog) [] 0 Tryd.func5 rfl rfl (by kernel_rfl)
  simp only [slim, slimO, annO, List.map, List.zip, List.zipWith, List.lookup, holed, loopsOf, List.nil_append, List.cons_append, List.getD_cons_zero, List.getD_cons_succ, Nat.reduceBEq] at e
  intro r
  induction r with
  | zero =>
    intro i k tm n hp a v f hi hk ht h0 h3 h8 h9 h10 ha hb hG hS
    have : i = 3 := by omega
    subst this
    rw [Y_loop_eq _ _ e]
    generalize hX : X K _ _ _ = x
    simp [ht, h9, h10] at hX
    subst hX
    exact ⟨_, n, hp, a, k, v, f, rfl, by simp [ht], by simp [h0], by simp [h3], by omega, by omega, hk, hG, hS⟩
  | succ r ih =>
    intro i k tm n hp a v f hi hk ht h0 h3 h8 h9 h10 ha hb hG hS
    rw [Y_loop_eq _ _ e]
    have hi3 : (i : Int) < 3 := by omega
    have hw2 : IntKind.i64.wrap ((i : Int) + 1) = (i : Int) + 1 := wrap_small (by omega) (by omega)
    have hs := hG.strm hs0 hsn
    obtain ⟨nm, hnm⟩ : ∃ nm, ([.str ⟨#[120]⟩, .str ⟨#[121]⟩, .str ⟨#[122]⟩] : List AVal)[i]? = some (.str nm) := by
      match i with
      | 0 => exact ⟨_, rfl⟩
      | 1 => exact ⟨_, rfl⟩
      | 2 => exact ⟨_, rfl⟩
      | i + 3 => omega
    have hF := flip_R l a 2 s ro n hp ⟨ha, by omega⟩ (by omega) hl hs hro
    have hs1 : hget (hset hp s (strm l (a + 1))) s = some (strm l (a + 1)) := by simp [hs]
    have hP1 := pick_R l (a + 1) [0, 1, 3, 400, 998] s ro n _ ⟨by omega, by omega⟩ (by simp) hl hs1 hro
    rw [hset_hset] at hP1
    have hs2 : hget (hset hp s (strm l (a + 1 + 1))) s = some (strm l (a + 1 + 1)) := by simp [hs]
    have hP2 := pick_R l (a + 1 + 1) [0, 1, 5, 100, 700] s ro n _ ⟨by omega, by omega⟩ (by simp) hl hs2 hro
    rw [hset_hset] at hP2
    have e2 : a + 1 + 1 = a + 2 := by omega
    have e3 : a + 2 + 1 = a + 3 := by omega
    rw [e2] at hP1
    rw [e2, e3] at hP2
    simp only [ints', List.map_cons, List.map_nil] at hP1 hP2
    generalize pickF l (a + 1) _ = p1 at hP1
    generalize pickF l (a + 2) _ = p2 at hP2
    have hsn' : ¬ s = n := by have := hG.le; omega
    have hsn2 : ¬ s = n + 1 := by have := hG.le; omega
    have key : ∀ (tm2 : List Cell) (n2 : Nat) (hp2 : Heap) (a2 : Int) (k2 : Nat) (v2 : AVal) (f2 : Bool), tm2.length = 66 → getC tm2 0 = (.ptr s 0, false) → getC tm2 3 = (v2, f2) → getC tm2 8 = (.lst [.str ⟨#[120]⟩, .str ⟨#[121]⟩, .str ⟨#[122]⟩], true) → getC tm2 9 = (.int .i64 3, false) → getC tm2 10 = (.int .i64 (i + 1), false) → a ≤ a2 → a2 ≤ a + 3 → k2 ≤ i + 1 → Gen l s nx hp0 n2 hp2 a2 → Sps hp2 nx n2 k2 v2 f2 →
        ∃ tm' n' hp' a' k' v' f', XK K ⟨ro, [30]⟩ (.loop (LB Tryd.prog 5 [] 0)) (some (.normal, ⟨tm2, n2, hp2⟩)) = some (.exit 0, ⟨tm', n', hp'⟩) ∧ tm'.length = 66 ∧ getC tm' 0 = (.ptr s 0, false) ∧ getC tm' 3 = (v', f') ∧ a ≤ a' ∧ a' ≤ a + 3 * (r + 1 : Nat) ∧ k' ≤ 3 ∧ Gen l s nx hp0 n' hp' a' ∧ Sps hp' nx n' k' v' f' := by
      intro tm2 n2 hp2 a2 k2 v2 f2 q1 q2 q3 q4 q5 q6 q7 q8 q9 q10 q11
      rw [XK_normal]
      obtain ⟨tm', n', hp', a', k', v', f', w1, w2, w3, w4, w5, w6, w7, w8, w9⟩ := ih (i + 1) k2 tm2 n2 hp2 a2 v2 f2 (by omega) q9 q1 q2 q3 q4 q5 q6 (by omega) (by omega) q10 q11
      exact ⟨tm', n', hp', a', k', v', f', w1, w2, w3, w4, by omega, by omega, w7, w8, w9⟩
    generalize hX : X K _ _ _ = x
    by_cases hf : nextF l a 2 = 0
    · have hmin : ∃ hh, amin (.int .i64 999) (.int .i64 (IntKind.i64.wrap (p1 + p2))) = some (.int .i64 hh) := by
        simp only [amin]; split <;> exact ⟨_, rfl⟩
      obtain ⟨hh, hmin⟩ := hmin
      have hGn := hG.next hsn (a + 3)
      rcases hS with ⟨rfl, rfl, rfl⟩ | ⟨id, cs, rfl, rfl, i0, i1, ig, il, ik, ic⟩
      · simp [ht, h0, h3, h8, h9, h10, hi3, hnm, hF, hf, hP1, hP2, hw2, hs, hmin, hsn', hsn2] at hX
        subst hX
        refine key _ _ _ (a + 3) 1 (.sl (n + 1) 0 1 3 true) false ?_ ?_ ?_ ?_ ?_ ?_ (by omega) (by omega) (by omega) ((hGn.push _).push _) (.inr ⟨n + 1, _, rfl, rfl, by have := hG.le; omega, by omega, hget_same _ _ _, ?_, by omega, ?_⟩)
        rotate_right
        · exact typed3_app (cs := []) (k := 0) (fun j c t hj => by simp at hj) rfl nm p1 hh
        all_goals simp [ht, h0, h8, h9]
      · have hids : ¬ id = n := by omega
        have hids2 : ¬ id = s := by omega
        have hg' : hget ((n, ABlk.cells [(AVal.str nm, false), (.int .i64 p1, false), (.int .i64 hh, false)]) :: hset hp s (strm l (a + 3))) id = some (.cells cs) := by simp [hids, hids2, ig]
        have hap := apM_sl hg' ro 32 3 true true false (.tmp 19) (n + 1) k 3 1 [AVal.str nm, .int .i64 p1, .int .i64 hh]
        rw [if_pos ⟨by omega, rfl, by omega, by omega⟩] at hap
        simp [ht, h0, h3, h8, h9, h10, hi3, hnm, hF, hf, hP1, hP2, hw2, hs, hmin, hsn', hsn2, hap] at hX
        subst hX
        refine key _ _ _ (a + 3) (k + 1) (.sl (n + 1) 0 (k + 1) 3 true) false ?_ ?_ ?_ ?_ ?_ ?_ (by omega) (by omega) (by omega) (((hGn.push _).del (i := id) (by omega)).push _) (.inr ⟨n + 1, _, rfl, rfl, by have := hG.le; omega, by omega, hget_same _ _ _, ?_, by omega, ?_⟩)
        rotate_right
        · have := typed3_app ic il nm p1 hh
          rw [List.take_of_length_le (by simp; omega)]
          exact this
        all_goals simp [ht, h0, h8, h9]
        all_goals omega
    · simp [ht, h0, h3, h8, h9, h10, hi3, hnm, hF, hf, hw2] at hX
      subst hX
      refine key _ _ _ (a + 1) k v f ?_ ?_ ?_ ?_ ?_ ?_ (by omega) (by omega) (by omega) (hG.next hsn (a + 1)) (hS.keep (Nat.le_refl _) fun id h1 h2 => by rw [hget_hset, if_neg (by omega)])
      all_goals simp [ht, h0, h3, h8, h9]
theorem Sps.tv {hp : Heap} {lo n k : Nat} {v : AVal} {f : Bool} (h : Sps hp lo n k v f) (hk : k ≤ 3) : Tv spanT hp lo n (.row 0) v := by
  rcases h with ⟨_, rfl, _⟩ | ⟨id, cs, rfl, _, h0, h1, hg, hl, hk, hc⟩
  · exact .fr (Leaf.nil 0)
  · have := Tv.sl (T := spanT) (hp := hp) (lo := lo) n 0 id 0 k cs h0 h1 hg (by show (0 + k) * 3 ≤ _; omega) (by show _ ≤ 100; omega) fun j c t hj ht => .fr (hc j c t hj ht)
    rwa [Nat.zero_mul] at this
/-- The spans are frozen. -/
theorem spans_done {l : List Int} {s nx n k : Nat} {hp0 hp : Heap} {a : Int} {v : AVal} {f : Bool} (hG : Gen l s nx hp0 n hp a) (hB : Base nx hp0) (h : Sps hp nx n k v f) (hk : k ≤ 3) (g : Bool) : ∃ y own, Tidied nx (some ⟨v, g, n, hp⟩) = some ⟨.lst (encSs y), own, nx, hset hp0 s (strm l a)⟩ := by
  obtain ⟨u, h1, h2⟩ := hv_FZ (age_forest spanT hp nx) (h.tv hk).hv
  obtain ⟨y, rfl⟩ := fr_spans h2
  have hcl : hclean nx hp = true := by rw [← hclean_hlow, hG.low]; exact (hB.set l a).2
  refine ⟨y, slOwn nx ⟨v, g, n, hp⟩, ?_⟩
  simp only [Tidied, h1, idsLt_lst, encSs_ids, hcl, Bool.and_true, if_true, hG.low]
theorem Typed3.set {cs : List Cell} (h : Typed3 cs) (q i : Nat) {t : CK} (hi : i < 3) (ht : (spanT.of 0).cs[i]? = some t) {v : AVal} {f : Bool} (hv : Leaf spanT t v) : Typed3 (cs.set (q * 3 + i) (v, f)) := by
  intro j c t' hj ht'
  rw [List.getElem?_set] at hj
  split at hj
  · rename_i e
    split at hj
    · cases hj
      rw [show j % 3 = i by omega, ht] at ht'; cases ht'
      exact hv
    · cases hj
  · exact h j c t' hj ht'
theorem spanList_R (l : List Int) (a : Int) (s ro nx : Nat) (hp : Heap) (ha : 0 ≤ a) (hb : a + 100 < 4611686018427387000) (hl : l.length < 4611686018427387904) (hs : hget hp s = some (strm l a)) (hro : ro ≤ s) (hB : Base nx hp) :
    ∃ y a' own, R K 5 [.ptr s 0] ro nx hp = some ⟨.lst (encSs y), own, nx, hset hp s (strm l a')⟩ ∧ a ≤ a' ∧ a' ≤ a + 100 := by
  have hf : Fresh nx hp := hB.1
  have hsn := hf.lt hs
  have hloop := spans_loop l s ro nx hp hl hro hsn a hs 3 0 0
  generalize hX : R K _ _ _ _ _ = x
  rw [R_tidy' K ro 5 _ nx hp [] Tryd.func5 rfl Tryd.ntmps5 Tryd.results5 (mu := [30]) rfl (by kernel_rfl) rfl rfl rfl] at hX; simp only [slim, slimO, annO, List.map, List.zip, List.zipWith, List.lookup, holed, Nat.reduceBEq] at hX
  simp [List.replicate] at hX
  generalize hb' : X K _ (.loop _) _ = r at hX
  have hk : ∃ tm' n' hp' a' k' v' f', r = some (.exit 0, ⟨tm', n', hp'⟩) ∧ tm'.length = 66 ∧ getC tm' 0 = (.ptr s 0, false) ∧ getC tm' 3 = (v', f') ∧ a ≤ a' ∧ a' ≤ a + 3 * (3 : Nat) ∧ k' ≤ 3 ∧ Gen l s nx hp n' hp' a' ∧ Sps hp' nx n' k' v' f' := by
    rw [← hb']
    refine hloop _ nx hp a (.lst []) true (by omega) (by omega) ?_ ?_ ?_ ?_ ?_ ?_ ha (by omega) (Gen.start hf hs) (.inl ⟨rfl, rfl, rfl⟩)
    all_goals simp
  obtain ⟨tm', n', hp', a', k, v, f, rfl, t1, t2, t3, t4, t5, hk3, hG, hS⟩ := hk
  clear hb' hloop
  have hs1 := hG.strm hs hsn
  have hF := flip_R l a' 15 s ro n' hp' ⟨by omega, by omega⟩ (by omega) hl hs1 hro
  rcases hS with ⟨rfl, rfl, rfl⟩ | ⟨id, cs, rfl, rfl, i0, i1, ig, il, ik, ic⟩
  · obtain ⟨y, own, hy⟩ := spans_done hG hB (.inl ⟨rfl, rfl, rfl⟩) (by omega) false
    refine ⟨y, a', own, ?_, by omega, by omega⟩
    rw [← hX, ← hy]
    simp [t1, t2, t3]
  · by_cases h0 : nextF l a' 15 = 0
    · have hidp : ¬ id = s := by omega
      have hroid : ro ≤ id := by omega
      have hs2 : hget (hset hp' s (strm l (a' + 1))) s = some (strm l (a' + 1)) := by simp [hs1]
      have hN := next_R l (a' + 1) k s ro n' _ ⟨by omega, by omega⟩ (by omega) hl hs2 hro
      rw [hset_hset, show a' + 1 + 1 = a' + 2 by omega] at hN
      have hqr := (nextF_range l (a' + 1) k).1 (by omega)
      obtain ⟨q, hq⟩ : ∃ q : Nat, nextF l (a' + 1) k = q := ⟨_, (Int.toNat_of_nonneg hqr.1).symm⟩
      rw [hq] at hN hqr
      have hqk : q < k := by omega
      obtain ⟨nm0, f0, e0⟩ : ∃ nm0 f0, cs[q * 3]? = some (.str nm0, f0) := by
        have hx := List.getElem?_eq_getElem (show q * 3 < cs.length by omega)
        have := ic (q * 3) _ .str hx (by rw [Nat.mul_mod_left]; rfl)
        generalize cs[q * 3]'(by omega) = c at hx this
        obtain ⟨v, f⟩ := c
        obtain ⟨nm, rfl⟩ := fr_str this.1
        exact ⟨nm, f, hx⟩
      have he0 : cs[q * 3]? = some (.str nm0, false) ∨ cs[q * 3]? = some (.str nm0, true) := by cases f0 <;> simp [e0]
      have hs3 : hget (hset hp' s (strm l (a' + 2))) s = some (strm l (a' + 2)) := by simp [hs1]
      have hO1 := some_R l (a' + 2) [nm0, ⟨#[]⟩, ⟨#[120]⟩, ⟨#[122, 122]⟩] s ro n' _ ⟨by omega, by omega⟩ (by simp) hl hs3 hro
      rw [hset_hset, show a' + 2 + 1 = a' + 3 by omega] at hO1
      simp only [strs, List.map_cons, List.map_nil] at hO1
      generalize someF l (a' + 2) _ = sm at hO1
      have hs4 : hget (hset hp' s (strm l (a' + 3))) s = some (strm l (a' + 3)) := by simp [hs1]
      have hO2 := odd_R l (a' + 3) 0 999 s ro n' _ ⟨by omega, by omega⟩ (by omega) (by omega) (by omega) hl hs4 hro
      rw [hset_hset, show a' + 3 + 2 = a' + 5 by omega] at hO2
      generalize (oddF l (a' + 3) 0 999).1 = o1 at hO2
      have hs5 : hget (hset hp' s (strm l (a' + 5))) s = some (strm l (a' + 5)) := by simp [hs1]
      have hO3 := odd_R l (a' + 5) 0 999 s ro n' _ ⟨by omega, by omega⟩ (by omega) (by omega) (by omega) hl hs5 hro
      rw [hset_hset, show a' + 5 + 2 = a' + 7 by omega] at hO3
      generalize (oddF l (a' + 5) 0 999).1 = o2 at hO3
      have ht : Typed3 (((cs.set (q * 3) (.str sm, false)).set (q * 3 + 1) (.int .i64 o1, false)).set (q * 3 + 2) (.int .i64 o2, false)) :=
        ((Typed3.set ic q 0 (by omega) rfl (Leaf.str sm)).set q 1 (by omega) rfl (Leaf.int o1)).set q 2 (by omega) rfl (Leaf.int o2)
      obtain ⟨y, own, hy⟩ := spans_done ((hG.next hsn (a' + 7)).set (i := id) i0 (.cells (((cs.set (q * 3) (.str sm, false)).set (q * 3 + 1) (.int .i64 o1, false)).set (q * 3 + 2) (.int .i64 o2, false)))) hB (.inr ⟨id, _, rfl, rfl, i0, i1, by rw [hget_hset, if_pos rfl, hget_hset, if_neg hidp, ig]; rfl, by simp [il], ik, ht⟩) hk3 false
      refine ⟨y, a' + 7, own, ?_, by omega, by omega⟩
      rw [← hX, ← hy]
      have hc3 : q * 3 + 1 ≤ cs.length ∧ q * 3 + 1 + 1 ≤ cs.length ∧ q * 3 + 2 + 1 ≤ cs.length := by omega
      rcases he0 with he0 | he0 <;> simp [t1, t2, t3, ik, hF, h0, hN, hqk, hidp, ig, he0, hO1, hO2, hO3, hroid, hc3]
    · obtain ⟨y, own, hy⟩ := spans_done (hG.next hsn (a' + 1)) hB ((Sps.keep (.inr ⟨id, cs, rfl, rfl, i0, i1, ig, il, ik, ic⟩) (Nat.le_refl _) fun i h1 h2 => by rw [hget_hset, if_neg (by omega)]) : Sps _ nx n' k (.sl id 0 k 3 true) false) hk3 false
      refine ⟨y, a' + 1, own, ?_, by omega, by omega⟩
      rw [← hX, ← hy]
      simp [t1, t2, t3, ik, hF, h0]
end Go.Proofs.YtleimfinniclgaaDoor.M
