/- AnExpr: a tree with a change in one place. -/
import Derived.Test.YtleimfinniclgaaDoorGB
namespace Go.Proofs.YtleimfinniclgaaDoor.M
open Go.Proofs
set_option linter.unusedSimpArgs false
set_option linter.unusedVariables false
set_option maxRecDepth 100000
set_option pp.deepTerms false
set_option pp.deepTerms.threshold 6
set_option maxHeartbeats 4000000
/-- A pointer to a record of the forest. -/
def Pt (G : Kd) (hp : Heap) (p off : Nat) : Prop := G.kind p 0 ∧ off % 4 = 0 ∧ ∃ cs, hget hp p = some (.cells cs) ∧ off + 4 ≤ cs.length
structure AE (l : List Int) (s nx : Nat) (hp0 : Heap) (n1 n : Nat) (hp : Heap) (a : Int) (G : Kd) : Prop where
  gen : Gen l s nx hp0 n hp a
  forest : Forest exprT G (nx + 1) hp
  root : Pt G hp n1 0
  small : ∀ id cs, G.kind id 0 → hget hp id = some (.cells cs) → cs.length ≤ 100
  four : ∀ cs, hget hp n1 = some (.cells cs) → cs.length = 4
  ret : hget hp nx = some (.cells [(.int .i64 0, false), (.int .i64 0, false), (.str ByteArray.empty, false), (.lst [], true)])
theorem pt_cells {G : Kd} {hp : Heap} {lo p off : Nat} (F : Forest exprT G lo hp) (h : Pt G hp p off) : ∃ cs o n nm v f0 f1 f2 f3, hget hp p = some (.cells cs) ∧ off + 4 ≤ cs.length ∧ cs[off]? = some (.int .i64 o, f0) ∧ cs[off + 1]? = some (.int .i64 n, f1) ∧ cs[off + 2]? = some (.str nm, f2) ∧ cs[off + 3]? = some (v, f3) ∧ Hv exprT G hp (G.rank p) (.row 0) v := by
  obtain ⟨hk, h4, cs, hg, hl⟩ := h
  have at_ : ∀ i t, i < 4 → (exprT.of 0).cs[i]? = some t → ∃ c : Cell, cs[off + i]? = some c ∧ Hv exprT G hp (G.rank p) t c.1 := fun i t hi ht => by
    refine ⟨_, List.getElem?_eq_getElem (show off + i < cs.length by omega), F.cells p 0 cs hk hg (off + i) _ t (List.getElem?_eq_getElem (by omega)) ?_⟩
    show (exprT.of 0).cs[(off + i) % 4]? = some t
    rw [show (off + i) % 4 = i by omega]; exact ht
  obtain ⟨⟨v0, f0⟩, e0, h0⟩ := at_ 0 .int (by omega) rfl
  obtain ⟨⟨v1, f1⟩, e1, h1⟩ := at_ 1 .int (by omega) rfl
  obtain ⟨⟨v2, f2⟩, e2, h2⟩ := at_ 2 .str (by omega) rfl
  obtain ⟨⟨v3, f3⟩, e3, h3⟩ := at_ 3 (.row 0) (by omega) rfl
  have i0 : ∀ v r, Hv exprT G hp r .int v → ∃ n, v = .int .i64 n := fun v r h => by
    cases h with
    | fr h => cases h.1; exact ⟨_, rfl⟩
  have i2 : ∀ v r, Hv exprT G hp r .str v → ∃ n, v = .str n := fun v r h => by
    cases h with
    | fr h => cases h.1; exact ⟨_, rfl⟩
  obtain ⟨o, rfl⟩ := i0 v0 _ h0
  obtain ⟨n, rfl⟩ := i0 v1 _ h1
  obtain ⟨nm, rfl⟩ := i2 v2 _ h2
  exact ⟨cs, o, n, nm, v3, f0, f1, f2, f3, hg, hl, e0, e1, e2, e3, h3⟩
theorem hv_row {G : Kd} {hp : Heap} {r : Nat} {v : AVal} (h : Hv exprT G hp r (.row 0) v) : v = .lst [] ∨ ∃ id m len cs, v = .sl id (m * 4) len 4 true ∧ G.kind id 0 ∧ G.rank id < r ∧ hget hp id = some (.cells cs) ∧ (m + len) * 4 ≤ cs.length := by
  cases h with
  | fr h =>
    obtain ⟨h1, h2⟩ := h
    cases h1 with
    | row k xs _ _ _ => left; rw [h2 0 xs rfl rfl rfl]
  | sl k id m len cs hk hr hg hl => exact .inr ⟨id, m, len, cs, rfl, hk, hr, hg, hl⟩
theorem AE.next {l : List Int} {s nx n1 n : Nat} {hp0 hp : Heap} {a a0 : Int} {G : Kd} (h : AE l s nx hp0 n1 n hp a G) (hs0 : hget hp0 s = some (strm l a0)) (hsn : s < nx) (a' : Int) : AE l s nx hp0 n1 n (hset hp s (strm l a')) a' G := by
  have ne : ∀ id k, G.kind id k → id ≠ s := fun id k hk => by have := h.forest.lo id k hk; omega
  have hn1 := ne n1 0 h.root.1
  refine ⟨h.gen.next hsn a', h.forest.move fun id k hk => by rw [hget_hset, if_neg (ne id k hk)], ?_, fun id cs hk hc => h.small id cs hk (by rwa [hget_hset, if_neg (ne id 0 hk)] at hc), fun cs hc => h.four cs (by rwa [hget_hset, if_neg hn1] at hc), by rw [hget_hset, if_neg (by omega)]; exact h.ret⟩
  obtain ⟨q1, q2, cs, q3, q4⟩ := h.root
  exact ⟨q1, q2, cs, by rw [hget_hset, if_neg hn1]; exact q3, q4⟩
theorem Pt.next {l : List Int} {s nx n1 n : Nat} {hp0 hp : Heap} {a : Int} {G : Kd} (h : AE l s nx hp0 n1 n hp a G) (hsn : s < nx) {p off : Nat} (hp' : Pt G hp p off) (a' : Int) : Pt G (hset hp s (strm l a')) p off := by
  obtain ⟨q1, q2, cs, q3, q4⟩ := hp'
  have := h.forest.lo p 0 q1
  exact ⟨q1, q2, cs, by rw [hget_hset, if_neg (by omega)]; exact q3, q4⟩
theorem anExpr_walk (l : List Int) (s ro nx : Nat) (hp0 : Heap) (n1 n : Nat) (hl : l.length < 4611686018427387904) (hro : ro ≤ s) (hsn : s < nx) (a0 : Int) (hs0 : hget hp0 s = some (strm l a0)) (G : Kd) : ∀ (m p off : Nat) (tm : List Cell) (hp : Heap) (a : Int), G.rank p < m → tm.length = 90 → getC tm 0 = (.ptr s 0, false) → getC tm 2 = (.ptr nx 0, false) → getC tm 3 = (.ptr n1 0, false) → getC tm 4 = (.ptr p off, false) →
    0 ≤ a → a + 2 * m < 4611686018427387000 → AE l s nx hp0 n1 n hp a G → Pt G hp p off →
    ∃ tm' p' off' a', X K ⟨ro, [26]⟩ (.loop (LB Tryd.prog 4 [(5, [[], [], [], [3], [], [], [], [], [], [3], [3], [], []]), (18, [[], [], [], [], [4], [], [], [], [], [4], [], [], [], [], []])] 0)) ⟨tm, n, hp⟩ = some (.exit 0, ⟨tm', n, hset hp s (strm l a')⟩) ∧ tm'.length = 90 ∧ getC tm' 0 = (.ptr s 0, false) ∧ getC tm' 2 = (.ptr nx 0, false) ∧ getC tm' 3 = (.ptr n1 0, false) ∧ getC tm' 4 = (.ptr p' off', false) ∧ a ≤ a' ∧ a' ≤ a + 2 * m ∧ AE l s nx hp0 n1 n (hset hp s (strm l a')) a' G ∧ Pt G (hset hp s (strm l a')) p' off' := by
  have e := LB_open (P := Tryd.prog) [(5, [[], [], [], [3], [], [], [], [], [], [3], [3], [], []]), (18, [[], [], [], [], [4], [], [], [], [], [4], [], [], [], [], []])] 0 Tryd.func4 rfl rfl (by kernel_rfl)
  simp only [slim, slimO, annO, List.map, List.zip, List.zipWith, List.lookup, holed, loopsOf, List.nil_append, List.cons_append, List.getD_cons_zero, List.getD_cons_succ, Nat.reduceBEq] at e
  intro m
  induction m with
  | zero => intro p off tm hp a hm; omega
  | succ m ih =>
    intro p off tm hp a hm ht h0 h2 h3 h4 ha hb hA hp'
    rw [Y_loop_eq _ _ e]
    have hs := hA.gen.strm hs0 hsn
    obtain ⟨cs, o, nn, nm, v, f0, f1, f2, f3, hg, hlen, c0, c1, c2, c3, hv⟩ := pt_cells hA.forest hp'
    have hps : ¬ p = s := by have := hA.forest.lo p 0 hp'.1; omega
    have hF := flip_R l a 2 s ro n hp ⟨ha, by omega⟩ (by omega) hl hs hro
    have stay : ∀ a', AE l s nx hp0 n1 n (hset hp s (strm l a')) a' G ∧ Pt G (hset hp s (strm l a')) p off := fun a' => ⟨hA.next hs0 hsn a', hp'.1, hp'.2.1, cs, by rw [hget_hset, if_neg hps]; exact hg, hlen⟩
    have hx : cs[off + 3]? = some (v, false) ∨ cs[off + 3]? = some (v, true) := by cases f3 <;> simp [c3]
    generalize hX : X K _ _ _ = x
    rcases hv_row hv with rfl | ⟨id, mm, len, cs', rfl, hk, hr, hg', hl'⟩
    · have hx' : x = some (.exit 0, ⟨(((((((((tm.set 12 (.ptr p off, false)).set 13 (.ptr p off, false)).set 14 (.ptr p (off + 3), false)).set 15 (.lst [], false)).set 16 (.int .i64 0, false)).set 17 (.bool false, false)).set 18 (.bool false, false)).set 19 (.tup [], false)).set 20 (.tup [], false)).set 21 (.bool false, false), n, hp⟩) := by
        rw [← hX]
        rcases hx with hx | hx <;> simp [ht, h0, h2, h3, h4, hg, hx]
      subst hx'
      exact ⟨_, p, off, a, by rw [hset_self hs]; rfl, by simp [ht], by simp [h0], by simp [h2], by simp [h3], by simp [h4], by omega, by omega, stay a⟩
    · by_cases hz : (len : Int) = 0
      · have hx' : x = some (.exit 0, ⟨(((((((((tm.set 12 (.ptr p off, false)).set 13 (.ptr p off, false)).set 14 (.ptr p (off + 3), false)).set 15 (.sl id (mm * 4) len 4 true, false)).set 16 (.int .i64 len, false)).set 17 (.bool false, false)).set 18 (.bool false, false)).set 19 (.tup [], false)).set 20 (.tup [], false)).set 21 (.bool false, false), n, hp⟩) := by
          rw [← hX]
          rcases hx with hx | hx <;> simp [ht, h0, h2, h3, h4, hg, hx, hz]
        subst hx'
        exact ⟨_, p, off, a, by rw [hset_self hs]; rfl, by simp [ht], by simp [h0], by simp [h2], by simp [h3], by simp [h4], by omega, by omega, stay a⟩
      · have hpos : 0 < len := by omega
        have hs1 : hget (hset hp s (strm l (a + 1))) s = some (strm l (a + 1)) := by simp [hs]
        have hN := next_R l (a + 1) len s ro n (hset hp s (strm l (a + 1))) ⟨by omega, by omega⟩ (by have := hA.small id cs' hk hg'; omega) hl hs1 hro
        have hr2 := (nextF_range l (a + 1) len).1 (by omega)
        by_cases h1 : nextF l a 2 = 0
        · have hx' : ∃ tm', x = some (.normal, ⟨tm', n, hset hp s (strm l (a + 1 + 1))⟩) ∧ tm'.length = 90 ∧ getC tm' 0 = (.ptr s 0, false) ∧ getC tm' 2 = (.ptr nx 0, false) ∧ getC tm' 3 = (.ptr n1 0, false) ∧ getC tm' 4 = (.ptr id (mm * 4 + (nextF l (a + 1) len).toNat * 4), false) := by
            rw [← hX]
            rcases hx with hx | hx <;> simp [ht, h0, h2, h3, h4, hg, hx, hpos, hF, h1, hps, hN, hr2]
          obtain ⟨tm', rfl, q1, q2, q3, q4, q5⟩ := hx'
          rw [XK_normal]
          have hids : ¬ id = s := by have := hA.forest.lo id 0 hk; omega
          obtain ⟨tm2, p', off', a', w1, w2, w3, w4, w5, w6, w7, w8, w9⟩ := ih id (mm * 4 + (nextF l (a + 1) len).toNat * 4) tm' (hset hp s (strm l (a + 1 + 1))) (a + 1 + 1) (by omega) q1 q2 q3 q4 q5 (by omega) (by omega) (hA.next hs0 hsn _) ⟨hk, by omega, cs', by rw [hget_hset, if_neg hids]; exact hg', by omega⟩
          rw [hset_hset] at w1 w9
          exact ⟨tm2, p', off', a', w1, w2, w3, w4, w5, w6, by omega, by omega, w9⟩
        · have hx' : ∃ tm', x = some (.exit 0, ⟨tm', n, hset hp s (strm l (a + 1))⟩) ∧ tm'.length = 90 ∧ getC tm' 0 = (.ptr s 0, false) ∧ getC tm' 2 = (.ptr nx 0, false) ∧ getC tm' 3 = (.ptr n1 0, false) ∧ getC tm' 4 = (.ptr p off, false) := by
            rw [← hX]
            rcases hx with hx | hx <;> simp [ht, h0, h2, h3, h4, hg, hx, hpos, hF, h1]
          obtain ⟨tm', rfl, q1, q2, q3, q4, q5⟩ := hx'
          exact ⟨tm', p, off, a + 1, by rw [XK_exit], q1, q2, q3, q4, q5, by omega, by omega, stay (a + 1)⟩
/-- Cells of a record are written. -/
theorem AE.put {l : List Int} {s nx n1 n : Nat} {hp0 hp : Heap} {a : Int} {G : Kd} (h : AE l s nx hp0 n1 n hp a G) {p off : Nat} (hp' : Pt G hp p off) {cs : List Cell} (hg : hget hp p = some (.cells cs)) (cs' : List Cell) (hl : cs'.length = cs.length) (hc : ∀ (j : Nat) (c : Cell) t, cs'[j]? = some c → (exprT.of 0).cs[j % 4]? = some t → cs[j]? = some c ∨ Hv exprT G hp (G.rank p) t c.1) :
    AE l s nx hp0 n1 n (hset hp p (.cells cs')) a G ∧ Pt G (hset hp p (.cells cs')) p off := by
  have hlo := h.forest.lo p 0 hp'.1
  obtain ⟨r1, r2, csr, r3, r4⟩ := h.root
  refine ⟨⟨h.gen.set (by omega) _, h.forest.set hg cs' hl fun k _ => hc, ?_, fun id cs0 hk hc0 => ?_, fun cs0 hc0 => ?_, by rw [hget_hset, if_neg (by omega)]; exact h.ret⟩, ?_⟩
  · by_cases e : n1 = p
    · subst e
      rw [hg] at r3; cases r3
      exact ⟨r1, r2, cs', by rw [hget_hset, if_pos rfl, hg]; rfl, by omega⟩
    · exact ⟨r1, r2, csr, by rw [hget_hset, if_neg e]; exact r3, r4⟩
  · rw [hget_hset] at hc0
    split at hc0
    · rename_i e; subst e
      rw [hg] at hc0; cases hc0
      have := h.small id cs hk hg
      omega
    · exact h.small id cs0 hk hc0
  · rw [hget_hset] at hc0
    split at hc0
    · rename_i e; subst e
      rw [hg] at hc0; cases hc0
      have := h.four cs hg
      omega
    · exact h.four cs0 hc0
  · obtain ⟨q1, q2, cs0, q3, q4⟩ := hp'
    rw [hg] at q3; cases q3
    exact ⟨q1, q2, cs', by rw [hget_hset, if_pos rfl, hg]; rfl, by omega⟩
theorem AE.put1 {l : List Int} {s nx n1 n : Nat} {hp0 hp : Heap} {a : Int} {G : Kd} (h : AE l s nx hp0 n1 n hp a G) {p off : Nat} (hp' : Pt G hp p off) {cs : List Cell} (hg : hget hp p = some (.cells cs)) (i : Nat) (hi : i < 4) {t : CK} (ht : (exprT.of 0).cs[i]? = some t) {v : AVal} {f : Bool} (hv : Hv exprT G hp (G.rank p) t v) :
    AE l s nx hp0 n1 n (hset hp p (.cells (cs.set (off + i) (v, f)))) a G := by
  refine (h.put hp' hg _ (by simp) fun j c t' hj ht' => ?_).1
  rw [List.getElem?_set] at hj
  split at hj
  · rename_i e
    split at hj
    · cases hj
      have := hp'.2.1
      have e2 : j % 4 = i := by omega
      rw [e2, ht] at ht'; cases ht'
      exact .inr hv
    · cases hj
  · exact .inl hj
/-- The record goes into a new one, that takes its place. -/
theorem AE.wrap {l : List Int} {s nx n1 n : Nat} {hp0 hp : Heap} {a : Int} {G : Kd} (h : AE l s nx hp0 n1 n hp a G) {p off : Nat} (hp' : Pt G hp p off) {cs : List Cell} (hg : hget hp p = some (.cells cs)) {o nn : Int} {nm : ByteArray} {v : AVal} (hv : Hv exprT G hp (G.rank p) (.row 0) v) (op : Int) (f : Bool) :
    ∃ G', AE l s nx hp0 n1 (n + 1) ((n, .cells [(.int .i64 o, false), (.int .i64 nn, false), (.str nm, false), (v, false)]) :: hset hp p (.cells (setCs cs off [(.int .i64 op, false), (.int .i64 0, false), (.str ByteArray.empty, false), (.sl n 0 1 4 true, f)]))) a G' ∧
      Pt G' ((n, .cells [(.int .i64 o, false), (.int .i64 nn, false), (.str nm, false), (v, false)]) :: hset hp p (.cells (setCs cs off [(.int .i64 op, false), (.int .i64 0, false), (.str ByteArray.empty, false), (.sl n 0 1 4 true, f)]))) p off := by
  have hpn : p < n := h.gen.fresh.lt hg
  have hnn : hget hp n = none := by
    cases hx : hget hp n with
    | none => rfl
    | some b => have := h.gen.fresh.lt hx; omega
  have hlo := h.forest.lo p 0 hp'.1
  obtain ⟨r1, r2, csr, r3, r4⟩ := h.root
  have hrn : n1 < n := h.gen.fresh.lt r3
  have hret : nx < n := h.gen.fresh.lt h.ret
  let b : ABlk := .cells [(.int .i64 o, false), (.int .i64 nn, false), (.str nm, false), (v, false)]
  have F1 : Forest exprT (G.between n p 0) (nx + 1) ((n, b) :: hp) := h.forest.between (by omega) hnn (fun j c t hj ht => by
    have hj4 : j < 4 := (List.getElem?_eq_some_iff.1 hj).1
    have ht : (exprT.of 0).cs[j % 4]? = some t := ht
    rw [Nat.mod_eq_of_lt hj4] at ht
    match j with
    | 0 => cases hj; cases ht; exact .fr (Leaf.int _)
    | 1 => cases hj; cases ht; exact .fr (Leaf.int _)
    | 2 => cases hj; cases ht; exact .fr (Leaf.str _)
    | 3 => cases hj; cases ht; exact hv
    | j + 4 => omega)
  have kold : ∀ id, G.kind id 0 → id ≠ n → (G.between n p 0).kind id 0 := fun id hk hne => .inr ⟨hne, hk⟩
  have A1 : AE l s nx hp0 n1 (n + 1) ((n, b) :: hp) a (G.between n p 0) := by
    refine ⟨h.gen.push b, F1, ⟨kold n1 r1 (by omega), r2, csr, by rw [hget_cons, if_neg (by omega)]; exact r3, r4⟩, fun id cs0 hk hc0 => ?_, fun cs0 hc0 => h.four cs0 (by rwa [hget_cons, if_neg (by omega)] at hc0), by rw [hget_cons, if_neg (by omega)]; exact h.ret⟩
    rcases hk with ⟨rfl, _⟩ | ⟨hne, hk⟩
    · rw [hget_same] at hc0
      injection hc0 with e
      injection e with e
      rw [← e]; show 4 ≤ 100; decide
    · rw [hget_cons, if_neg hne] at hc0; exact h.small id cs0 hk hc0
  have hp1 : Pt (G.between n p 0) ((n, b) :: hp) p off := by
    obtain ⟨q1, q2, cs0, q3, q4⟩ := hp'
    exact ⟨kold p q1 (by omega), q2, cs0, by rw [hget_cons, if_neg (by omega)]; exact q3, q4⟩
  have hg1 : hget ((n, b) :: hp) p = some (.cells cs) := by rw [hget_cons, if_neg (by omega)]; exact hg
  have hrk : (G.between n p 0).rank p = 2 * G.rank p + 1 := if_neg (by omega)
  have hrn2 : (G.between n p 0).rank n = 2 * G.rank p := if_pos rfl
  have hsl : Hv exprT (G.between n p 0) ((n, b) :: hp) ((G.between n p 0).rank p) (.row 0) (.sl n 0 1 4 true) := by
    have := Hv.sl (T := exprT) (G := G.between n p 0) (hp := (n, b) :: hp) (r := (G.between n p 0).rank p) 0 n 0 1 _ (.inl ⟨rfl, rfl⟩) (by rw [hrk, hrn2]; omega) (hget_same _ _ _) (by show (0 + 1) * 4 ≤ 4; decide)
    exact this
  have := A1.put hp1 hg1 (setCs cs off [(.int .i64 op, false), (.int .i64 0, false), (.str ByteArray.empty, false), (.sl n 0 1 4 true, f)]) (setCs_len _ _ _) fun j c t hj ht => by
    rw [setCs_get] at hj
    split at hj
    · rename_i hin
      obtain ⟨i1, i2, i3⟩ := hin
      simp only [List.length_cons, List.length_nil] at i2
      have hm := hp'.2.1
      have e : j % 4 = j - off := by omega
      rw [e] at ht
      right
      generalize j - off = i at hj ht
      match i with
      | 0 => cases hj; cases ht; exact .fr (Leaf.int _)
      | 1 => cases hj; cases ht; exact .fr (Leaf.int _)
      | 2 => cases hj; cases ht; exact .fr (Leaf.str _)
      | 3 => cases hj; cases ht; exact hsl
      | i + 4 => simp at hj
    · exact .inl hj
  refine ⟨G.between n p 0, ?_⟩
  have e : hset ((n, b) :: hp) p (.cells (setCs cs off [(.int .i64 op, false), (.int .i64 0, false), (.str ByteArray.empty, false), (.sl n 0 1 4 true, f)])) = (n, b) :: hset hp p (.cells (setCs cs off [(.int .i64 op, false), (.int .i64 0, false), (.str ByteArray.empty, false), (.sl n 0 1 4 true, f)])) := by
    rw [hset_cons, if_neg (by omega)]
  rw [e] at this
  exact this
theorem cells4 {cs : List Cell} {off : Nat} {c0 c1 c2 c3 : Cell} (h0 : cs[off]? = some c0) (h1 : cs[off + 1]? = some c1) (h2 : cs[off + 2]? = some c2) (h3 : cs[off + 3]? = some c3) : ((cs.drop off).take 4).map (·.1) = [c0.1, c1.1, c2.1, c3.1] := by
  have g : ∀ i c, i < 4 → cs[off + i]? = some c → (((cs.drop off).take 4).map (·.1))[i]? = some c.1 := fun i c hi hc => by
    rw [List.getElem?_map, List.getElem?_take, if_pos hi, List.getElem?_drop, hc]; rfl
  have hlen : (((cs.drop off).take 4).map (·.1)).length = 4 := by
    have := (List.getElem?_eq_some_iff.1 h3).1
    simp; omega
  refine List.ext_getElem? fun i => ?_
  match i with
  | 0 => exact g 0 c0 (by omega) h0
  | 1 => exact g 1 c1 (by omega) h1
  | 2 => exact g 2 c2 (by omega) h2
  | 3 => exact g 3 c3 (by omega) h3
  | i + 4 => rw [List.getElem?_eq_none (by omega)]; rfl
theorem hv_one {T : Recs} {G : Kd} {hp : Heap} {r : Nat} {c : CK} {v : AVal} (h : Hv T G hp r c v) : v.one = true ∧ unS v = (v, false) := by
  cases h with
  | fr h => exact ⟨h.1.one, h.1.unS⟩
  | sl => exact ⟨rfl, rfl⟩
theorem anExpr_wrap (l : List Int) (s ro nx : Nat) (hp0 : Heap) (n1 : Nat) (hro : ro ≤ nx) (mm : Int) (hmm : mm ≤ 100) (p off : Nat) (a : Int) : ∀ (r : Nat) (k : Int) (tm : List Cell) (n : Nat) (hp : Heap) (G : Kd), 0 ≤ k → r + k = mm → tm.length = 90 → getC tm 2 = (.ptr nx 0, false) → getC tm 3 = (.ptr n1 0, false) → getC tm 4 = (.ptr p off, false) → getC tm 38 = (.int .i64 mm, false) → getC tm 39 = (.int .i64 k, false) →
    AE l s nx hp0 n1 n hp a G → Pt G hp p off →
    ∃ tm' n' hp' G', X K ⟨ro, [26]⟩ (.loop (LB Tryd.prog 4 [(5, [[], [], [], [3], [], [], [], [], [], [3], [3], [], []]), (18, [[], [], [], [], [4], [], [], [], [], [4], [], [], [], [], []])] 1)) ⟨tm, n, hp⟩ = some (.exit 3, ⟨tm', n', hp'⟩) ∧ tm'.length = 90 ∧ getC tm' 2 = (.ptr nx 0, false) ∧ getC tm' 3 = (.ptr n1 0, false) ∧ AE l s nx hp0 n1 n' hp' a G' := by
  have e := LB_open (P := Tryd.prog) [(5, [[], [], [], [3], [], [], [], [], [], [3], [3], [], []]), (18, [[], [], [], [], [4], [], [], [], [], [4], [], [], [], [], []])] 1 Tryd.func4 rfl rfl (by kernel_rfl)
  simp only [slim, slimO, annO, List.map, List.zip, List.zipWith, List.lookup, holed, loopsOf, List.nil_append, List.cons_append, List.getD_cons_zero, List.getD_cons_succ, Nat.reduceBEq] at e
  intro r
  induction r with
  | zero =>
    intro k tm n hp G hk0 hk ht h2 h3 h4 h38 h39 hA hP
    rw [Y_loop_eq _ _ e]
    have hk1 : ¬ k < mm := by omega
    generalize hX : X K _ _ _ = x
    simp [ht, h38, h39, hk1] at hX
    subst hX
    exact ⟨_, n, hp, G, rfl, by simp [ht], by simp [h2], by simp [h3], hA⟩
  | succ r ih =>
    intro k tm n hp G hk0 hk ht h2 h3 h4 h38 h39 hA hP
    rw [Y_loop_eq _ _ e]
    have hk1 : k < mm := by omega
    have hw : IntKind.i64.wrap (k + 1) = k + 1 := wrap_small (by omega) (by omega)
    obtain ⟨cs, o, nn, nm, v, f0, f1, f2, f3, hg, hlen, c0, c1, c2, c3, hv⟩ := pt_cells hA.forest hP
    have h4c := cells4 c0 c1 c2 c3
    simp only [List.map_take, List.map_drop] at h4c
    have hpn : ¬ p = n := by have := hA.gen.fresh.lt hg; omega
    have hrop : ro ≤ p := by have := hA.forest.lo p 0 hP.1; omega
    obtain ⟨G', hA', hP'⟩ := hA.wrap hP hg hv 8 false (o := o) (nn := nn) (nm := nm)
    have h1 := hv_one hv
    generalize hX : X K _ _ _ = x
    simp [ht, h2, h3, h4, h38, h39, hk1, hw, hg, hlen, h4c, hpn, hrop, h1.1, h1.2] at hX
    subst hX
    rw [XK_normal]
    exact ih (k + 1) _ (n + 1) _ G' (by omega) (by omega) (by simp [ht]) (by simp [h2]) (by simp [h3]) (by simp [h4]) (by simp [h38]) (by simp [ht]) hA' hP'
end Go.Proofs.YtleimfinniclgaaDoor.M
