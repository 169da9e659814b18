/- AnExpr gives an expression. -/
import Derived.Test.YtleimfinniclgaaDoorGD
namespace Go.Proofs.YtleimfinniclgaaDoor.M
open Go.Proofs Go.Proofs.YtleimfinniclgaaDoor.X
set_option linter.unusedSimpArgs false
set_option linter.unusedVariables false
set_option maxRecDepth 100000
set_option pp.deepTerms false
set_option pp.deepTerms.threshold 6
set_option maxHeartbeats 4000000
theorem pickF_mem (l : List Int) (a : Int) (ls : List Int) (h : 1 ≤ ls.length) : pickF l a ls ∈ ls := by
  unfold pickF
  have hr := (nextF_range l a ls.length).1 (by omega)
  rw [List.getD_eq_getElem?_getD, List.getElem?_eq_getElem (show (nextF l a ls.length).toNat < ls.length by omega)]
  exact List.getElem_mem _
theorem Forest.lower {T : Recs} {G : Kd} {lo lo' : Nat} {hp : Heap} (F : Forest T G lo hp) (h : lo' ≤ lo) : Forest T G lo' hp := ⟨fun id k hk => Nat.le_trans h (F.lo id k hk), F.cells⟩
theorem AE.done {l : List Int} {s nx n1 n : Nat} {hp0 hp : Heap} {a : Int} {G : Kd} (h : AE l s nx hp0 n1 n hp a G) (hb : Base nx hp0) :
    ∃ o nn nm v f0 f1 f2 f3, hget hp n1 = some (.cells [(.int .i64 o, f0), (.int .i64 nn, f1), (.str nm, f2), (v, f3)]) ∧ v.one = true ∧ unS v = (v, false) ∧ ∀ cs', ∃ x, Tidied nx (some ⟨.agg [.int .i64 o, .int .i64 nn, .str nm, v], false, n, hset hp nx (.cells cs')⟩) = some ⟨encX x, false, nx, hset hp0 s (strm l a)⟩ := by
  obtain ⟨cs, o, nn, nm, v, f0, f1, f2, f3, hg, hlen, c0, c1, c2, c3, hv⟩ := pt_cells h.forest h.root
  have h4 := h.four cs hg
  have hcs : cs = [(.int .i64 o, f0), (.int .i64 nn, f1), (.str nm, f2), (v, f3)] := by
    refine List.ext_getElem? fun i => ?_
    match i with
    | 0 => exact c0
    | 1 => exact c1
    | 2 => exact c2
    | 3 => exact c3
    | i + 4 => rw [List.getElem?_eq_none (by omega)]; rfl
  subst hcs
  have h1 := hv_one hv
  have key : ∀ cs', ∃ us, FZ nx (hset hp nx (.cells cs')) (.agg [.int .i64 o, .int .i64 nn, .str nm, v]) = some (.agg us) ∧ us.length = 4 ∧ ∀ (i : Nat) u t, us[i]? = some u → (exprT.of 0).cs[i]? = some t → Fr exprT t u := fun cs' => by
    have hne : ∀ id k, G.kind id k → id ≠ nx := fun id k hk => by have := h.forest.lo id k hk; omega
    have F : Forest exprT G nx (hset hp nx (.cells cs')) := (h.forest.move fun id k hk => by rw [hget_hset, if_neg (hne id k hk)]).lower (Nat.le_succ nx)
    refine agg_FZ F (G.rank n1) _ _ rfl fun i c t hc ht => ?_
    match i with
    | 0 => cases hc; cases ht; exact .fr (Leaf.int _)
    | 1 => cases hc; cases ht; exact .fr (Leaf.int _)
    | 2 => cases hc; cases ht; exact .fr (Leaf.str _)
    | 3 => cases hc; cases ht; exact hv.move fun id k cs q1 q2 q3 => ⟨q1, q2, cs, by rw [hget_hset, if_neg (hne id k q1)]; exact q3, Nat.le_refl _⟩
    | i + 4 => simp at hc
  have fin : ∀ us, us.length = 4 → (∀ (i : Nat) u t, us[i]? = some u → (exprT.of 0).cs[i]? = some t → Fr exprT t u) → ∃ x, AVal.agg us = encX x := by
    intro us hl hu
    have at_ : ∀ i t, i < 4 → (exprT.of 0).cs[i]? = some t → ∃ u, us[i]? = some u ∧ Fr exprT t u := fun i t hi ht => by
      have hc : us[i]? = some (us[i]'(by omega)) := List.getElem?_eq_getElem (by omega)
      exact ⟨_, hc, hu i _ t hc ht⟩
    obtain ⟨u0, e0, h0⟩ := at_ 0 .int (by omega) rfl
    obtain ⟨u1, e1, h1⟩ := at_ 1 .int (by omega) rfl
    obtain ⟨u2, e2, h2⟩ := at_ 2 .str (by omega) rfl
    obtain ⟨u3, e3, h3⟩ := at_ 3 (.row 0) (by omega) rfl
    obtain ⟨l, rfl⟩ := fr_row h3 0 rfl
    obtain ⟨o, rfl⟩ := fr_int h0
    obtain ⟨n, rfl⟩ := fr_int h1
    obtain ⟨s, rfl⟩ := fr_str h2
    refine ⟨.mk o n s l, ?_⟩
    rw [encX]
    congr 1
    refine List.ext_getElem? fun i => ?_
    match i with
    | 0 => exact e0
    | 1 => exact e1
    | 2 => exact e2
    | 3 => exact e3
    | i + 4 => rw [List.getElem?_eq_none (by omega)]; rfl
  refine ⟨o, nn, nm, v, f0, f1, f2, f3, hg, h1.1, h1.2, fun cs' => ?_⟩
  obtain ⟨us, q1, q2, q3⟩ := key cs'
  obtain ⟨x, hx⟩ := fin us q2 q3
  refine ⟨x, ?_⟩
  have hlow : hlow nx (hset hp nx (.cells cs')) = hset hp0 s (strm l a) := by rw [hlow_hset' _ _ _ _ (Nat.le_refl nx), h.gen.low]
  have hcl : hclean nx (hset hp nx (.cells cs')) = true := by rw [← hclean_hlow, hlow]; exact (hb.set l a).2
  simp only [Tidied, q1, hx, encX_ids, hcl, Bool.and_true, if_true, slOwn, hlow, Bool.false_and]
theorem anExpr_R (l : List Int) (a : Int) (s ro nx : Nat) (hp : Heap) (ha : 0 ≤ a) (hb : a + 100000 < 4611686018427387000) (hl : l.length < 4611686018427387904) (hs : hget hp s = some (strm l a)) (hro : ro ≤ s) (hB : Base nx hp) :
    ∃ x a', R K 4 [.ptr s 0] ro nx hp = some ⟨encX x, false, nx, hset hp s (strm l a')⟩ ∧ a ≤ a' ∧ a' ≤ a + 100000 := by
  have hf : Fresh nx hp := hB.1
  have hsn := hf.lt hs
  have hne : ¬ s = nx := by omega
  have hro1 : ro ≤ nx := by omega
  have hs1 : hget ((nx, ABlk.cells [(.int .i64 0, false), (.int .i64 0, false), (.str ByteArray.empty, false), (.lst [], true)]) :: hp) s = some (strm l a) := by simp [hne, hs]
  have hP := pick_R l a [1, 2, 3, 4] s ro (nx + 1) _ ⟨ha, by omega⟩ (by simp) hl hs1 hro
  have hPm := pickF_mem l a [1, 2, 3, 4] (by simp)
  obtain ⟨d, hd, hd4⟩ : ∃ d : Nat, pickF l a [1, 2, 3, 4] = d ∧ d ≤ 4 := by
    refine ⟨(pickF l a [1, 2, 3, 4]).toNat, ?_, ?_⟩ <;> simp at hPm <;> omega
  rw [hd] at hP
  simp only [ints', List.map_cons, List.map_nil] at hP
  have hs2 : hget ((nx, ABlk.cells [(.int .i64 0, false), (.int .i64 0, false), (.str ByteArray.empty, false), (.lst [], true)]) :: hset hp s (strm l (a + 1))) s = some (strm l (a + 1)) := by simp [hne, hs]
  have hG1 := ((Gen.start hf hs).next hsn (a + 1)).push (ABlk.cells [(.int .i64 0, false), (.int .i64 0, false), (.str ByteArray.empty, false), (.lst [], true)])
  have htb : treeB d ≤ 500 := by
    match d, hd4 with
    | 0, _ => decide
    | 1, _ => decide
    | 2, _ => decide
    | 3, _ => decide
    | 4, _ => decide
  have hbb : blkB d ≤ 1000 := by
    match d, hd4 with
    | 0, _ => decide
    | 1, _ => decide
    | 2, _ => decide
    | 3, _ => decide
    | 4, _ => decide
  obtain ⟨op, n0, nm, av, n1, hp1, a1, hR, hG2, ha1, ha2, hT, hnb⟩ := tree_R l s ro hl hro d (by omega) (a + 1) (nx + 1) _ (by omega) (by omega) hs2 hG1.fresh
  have hle := hG2.le
  have hnn : hget hp1 n1 = none := by
    cases hx : hget hp1 n1 with
    | none => rfl
    | some b => have := hG2.fresh.lt hx; omega
  have hT1 := hT.one
  have hTu := hT.unS
  have hrt := (hG2.old (j := nx) (by omega) (by omega)).trans (hget_same nx _ _)
  have hA : AE l s nx hp n1 (n1 + 1) ((n1, .cells [(.int .i64 op, false), (.int .i64 n0, false), (.str nm, false), (av, false)]) :: hp1) a1 (Kd.age exprT ((n1, .cells [(.int .i64 op, false), (.int .i64 n0, false), (.str nm, false), (av, false)]) :: hp1) (nx + 1)) := by
    refine ⟨(hG1.trans hG2).push _, age_forest _ _ _, ⟨⟨hle, _, hget_same _ _ _, by show 4 ≤ 100; decide, fun j c t hj ht => ?_⟩, rfl, _, hget_same _ _ _, by show 0 + 4 ≤ 4; decide⟩, fun id cs hk hc => ?_, fun cs hc => ?_, by rw [hget_cons, if_neg (by omega)]; exact hrt⟩
    · have hj4 : j < 4 := (List.getElem?_eq_some_iff.1 hj).1
      have ht : (exprT.of 0).cs[j % 4]? = some t := ht
      rw [Nat.mod_eq_of_lt hj4] at ht
      match j with
      | 0 => cases hj; cases ht; exact .fr (Leaf.int _)
      | 1 => cases hj; cases ht; exact .fr (Leaf.int _)
      | 2 => cases hj; cases ht; exact .fr (Leaf.str _)
      | 3 => cases hj; cases ht; exact hT.keep (Nat.le_refl _) (Nat.le_refl _) fun i hi1 hi2 => by rw [hget_cons, if_neg (by omega)]
      | j + 4 => omega
    · obtain ⟨_, cs', q1, q2, _⟩ := hk
      rw [hc] at q1; cases q1; exact q2
    · rw [hget_same] at hc
      injection hc with e; injection e with e; rw [← e]; rfl
  have hne2 : ¬ s = n1 := by omega
  have hs3 : hget ((n1, ABlk.cells [(.int .i64 op, false), (.int .i64 n0, false), (.str nm, false), (av, false)]) :: hp1) s = some (strm l a1) := by rw [hget_cons, if_neg (by omega)]; exact hG2.strm hs2 (by omega)
  have hF := flip_R l a1 12 s ro (n1 + 1) _ ⟨by omega, by omega⟩ (by omega) hl hs3 hro
  have hro2 : ro ≤ n1 := by omega
  have hne3 : ¬ nx = n1 := by omega
  have hne4 : ¬ nx = s := by omega
  generalize hX : R K _ _ _ _ _ = x
  rw [R_tidy' K ro 4 _ nx hp [(5, [[], [], [], [3], [], [], [], [], [], [3], [3], [], []]), (18, [[], [], [], [], [4], [], [], [], [], [4], [], [], [], [], []])] Tryd.func4 rfl Tryd.ntmps4 Tryd.results4 (mu := [26]) rfl (by kernel_rfl) rfl rfl rfl] at hX; simp only [slim, slimO, annO, List.map, List.zip, List.zipWith, List.lookup, holed, Nat.reduceBEq] at hX
  simp [List.replicate, hP, hne, hR, hT1, hTu, hro1, hro2, hF, hne2, hne3] at hX
  by_cases h0 : nextF l a1 12 = 0
  · have hA2 := hA.next hs hsn (a1 + 1)
    rw [hset_cons, if_neg hne2] at hA2
    simp [h0] at hX
    generalize hb' : X K _ (.loop _) _ = r at hX
    have hk : ∃ tm' p' off' a', r = some (.exit 0, ⟨tm', n1 + 1, hset ((n1, ABlk.cells [(.int .i64 op, false), (.int .i64 n0, false), (.str nm, false), (av, false)]) :: hset hp1 s (strm l (a1 + 1))) s (strm l a')⟩) ∧ tm'.length = 90 ∧ getC tm' 0 = (.ptr s 0, false) ∧ getC tm' 2 = (.ptr nx 0, false) ∧ getC tm' 3 = (.ptr n1 0, false) ∧ getC tm' 4 = (.ptr p' off', false) ∧ a1 + 1 ≤ a' ∧ a' ≤ a1 + 1 + 2 * (n1 - nx + 1 : Nat) ∧
        AE l s nx hp n1 (n1 + 1) (hset ((n1, ABlk.cells [(.int .i64 op, false), (.int .i64 n0, false), (.str nm, false), (av, false)]) :: hset hp1 s (strm l (a1 + 1))) s (strm l a')) a' (Kd.age exprT ((n1, .cells [(.int .i64 op, false), (.int .i64 n0, false), (.str nm, false), (av, false)]) :: hp1) (nx + 1)) ∧ Pt (Kd.age exprT ((n1, .cells [(.int .i64 op, false), (.int .i64 n0, false), (.str nm, false), (av, false)]) :: hp1) (nx + 1)) (hset ((n1, ABlk.cells [(.int .i64 op, false), (.int .i64 n0, false), (.str nm, false), (av, false)]) :: hset hp1 s (strm l (a1 + 1))) s (strm l a')) p' off' := by
      rw [← hb']
      refine anExpr_walk l s ro nx hp n1 (n1 + 1) hl hro hsn a hs _ (n1 - nx + 1) n1 0 _ _ (a1 + 1) ?_ ?_ ?_ ?_ ?_ ?_ ?_ ?_ hA2 hA2.root
      · show n1 - (nx + 1) < _; omega
      all_goals first | omega | simp
    obtain ⟨tm', p', off', a2, rfl, t1, t2, t3, t4, t5, t6, t7, hA3, hp3⟩ := hk
    generalize hset ((n1, ABlk.cells [(.int .i64 op, false), (.int .i64 n0, false), (.str nm, false), (av, false)]) :: hset hp1 s (strm l (a1 + 1))) s (strm l a2) = h3 at *
    clear hb' hF hs3 hA2 hrt hT hA
    generalize Kd.age exprT _ _ = G at *
    have hs4 := hA3.gen.strm hs hsn
    have hN := next_R l a2 5 s ro (n1 + 1) h3 ⟨by omega, by omega⟩ (by omega) hl hs4 hro
    have hr5 := (nextF_range l a2 5).1 (by omega)
    simp [t1, t2, t3, t4, t5, hN] at hX
    have hpl := hA3.forest.lo p' 0 hp3.1
    have hps : ¬ p' = s := by omega
    have hpx : ¬ p' = nx := by omega
    have hxp : ¬ nx = p' := by omega
    have hns : ¬ n1 = s := by omega
    have hrop : ro ≤ p' := by omega
    have hs5 : hget (hset h3 s (strm l (a2 + 1))) s = some (strm l (a2 + 1)) := by simp [hs4]
    have hret3 := hA3.ret
    have lens : ∀ cs : List Cell, off' + 4 ≤ cs.length → off' + 1 ≤ cs.length ∧ off' + 1 + 1 ≤ cs.length ∧ off' + 2 + 1 ≤ cs.length ∧ off' + 3 + 1 ≤ cs.length := fun cs h => by omega
    by_cases c0 : nextF l a2 5 = 0
    · have hO := odd_R l (a2 + 1) 1 9 s ro (n1 + 1) _ ⟨by omega, by omega⟩ (by omega) (by omega) (by omega) hl hs5 hro
      rw [hset_hset, show a2 + 1 + 2 = a2 + 3 by omega] at hO
      have hA5 := hA3.next hs hsn (a2 + 3)
      have hp5 := hp3.next hA3 hsn (a2 + 3)
      obtain ⟨cs, o, nn, nm', v, f0, f1, f2, f3, hg, hlen, _, _, _, e3, hv⟩ := pt_cells hA5.forest hp5
      have hg' : hget h3 p' = some (.cells cs) := by simpa [hps] using hg
      have hA6 := hA5.put1 hp5 hg 0 (by omega) (t := .int) rfl (v := .int .i64 (oddF l (a2 + 1) 1 9).1) (f := false) (.fr (Leaf.int _))
      obtain ⟨o, nn, nm', v, g0, g1, g2, g3, w1, w2, w3, w4⟩ := hA6.done hB
      try simp only [Nat.add_zero] at w1 w4
      simp [c0, hO, hg', t1, t2, t3, t4, t5, hps, hpx, hxp, lens cs hlen, hrop, hret3, hne4, hro1, ↓w1, w2, w3] at hX
      obtain ⟨x', hx'⟩ := w4 [(.int .i64 o, false), (.int .i64 nn, false), (.str nm', false), (v, false)]
      subst hX
      exact ⟨x', a2 + 3, hx', by omega, by omega⟩
    by_cases c1 : nextF l a2 5 = 1
    · have hO := odd_R l (a2 + 1) 0 999 s ro (n1 + 1) _ ⟨by omega, by omega⟩ (by omega) (by omega) (by omega) hl hs5 hro
      rw [hset_hset, show a2 + 1 + 2 = a2 + 3 by omega] at hO
      have hA5 := hA3.next hs hsn (a2 + 3)
      have hp5 := hp3.next hA3 hsn (a2 + 3)
      obtain ⟨cs, o, nn, nm', v, f0, f1, f2, f3, hg, hlen, _, _, _, e3, hv⟩ := pt_cells hA5.forest hp5
      have hg' : hget h3 p' = some (.cells cs) := by simpa [hps] using hg
      have hA6 := hA5.put1 hp5 hg 1 (by omega) (t := .int) rfl (v := .int .i64 (oddF l (a2 + 1) 0 999).1) (f := false) (.fr (Leaf.int _))
      obtain ⟨o, nn, nm', v, g0, g1, g2, g3, w1, w2, w3, w4⟩ := hA6.done hB
      try simp only [Nat.add_zero] at w1 w4
      simp [c0, c1, hO, hg', t1, t2, t3, t4, t5, hps, hpx, hxp, lens cs hlen, hrop, hret3, hne4, hro1, ↓w1, w2, w3] at hX
      obtain ⟨x', hx'⟩ := w4 [(.int .i64 o, false), (.int .i64 nn, false), (.str nm', false), (v, false)]
      subst hX
      exact ⟨x', a2 + 3, hx', by omega, by omega⟩
    by_cases c2 : nextF l a2 5 = 2
    · obtain ⟨r40, h40⟩ := repeat_R ⟨#[97]⟩ 40 (by decide) ro (n1 + 1) (hset h3 s (strm l (a2 + 1)))
      obtain ⟨r41, h41⟩ := repeat_R ⟨#[97]⟩ 41 (by decide) ro (n1 + 1) (hset h3 s (strm l (a2 + 1)))
      have hO := some_R l (a2 + 1) [⟨#[]⟩, ⟨#[105, 102]⟩, ⟨#[120]⟩, ⟨#[65]⟩, r40, r41] s ro (n1 + 1) _ ⟨by omega, by omega⟩ (by simp) hl hs5 hro
      rw [hset_hset, show a2 + 1 + 1 = a2 + 2 by omega] at hO
      simp only [strs, List.map_cons, List.map_nil] at hO
      generalize hsm : someF l (a2 + 1) _ = sm at hO
      have hA5 := hA3.next hs hsn (a2 + 2)
      have hp5 := hp3.next hA3 hsn (a2 + 2)
      obtain ⟨cs, o, nn, nm', v, f0, f1, f2, f3, hg, hlen, _, _, _, e3, hv⟩ := pt_cells hA5.forest hp5
      have hg' : hget h3 p' = some (.cells cs) := by simpa [hps] using hg
      have hA6 := hA5.put1 hp5 hg 2 (by omega) (t := .str) rfl (v := .str sm) (f := false) (.fr (Leaf.str _))
      obtain ⟨o, nn, nm', v, g0, g1, g2, g3, w1, w2, w3, w4⟩ := hA6.done hB
      try simp only [Nat.add_zero] at w1 w4
      simp [c0, c1, c2, h40, h41, hO, hg', t1, t2, t3, t4, t5, hps, hpx, hxp, lens cs hlen, hrop, hret3, hne4, hro1, ↓w1, w2, w3] at hX
      obtain ⟨x', hx'⟩ := w4 [(.int .i64 o, false), (.int .i64 nn, false), (.str nm', false), (v, false)]
      subst hX
      exact ⟨x', a2 + 2, hx', by omega, by omega⟩
    by_cases c3 : nextF l a2 5 = 3
    · have hA5 := hA3.next hs hsn (a2 + 1)
      have hp5 := hp3.next hA3 hsn (a2 + 1)
      obtain ⟨cs, o, nn, nm', v, f0, f1, f2, f3, hg, hlen, _, _, _, e3, hv⟩ := pt_cells hA5.forest hp5
      have hg' : hget h3 p' = some (.cells cs) := by simpa [hps] using hg
      have he3 : cs[off' + 3]? = some (v, false) ∨ cs[off' + 3]? = some (v, true) := by cases f3 <;> simp [e3]
      rcases hv_row hv with rfl | ⟨id, m, len, cs', rfl, hk, hr, hgc, hlc⟩
      · have hA6 := hA5.put1 hp5 hg 3 (by omega) (t := .row 0) rfl (v := .lst []) (f := false) (.fr (Leaf.nil 0))
        obtain ⟨o, nn, nm', v, g0, g1, g2, g3, w1, w2, w3, w4⟩ := hA6.done hB
        have hw : IntKind.i64.wrap 0 = 0 := by decide
        obtain ⟨x', hx'⟩ := w4 [(.int .i64 o, false), (.int .i64 nn, false), (.str nm', false), (v, false)]
        refine ⟨x', a2 + 1, ?_, by omega, by omega⟩
        rw [← hX, ← hx']
        rcases he3 with he3 | he3 <;> simp [c0, c1, c2, c3, hg', he3, hw, t1, t2, t3, t4, t5, hps, hpx, hxp, lens cs hlen, hrop, hret3, hne4, hro1, ↓w1, w2, w3]
      · have hl100 := hA5.small id cs' hk hgc
        obtain ⟨q, hw, hle2⟩ : ∃ q : Nat, IntKind.i64.wrap ((len : Int) / 2) = q ∧ q ≤ len := ⟨len / 2, by
          have hq : (len : Int) / 2 = ((len / 2 : Nat) : Int) := by omega
          rw [hq]; exact wrap_small (by omega) (by omega), by omega⟩
        have hA6 := hA5.put1 hp5 hg 3 (by omega) (t := .row 0) rfl (v := .sl id (m * 4) q 4 true) (f := false) (.sl 0 id m q cs' hk hr hgc (by show (m + q) * 4 ≤ _; omega))
        obtain ⟨o, nn, nm', v, g0, g1, g2, g3, w1, w2, w3, w4⟩ := hA6.done hB
        obtain ⟨x', hx'⟩ := w4 [(.int .i64 o, false), (.int .i64 nn, false), (.str nm', false), (v, false)]
        refine ⟨x', a2 + 1, ?_, by omega, by omega⟩
        rw [← hX, ← hx']
        rcases he3 with he3 | he3 <;> simp [c0, c1, c2, c3, hg', he3, hw, hle2, t1, t2, t3, t4, t5, hps, hpx, hxp, lens cs hlen, hrop, hret3, hne4, hro1, ↓w1, w2, w3]
    · have hRg := range_R l (a2 + 1) 1 4 s ro (n1 + 1) _ ⟨by omega, by omega⟩ (by omega) (by omega) (by omega) hl hs5 hro
      rw [hset_hset, show a2 + 1 + 1 = a2 + 2 by omega] at hRg
      have hrr := (nextF_range l (a2 + 1) (4 - 1 + 1)).1 (by omega)
      generalize hw0 : 1 + nextF l (a2 + 1) (4 - 1 + 1) = w at hRg
      have hA5 := hA3.next hs hsn (a2 + 2)
      have hp5 := hp3.next hA3 hsn (a2 + 2)
      have hw : IntKind.i64.wrap (20 - w) = 20 - w := wrap_small (by omega) (by omega)
      simp [c0, c1, c2, c3, hRg, hw, t1, t2, t3, t4, t5] at hX
      generalize hb2 : X K _ (.loop _) _ = r at hX
      have hk : ∃ tm' n' hp' G', r = some (.exit 3, ⟨tm', n', hp'⟩) ∧ tm'.length = 90 ∧ getC tm' 2 = (.ptr nx 0, false) ∧ getC tm' 3 = (.ptr n1 0, false) ∧ AE l s nx hp n1 n' hp' (a2 + 2) G' := by
        rw [← hb2]
        refine anExpr_wrap l s ro nx hp n1 hro1 (20 - w) (by omega) p' off' (a2 + 2) (20 - w).toNat 0 _ _ _ G (by omega) (by omega) ?_ ?_ ?_ ?_ ?_ ?_ hA5 hp5
        all_goals simp [t1, t3, t4, t5]
      obtain ⟨tm2, n2, hp2, G2, rfl, u1, u2, u3, hA6⟩ := hk
      obtain ⟨o, nn, nm', v, g0, g1, g2, g3, w1, w2, w3, w4⟩ := hA6.done hB
      obtain ⟨x', hx'⟩ := w4 [(.int .i64 o, false), (.int .i64 nn, false), (.str nm', false), (v, false)]
      refine ⟨x', a2 + 2, ?_, by omega, by omega⟩
      have hret2 := hA6.ret
      rw [← hX, ← hx']
      simp [u1, u2, u3, hret2, hro1, w1, w2, w3]
  · have hA2 := hA.next hs hsn (a1 + 1)
    obtain ⟨o, nn, nm', v, f0, f1, f2, f3, w1, w2, w3, w4⟩ := hA2.done hB
    rw [hset_cons, if_neg hne2] at w1 w4
    simp [h0, w1, w2, w3, hne3, hne4, hrt, hro1] at hX
    obtain ⟨x', hx'⟩ := w4 [(.int .i64 o, false), (.int .i64 nn, false), (.str nm', false), (v, false)]
    simp [hne3, hset_cons] at hx'
    subst hX
    exact ⟨x', a1 + 1, hx', by omega, by omega⟩
end Go.Proofs.YtleimfinniclgaaDoor.M
