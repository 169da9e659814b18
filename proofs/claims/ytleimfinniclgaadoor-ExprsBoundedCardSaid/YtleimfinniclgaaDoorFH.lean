/- The reference's bounds. -/
import Derived.Test.YtleimfinniclgaaDoorFG
namespace Go.Proofs.YtleimfinniclgaaDoor.M
open Go.Proofs Go.Proofs.YtleimfinniclgaaDoor.X
set_option linter.unusedSimpArgs false
set_option linter.unusedVariables false
set_option maxRecDepth 100000
set_option pp.deepTerms false
set_option pp.deepTerms.threshold 6
set_option maxHeartbeats 4000000
def LoopR (hp0 : Heap) (nx0 : Nat) (c2 c4 : Cell) (l : List IP) (r : Option (AExit × St)) : Prop := ∃ s, r = some (.exit 1, s) ∧ s.tm.length = 208 ∧ getC s.tm 6 = (.lst (encBs l), true) ∧ getC s.tm 2 = c2 ∧ getC s.tm 4 = c4 ∧ nx0 ≤ s.nx ∧ ∀ id, id < nx0 → hget s.hp id = hget hp0 id
theorem LoopR.pre {hp hp1 : Heap} {nx nx1 : Nat} {c d c' d' : Cell} {l : List IP} {r : Option (AExit × St)} (h : LoopR hp1 nx1 c' d' l r) (h2 : c' = c) (h4 : d' = d) (hn : nx ≤ nx1) (hg : ∀ id, id < nx → hget hp1 id = hget hp id) : LoopR hp nx c d l r := by
  obtain ⟨s, r1, r2, r3, r4, r5, r6, r7⟩ := h
  exact ⟨s, r1, r2, r3, r4.trans h2, r5.trans h4, by omega, fun id hid => (r7 id (by omega)).trans (hg id hid)⟩
theorem bof_loop (xs : List Sp) (es : List Ex) (hl : es.length < 1000) (ih : ∀ x ∈ es, ∀ ro nx hp, R K 26 [encX x, .lst (encSs xs)] ro nx hp = some ⟨encB (bX xs x), false, nx, hp⟩) :
    ∀ (n k : Nat) (tm : List Cell) (nx : Nat) (hp : Heap), n + k = es.length → tm.length = 208 → getC tm 1 = (.lst (encSs xs), false) → getC tm 41 = (.lst (encXs es), false) → getC tm 42 = (.int .i64 es.length, false) → getC tm 43 = (.int .i64 k, false) → getC tm 6 = (.lst (encBs (bXs xs (es.take k))), true) →
    LoopR hp nx (getC tm 2) (getC tm 4) (bXs xs es) (X K ⟨0, []⟩ (.loop (LB Tryd.prog 26 [(15, [[], [], [2], [], [], [], [], [], [8], [2, 8], [2, 8], [8], []])] 0)) ⟨tm, nx, hp⟩) := by
  have e := LB_open (P := Tryd.prog) [(15, [[], [], [2], [], [], [], [], [], [8], [2, 8], [2, 8], [8], []])] 0 Tryd.func26 rfl rfl (by kernel_rfl)
  simp only [slim, slimO, annO, List.map, List.zip, List.zipWith, List.lookup, holed, loopsOf, List.nil_append, List.cons_append, List.getD_cons_zero, List.getD_cons_succ, Nat.reduceBEq] at e
  intro n
  induction n with
  | zero =>
    intro k tm nx hp hk ht h1 h41 h42 h43 h6
    rw [Y_loop_eq _ _ e]
    clear e
    have hkl : ¬ (k : Int) < es.length := by omega
    rw [List.take_of_length_le (by omega)] at h6
    generalize hb : X K _ _ _ = r
    simp [ht, h41, h42, h43, hkl] at hb
    subst hb
    exact ⟨_, rfl, by simp [ht], by simp [h6], by simp, by simp, Nat.le_refl _, fun _ _ => rfl⟩
  | succ n ihn =>
    intro k tm nx hp hk ht h1 h41 h42 h43 h6
    have hx := List.getElem?_eq_getElem (l := es) (i := k) (by omega)
    rw [Y_loop_eq _ _ e]
    clear e
    have htk : bXs xs (es.take (k + 1)) = bXs xs (es.take k) ++ [bX xs es[k]] := by
      rw [List.take_add_one, hx, bXs_eq, bXs_eq, List.map_append]; rfl
    generalize es[k] = x at hx htk
    have hkl : (k : Int) < es.length := by omega
    have hxe := encXs_at hx
    have hw2 : IntKind.i64.wrap ((k : Int) + 1) = (k : Int) + 1 := wrap_small (by omega) (by omega)
    have hxm := ih x (List.mem_of_getElem? hx)
    rw [encX_eq] at hxm hxe
    have hlen : (bXs xs (es.take k)).length < 1000 := by rw [bXs_eq, List.length_map, List.length_take]; omega
    have hlen : ((bXs xs (es.take k)).length + 1) * 16 ≤ 140737488355328 := by omega
    generalize hb : X K _ _ _ = r
    simp [ht, h1, h41, h42, h43, h6, hkl, hxe, hw2, hxm, hlen] at hb
    subst hb
    rw [XK_normal]
    refine LoopR.pre (ihn (k + 1) _ (nx + 1) _ ?_ ?_ ?_ ?_ ?_ ?_ ?_) ?_ ?_ ?_ ?_
    rotate_right
    · intro id hid
      have q1 : ¬ nx = id := by omega
      have q2 : ¬ id = nx := by omega
      simp [q1, q2]
    all_goals first | omega | simp [ht, h1, h41, h42, htk]
@[simp] theorem wrap_0 : IntKind.i64.wrap 0 = 0 := by decide
@[simp] theorem wrap_1 : IntKind.i64.wrap 1 = 1 := by decide
@[simp] theorem wrap_2 : IntKind.i64.wrap 2 = 2 := by decide
theorem aeqI (a b : Int) : (a == b) = decide (a = b) := rfl
theorem bof_R {xs : List Sp} (hxs : xs.length ≤ 2000) (h : ∀ x ∈ xs, OkB (x.low, x.high)) : ∀ (N : Nat) (x : Ex) (d : Int), SizeOf.sizeOf x < N → exF x d = 0 → ∀ (ro nx : Nat) (hp : Heap), R K 26 [encX x, .lst (encSs xs)] ro nx hp = some ⟨encB (bX xs x), false, nx, hp⟩ := by
  intro N
  induction N with
  | zero => intro x d hx; omega
  | succ N ih =>
    intro x d hx hf ro nx hp
    obtain ⟨h1, h2⟩ := exF_zero hf
    obtain ⟨q1, q2, q3, q4, q5, q6, q7, q8, q9⟩ := own_zero h1
    have hall := anything_R
    simp only [encB] at hall
    by_cases c1 : x.op = 1
    · rw [bX_eq, if_pos c1]
      rw [R_val' K ro 26 _ nx hp [(15, [[], [], [2], [], [], [], [], [], [8], [2, 8], [2, 8], [8], []])] Tryd.func26 rfl Tryd.ntmps26 Tryd.results26 (mu := []) rfl (by kernel_rfl) rfl rfl]; simp only [slim, slimO, annO, List.map, List.zip, List.zipWith, List.lookup, holed, Nat.reduceBEq]
      simp [List.replicate, encX_eq, encXs_len, c1, encB]
    · by_cases c2 : x.op = 2
      · rw [bX_eq, if_neg c1, if_pos c2]
        have hix := fun ro nx hp hlt hg => ix_R xs hxs x 0 ro nx hp hlt hg
        rw [c2] at hix
        have hsp := ixGo_spec xs x.name xs.length 0 (by omega)
        rw [List.drop_zero] at hsp
        rw [R_val' K ro 26 _ nx hp [(15, [[], [], [2], [], [], [], [], [], [8], [2, 8], [2, 8], [8], []])] Tryd.func26 rfl Tryd.ntmps26 Tryd.results26 (mu := []) rfl (by kernel_rfl) rfl rfl]; simp only [slim, slimO, annO, List.map, List.zip, List.zipWith, List.lookup, holed, Nat.reduceBEq]
        rcases hsp with ⟨g1, g2⟩ | ⟨j, y, g1, g2, g3⟩
        · rw [g2]
          rw [g1] at hix
          simp [List.replicate, encX_eq, encXs_len, c1, c2, encB, hall, hix]
        · rw [g3]
          rw [g1] at hix
          have hye := encSs_at g2
          simp only [encS] at hye
          have hj := (List.getElem?_eq_some_iff.1 g2).1
          have hje : (encSs xs)[j]'(by simpa using hj) = .agg [.str y.name, .int .i64 y.low, .int .i64 y.high] := by
            have := (List.getElem?_eq_some_iff.1 hye).2
            exact this
          simp [List.replicate, encX_eq, encXs_len, c1, c2, encB, hall, hix, hye, hj, hje]
      · rw [bX_eq, if_neg c1, if_neg c2]
        have hloop : ∀ (tm : List Cell) (nx' : Nat) (hp' : Heap), tm.length = 208 → getC tm 1 = (.lst (encSs xs), false) → getC tm 41 = (.lst (encXs x.args), false) → getC tm 42 = (.int .i64 x.args.length, false) → getC tm 43 = (.int .i64 0, false) → getC tm 6 = (.lst [], true) →
            LoopR hp' nx' (getC tm 2) (getC tm 4) (bXs xs x.args) (X K ⟨0, []⟩ (.loop (LB Tryd.prog 26 [(15, [[], [], [2], [], [], [], [], [], [8], [2, 8], [2, 8], [8], []])] 0)) ⟨tm, nx', hp'⟩) := fun tm nx' hp' g3 g4 g5 g6 g7 g8 => by
          have h3 := arity_le x.op
          exact bof_loop xs x.args (by omega) (fun y hy ro2 nx2 hp2 => ih y (d + 1) (by have := args_lt hy; omega) (exsF_mem h2 y hy) ro2 nx2 hp2) x.args.length 0 tm nx' hp' rfl g3 g4 g5 g6 g7 (by rw [List.take_zero]; exact g8)
        rw [R_val' K ro 26 _ nx hp [(15, [[], [], [2], [], [], [], [], [], [8], [2, 8], [2, 8], [8], []])] Tryd.func26 rfl Tryd.ntmps26 Tryd.results26 (mu := []) rfl (by kernel_rfl) rfl rfl]; simp only [slim, slimO, annO, List.map, List.zip, List.zipWith, List.lookup, holed, Nat.reduceBEq]
        simp [List.replicate, encX_eq, encXs_len, c1, c2]
        generalize hb : X K _ (.loop _) _ = r
        have hk : LoopR [(1, .cells [(.int .i64 0, false), (.int .i64 0, false)]), (0, .cells [(.int .i64 x.op, false), (.int .i64 x.n, false), (.str x.name, false), (.lst (encXs x.args), false)])] 2 (.ptr 0 0, false) (.ptr 1 0, false) (bXs xs x.args) r := by
          rw [← hb]
          exact hloop _ _ _ (by simp) (by simp) (by simp) (by simp) (by simp) (by simp)
        obtain ⟨⟨tm', nx', hp'⟩, rfl, g1, g2, g3, g4, g5, g6⟩ := hk
        simp only at g1 g2 g3 g4 g5 g6
        have g7 := g6 0 (by omega)
        have g8 := g6 1 (by omega)
        simp at g7 g8
        clear hb g6 hloop ih
        have hok : ∀ y ∈ bXs xs x.args, OkB y := by
          intro y hy
          rw [bXs_eq] at hy
          obtain ⟨z, hz, rfl⟩ := List.mem_map.1 hy
          exact bX_ok h _ z (d + 1) (Nat.lt_succ_self _) (exsF_mem h2 z hz)
        have hlen : ((bXs xs x.args).length : Int) = arityF x.op := by rw [bXs_eq, List.length_map]; exact q4
        generalize bXs xs x.args = ys at hok hlen g2
        have n0 : ¬ nx' = 0 := by omega
        have n0' : ¬ 0 = nx' := by omega
        have n1 : ¬ nx' = 1 := by omega
        have n1' : ¬ 1 = nx' := by omega
        have n2 : ¬ nx' + 1 = 0 := by omega
        have n3 : ¬ nx' + 1 = 1 := by omega
        have n3' : ¬ 1 = nx' + 1 := by omega
        have h37 : x.op = 8 ∨ x.op = 9 ∨ (3 ≤ x.op ∧ x.op ≤ 7) := by omega
        rcases h37 with c | c | c
        · rw [c] at hlen g7 ⊢
          match ys, hlen with
          | [e1], _ =>
            obtain ⟨p1, p2, p3⟩ := hok e1 (by simp)
            simp only [encBs, List.map_cons, List.map_nil, encB] at g2
            have hf : appB 8 [e1] = (tr (e1.2 == 0), tr (e1.1 == 0)) := by
              show bndF 8 e1 e1 e1 = _
              unfold bndF tr; grind
            rw [hf]
            simp [g1, g2, g3, g4, g7, g8, n0, n0', n1, n1', n2, n3, n3', encB, List.lookup, stayB]
          | [], hl => simp [arityF] at hl
          | _ :: _ :: _, hl => simp [arityF] at hl; omega
        · rw [c] at hlen g7 ⊢
          match ys, hlen with
          | [e1, e2, e3], _ =>
            simp only [encBs, List.map_cons, List.map_nil, encB] at g2
            have hf : appB 9 [e1, e2, e3] = if 0 < e1.1 then e2 else if e1.2 = 0 then e3 else (min e2.1 e3.1, max e2.2 e3.2) := rfl
            rw [hf]
            have hmin : amin (.int .i64 e2.1) (.int .i64 e3.1) = some (.int .i64 (min e2.1 e3.1)) := by
              simp only [amin]; split <;> (congr 2; omega)
            have hmax : amax (.int .i64 e2.2) (.int .i64 e3.2) = some (.int .i64 (max e2.2 e3.2)) := by
              simp only [amax]; split <;> (congr 2; omega)
            by_cases k1 : 0 < e1.1
            · simp [g1, g2, g3, g4, g7, g8, n0, n0', n1, n1', n2, n3, n3', encB, List.lookup, stayB, k1]
            · by_cases k2 : e1.2 = 0
              · simp [g1, g2, g3, g4, g7, g8, n0, n0', n1, n1', n2, n3, n3', encB, List.lookup, stayB, k1, k2]
              · simp [g1, g2, g3, g4, g7, g8, n0, n0', n1, n1', n2, n3, n3', encB, List.lookup, stayB, k1, k2, hmin, hmax]
          | [], hl => simp [arityF] at hl
          | [_], hl => simp [arityF] at hl
          | [_, _], hl => simp [arityF] at hl
          | _ :: _ :: _ :: _ :: _, hl => simp [arityF] at hl; omega
        · have ha2 : arityF x.op = 2 := by unfold arityF; grind
          rw [ha2] at hlen
          match ys, hlen with
          | [], hl => simp at hl
          | [_], hl => simp at hl
          | _ :: _ :: _ :: _, hl => simp at hl; omega
          | [e1, e2], _ =>
            obtain ⟨x1, x2, x3⟩ := hok e1 (by simp)
            obtain ⟨y1, y2, y3⟩ := hok e2 (by simp)
            have hwr := wrapped_R
            simp only [encB] at hwr
            have m1 := mul_small (a := e1.2) (b := e2.2) (by omega) (by omega) (by omega) (by omega)
            have m2 := mul_small (a := e1.1) (b := e2.1) (by omega) (by omega) (by omega) (by omega)
            have w1 : IntKind.i64.wrap (e1.1 + e2.1) = e1.1 + e2.1 := wrap_small (by omega) (by omega)
            have w2 : IntKind.i64.wrap (e1.2 + e2.2) = e1.2 + e2.2 := wrap_small (by omega) (by omega)
            have w3 : IntKind.i64.wrap (e1.1 - e2.2) = e1.1 - e2.2 := wrap_small (by omega) (by omega)
            have w4 : IntKind.i64.wrap (e1.2 - e2.1) = e1.2 - e2.1 := wrap_small (by omega) (by omega)
            have w5 : IntKind.i64.wrap (e1.2 * e2.2) = e1.2 * e2.2 := wrap_small (by omega) (by omega)
            have w6 : IntKind.i64.wrap (e1.1 * e2.1) = e1.1 * e2.1 := wrap_small (by omega) (by omega)
            have hwa := fun ro nx hp => hwr (e1.1 + e2.1) (e1.2 + e2.2) (by omega) ro nx hp
            have hwb := fun ro nx hp => hwr (e1.1 - e2.2) (e1.2 - e2.1) (by omega) ro nx hp
            simp only [encBs, List.map_cons, List.map_nil, encB] at g2
            have h5 : x.op = 3 ∨ x.op = 4 ∨ x.op = 5 ∨ x.op = 6 ∨ x.op = 7 := by omega
            rcases h5 with c5 | c5 | c5 | c5 | c5
            · rw [c5] at g7 ⊢
              rw [show appB 3 [e1, e2] = wrapB (e1.1 + e2.1) (e1.2 + e2.2) from rfl]
              simp [g1, g2, g3, g4, g7, g8, n0, n0', n1, n1', n2, n3, n3', encB, List.lookup, stayB, w1, w2, hwa]
            · rw [c5] at g7 ⊢
              rw [show appB 4 [e1, e2] = wrapB (e1.1 - e2.2) (e1.2 - e2.1) from rfl]
              simp [g1, g2, g3, g4, g7, g8, n0, n0', n1, n1', n2, n3, n3', encB, List.lookup, stayB, w3, w4, hwb]
            · rw [c5] at g7 ⊢
              rw [show appB 5 [e1, e2] = if 999 < e1.2 * e2.2 then (0, 999) else (e1.1 * e2.1, e1.2 * e2.2) from rfl]
              by_cases k1 : 999 < e1.2 * e2.2
              · simp [g1, g2, g3, g4, g7, g8, n0, n0', n1, n1', n2, n3, n3', encB, List.lookup, stayB, w5, w6, k1, hall]
              · simp [g1, g2, g3, g4, g7, g8, n0, n0', n1, n1', n2, n3, n3', encB, List.lookup, stayB, w5, w6, k1, hall]
            · rw [c5] at g7 ⊢
              rw [show appB 6 [e1, e2] = (tr (decide (e1.2 < e2.1)), tr (decide (e1.1 < e2.2))) from rfl]
              simp [g1, g2, g3, g4, g7, g8, n0, n0', n1, n1', n2, n3, n3', encB, List.lookup, stayB]
            · rw [c5] at g7 ⊢
              have hf : appB 7 [e1, e2] = (tr ((e1.1 == e1.2 && e2.1 == e2.2) && e1.1 == e2.1), tr (!(decide (e1.2 < e2.1) || decide (e2.2 < e1.1)))) := by
                show bndF 7 e1 e2 e2 = _
                unfold bndF tr; grind
              rw [hf]
              by_cases k1 : e1.2 < e2.1 <;> cases k2 : (e1.1 == e1.2) <;> cases k3 : (e2.1 == e2.2) <;>
                simp [g1, g2, g3, g4, g7, g8, n0, n0', n1, n1', n2, n3, n3', encB, List.lookup, stayB, k1, k2, k3]
end Go.Proofs.YtleimfinniclgaaDoor.M
