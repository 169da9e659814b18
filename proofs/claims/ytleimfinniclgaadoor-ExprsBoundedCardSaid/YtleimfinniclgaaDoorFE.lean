/- value.bounds, value.Bounds: a map. -/
import Derived.Test.YtleimfinniclgaaDoorFD
namespace Go.Proofs.YtleimfinniclgaaDoor.M
open Go.Proofs Go.Proofs.YtleimfinniclgaaDoor.X
set_option linter.unusedSimpArgs false
set_option linter.unusedVariables false
set_option maxRecDepth 100000
set_option pp.deepTerms false
set_option pp.deepTerms.threshold 6
set_option maxHeartbeats 4000000
@[simp] theorem encB_flat (x : IP) : (encB x).flat = [.int .i64 x.1, .int .i64 x.2] := rfl
@[simp] theorem encB_ids (n : Nat) (x : IP) : (encB x).idsLt n = true := by simp [encB]
@[simp] theorem encBs_ids (n : Nat) (l : List IP) : idsLts n (encBs l) = true := by
  induction l with
  | nil => rfl
  | cons x r ih => simp only [encBs, List.map_cons] at ih ⊢; simp [ih]
@[simp] theorem encBs_len (l : List IP) : (encBs l).length = l.length := by simp [encBs]
@[simp] theorem encBs_head (l : List IP) : headOk (encBs l) 2 = true := by cases l <;> rfl
@[simp] theorem encBs_app (l : List IP) (x : IP) : encBs l ++ [encB x] = encBs (l ++ [x]) := by simp [encBs]
@[simp] theorem le_2 (n : Nat) : n ≤ n + 1 + 1 := by omega
@[simp] theorem le_3 (n : Nat) : n ≤ n + 1 + 1 + 1 := by omega
@[simp] theorem le_4 (n : Nat) : n ≤ n + 1 + 1 + 1 + 1 := by omega
@[simp] theorem le_5 (n : Nat) : n ≤ n + 1 + 1 + 1 + 1 + 1 := by omega
def mapOf (l : List Sp) : List (AVal × AVal) := l.map fun x => (.str x.name, encB (x.low, x.high))
def hasB : List Sp → ByteArray → Bool
  | [], _ => false
  | x :: r, s => (s.toList == x.name.toList) || hasB r s
theorem hasB_not {l : List Sp} {s : ByteArray} (h : hasB l s = false) : lookB l s = (0, 999) := by
  induction l with
  | nil => rfl
  | cons x r ih =>
    simp only [hasB, Bool.or_eq_false_iff] at h
    rw [lookB, if_neg (by rw [h.1]; decide), ih h.2]
theorem afind_map (s : ByteArray) : ∀ (l : List Sp) (i : Nat), ∃ j, afind (.str s) (mapOf l) i = some (if hasB l s then some (j, encB (lookB l s)) else none) := by
  intro l
  induction l with
  | nil => intro i; exact ⟨0, rfl⟩
  | cons x r ih =>
    intro i
    obtain ⟨j, h⟩ := ih (i + 1)
    cases c : (s.toList == x.name.toList)
    · refine ⟨j, ?_⟩
      show (match akeq (.str s) (.str x.name) with | some true => _ | some false => afind (.str s) (mapOf r) (i + 1) | none => none) = _
      simp only [akeq, c, h, hasB, lookB, Bool.false_or]
      rfl
    · refine ⟨i, ?_⟩
      show (match akeq (.str s) (.str x.name) with | some true => some (some (i, encB (x.low, x.high))) | some false => afind (.str s) (mapOf r) (i + 1) | none => none) = _
      simp only [akeq, c, hasB, lookB, Bool.true_or, if_true]
theorem azeroB : azero Tryd.prog 56 = some (encB (0, 0)) := by kernel_rfl
theorem akeyS : ∀ s, akey Tryd.prog 9 (.str s) = true := fun _ => rfl
theorem alook_map {l : List Sp} {m : Nat} {hp : Heap} (h : hget hp m = some (.map (mapOf l))) (s : ByteArray) : alookup Tryd.prog 54 (.map m) (.str s) true hp = some (.tup [encB (if hasB l s then lookB l s else (0, 0)), .bool (hasB l s)]) := by
  obtain ⟨j, hf⟩ := afind_map s l 0
  unfold alookup
  rw [show (Tryd.prog).underlying 54 = some (.map 9 56) from by kernel_rfl]
  dsimp only
  rw [if_pos (akeyS s), h]
  dsimp only
  rw [hf]
  cases c : hasB l s
  · simp only [if_neg (Bool.false_ne_true)]
    rw [azeroB]; rfl
  · rfl
def LoopB (hp0 : Heap) (nx0 : Nat) (c2 c4 : Cell) (l : List IP) (r : Option (AExit × St)) : Prop := ∃ s, r = some (.exit 1, s) ∧ s.tm.length = 49 ∧ getC s.tm 7 = (.lst (encBs l), true) ∧ getC s.tm 2 = c2 ∧ getC s.tm 4 = c4 ∧ nx0 ≤ s.nx ∧ ∀ id, id < nx0 → hget s.hp id = hget hp0 id
theorem LoopB.pre {hp hp1 : Heap} {nx nx1 : Nat} {c d c' d' : Cell} {l : List IP} {r : Option (AExit × St)} (h : LoopB hp1 nx1 c' d' l r) (h2 : c' = c) (h4 : d' = d) (hn : nx ≤ nx1) (hg : ∀ id, id < nx → hget hp1 id = hget hp id) : LoopB hp nx c d l r := by
  obtain ⟨s, r1, r2, r3, r4, r5, r6, r7⟩ := h
  exact ⟨s, r1, r2, r3, r4.trans h2, r5.trans h4, by omega, fun id hid => (r7 id (by omega)).trans (hg id hid)⟩
theorem vbounds_loop (l : List Sp) (m lo : Nat) (hm : m < lo) (es : List Ex) (hl : es.length < 1000) (ih : ∀ x ∈ es, ∀ ro nx hp, m < nx → hget hp m = some (.map (mapOf l)) → R K 22 [encX x, .map m] ro nx hp = some ⟨encB (bX l x), false, nx, hp⟩) :
    ∀ (n k : Nat) (tm : List Cell) (nx : Nat) (hp : Heap), n + k = es.length → lo ≤ nx → hget hp m = some (.map (mapOf l)) → tm.length = 49 → getC tm 1 = (.map m, false) → getC tm 32 = (.lst (encXs es), false) → getC tm 33 = (.int .i64 es.length, false) → getC tm 34 = (.int .i64 k, false) → getC tm 7 = (.lst (encBs (bXs l (es.take k))), true) →
    LoopB hp nx (getC tm 2) (getC tm 4) (bXs l es) (X K ⟨lo, []⟩ (.loop (LB Tryd.prog 22 [] 0)) ⟨tm, nx, hp⟩) := by
  have e := LB_open (P := Tryd.prog) [] 0 Tryd.func22 rfl rfl (by kernel_rfl)
  simp only [slim, slimO, annO, List.map, List.zip, List.zipWith, List.lookup, holed, loopsOf, List.nil_append, List.cons_append, List.getD_cons_zero, List.getD_cons_succ, Nat.reduceBEq] at e
  intro n
  induction n with
  | zero =>
    intro k tm nx hp hk hnx hh ht h1 h32 h33 h34 h7
    rw [Y_loop_eq _ _ e]
    clear e
    have hkl : ¬ (k : Int) < es.length := by omega
    rw [List.take_of_length_le (by omega)] at h7
    generalize hb : X K _ _ _ = r
    simp [ht, h32, h33, h34, hkl] at hb
    subst hb
    exact ⟨_, rfl, by simp [ht], by simp [h7], by simp, by simp, Nat.le_refl _, fun _ _ => rfl⟩
  | succ n ihn =>
    intro k tm nx hp hk hnx hh ht h1 h32 h33 h34 h7
    have hx := List.getElem?_eq_getElem (l := es) (i := k) (by omega)
    rw [Y_loop_eq _ _ e]
    clear e
    have htk : bXs l (es.take (k + 1)) = bXs l (es.take k) ++ [bX l es[k]] := by
      rw [List.take_add_one, hx, bXs_eq, bXs_eq, List.map_append]; rfl
    generalize es[k] = x at hx htk
    have hkl : (k : Int) < es.length := by omega
    have hxe := encXs_at hx
    have hw2 : IntKind.i64.wrap ((k : Int) + 1) = (k : Int) + 1 := wrap_small (by omega) (by omega)
    have hxm := ih x (List.mem_of_getElem? hx)
    rw [encX_eq] at hxm hxe
    have hmn : m < nx + 1 := by omega
    have hmne : ¬ nx = m := by omega
    have hmne' : ¬ m = nx := by omega
    have hlen : (bXs l (es.take k)).length < 1000 := by rw [bXs_eq, List.length_map, List.length_take]; omega
    have hlen : ((bXs l (es.take k)).length + 1) * 16 ≤ 140737488355328 := by omega
    generalize hb : X K _ _ _ = r
    simp [ht, h1, h32, h33, h34, h7, hkl, hxe, hw2, hnx, hmn, hmne, hmne', hh, hxm, hlen] at hb
    subst hb
    rw [XK_normal]
    refine LoopB.pre (ihn (k + 1) _ (nx + 1) _ ?_ ?_ ?_ ?_ ?_ ?_ ?_ ?_ ?_) ?_ ?_ ?_ ?_
    rotate_right
    · intro id hid
      have q1 : ¬ nx = id := by omega
      have q2 : ¬ id = nx := by omega
      simp [q1, q2]
    all_goals first | omega | simp [ht, h1, h32, h33, htk, hh, hmne, hmne']
theorem lookB_ok {l : List Sp} (h : ∀ x ∈ l, OkB (x.low, x.high)) (s : ByteArray) : OkB (lookB l s) := by
  induction l with
  | nil => simp [lookB, OkB]
  | cons x r ih =>
    rw [lookB]
    split
    · exact h x (List.mem_cons_self ..)
    · exact ih fun y hy => h y (List.mem_cons_of_mem _ hy)
theorem appB_ok {op : Int} {es : List IP} (h : ∀ x ∈ es, OkB x) : OkB (appB op es) := by
  unfold appB
  split
  · exact bndF_ok (h _ (by simp)) (h _ (by simp)) (h _ (by simp))
  · exact bndF_ok (h _ (by simp)) (h _ (by simp)) (h _ (by simp))
  · exact bndF_ok (h _ (by simp)) (h _ (by simp)) (h _ (by simp))
  · exact ⟨by decide, by decide, by decide⟩
theorem bX_ok {l : List Sp} (h : ∀ x ∈ l, OkB (x.low, x.high)) : ∀ (N : Nat) (x : Ex) (d : Int), SizeOf.sizeOf x < N → exF x d = 0 → OkB (bX l x) := by
  intro N
  induction N with
  | zero => intro x d hx; omega
  | succ N ih =>
    intro x d hx hf
    obtain ⟨h1, h2⟩ := exF_zero hf
    obtain ⟨q1, q2, q3, q4, q5, q6, q7, q8, q9⟩ := own_zero h1
    rw [bX_eq]
    split
    · exact ⟨q6, Int.le_refl _, q7⟩
    · split
      · exact lookB_ok h _
      · apply appB_ok
        intro y hy
        rw [bXs_eq] at hy
        obtain ⟨z, hz, rfl⟩ := List.mem_map.1 hy
        exact ih z (d + 1) (by have := args_lt hz; omega) (exsF_mem h2 z hz)
theorem vbounds_R {l : List Sp} (h : ∀ x ∈ l, OkB (x.low, x.high)) (m : Nat) : ∀ (N : Nat) (x : Ex) (d : Int), SizeOf.sizeOf x < N → exF x d = 0 → ∀ (ro nx : Nat) (hp : Heap), m < nx → hget hp m = some (.map (mapOf l)) → R K 22 [encX x, .map m] ro nx hp = some ⟨encB (bX l x), false, nx, hp⟩ := by
  intro N
  induction N with
  | zero => intro x d hx; omega
  | succ N ih =>
    intro x d hx hf ro nx hp hm hh
    obtain ⟨h1, h2⟩ := exF_zero hf
    obtain ⟨q1, q2, q3, q4, q5, q6, q7, q8, q9⟩ := own_zero h1
    have hla := fun hp (h : hget hp m = some (.map (mapOf l))) => alook_map h x.name
    simp only [encB] at hla
    have hall := all_R
    simp only [encB] at hall
    have hnm : ¬ nx = m := by omega
    have hnm' : ¬ m = nx := by omega
    have hnm1 : ¬ nx + 1 = m := by omega
    have hnm1' : ¬ m = nx + 1 := by omega
    by_cases c1 : x.op = 1
    · rw [bX_eq, if_pos c1]
      rw [R_pure' K ro 22 _ nx hp [] Tryd.func22 rfl Tryd.ntmps22 Tryd.results22 (mu := []) rfl (by kernel_rfl) rfl rfl rfl]; simp only [slim, slimO, annO, List.map, List.zip, List.zipWith, List.lookup, holed, Nat.reduceBEq]
      simp [List.replicate, encX_eq, encXs_len, c1, encB]
    · by_cases c2 : x.op = 2
      · rw [bX_eq, if_neg c1, if_pos c2]
        rw [R_pure' K ro 22 _ nx hp [] Tryd.func22 rfl Tryd.ntmps22 Tryd.results22 (mu := []) rfl (by kernel_rfl) rfl rfl rfl]; simp only [slim, slimO, annO, List.map, List.zip, List.zipWith, List.lookup, holed, Nat.reduceBEq]
        cases c3 : hasB l x.name
        · rw [hasB_not c3]
          simp [List.replicate, encX_eq, encXs_len, c1, c2, hla, hh, hnm, hnm', hnm1, hnm1', c3, encB, hall]
        · simp [List.replicate, encX_eq, encXs_len, c1, c2, hla, hh, hnm, hnm', hnm1, hnm1', c3, encB, hall]
      · rw [bX_eq, if_neg c1, if_neg c2]
        have hloop : ∀ (tm : List Cell) (nx' : Nat) (hp' : Heap), nx + 1 ≤ nx' → hget hp' m = some (.map (mapOf l)) → tm.length = 49 → getC tm 1 = (.map m, false) → getC tm 32 = (.lst (encXs x.args), false) → getC tm 33 = (.int .i64 x.args.length, false) → getC tm 34 = (.int .i64 0, false) → getC tm 7 = (.lst [], true) →
            LoopB hp' nx' (getC tm 2) (getC tm 4) (bXs l x.args) (X K ⟨nx, []⟩ (.loop (LB Tryd.prog 22 [] 0)) ⟨tm, nx', hp'⟩) := fun tm nx' hp' g1 g2 g3 g4 g5 g6 g7 g8 => by
          have h3 := arity_le x.op
          exact vbounds_loop l m nx hm x.args (by omega) (fun y hy ro2 nx2 hp2 b1 b2 => ih y (d + 1) (by have := args_lt hy; omega) (exsF_mem h2 y hy) ro2 nx2 hp2 b1 b2) x.args.length 0 tm nx' hp' rfl (by omega) g2 g3 g4 g5 g6 g7 (by rw [List.take_zero]; exact g8)
        have hbd : ∀ ro nx hp, R K 41 [.int .i64 x.op, .lst (encBs (bXs l x.args))] ro nx hp = some ⟨encB (appB x.op (bXs l x.args)), false, nx, hp⟩ := by
          intro ro nx hp
          have hok : ∀ y ∈ bXs l x.args, OkB y := by
            intro y hy
            rw [bXs_eq] at hy
            obtain ⟨z, hz, rfl⟩ := List.mem_map.1 hy
            exact bX_ok h _ z (d + 1) (Nat.lt_succ_self _) (exsF_mem h2 z hz)
          have hlen : ((bXs l x.args).length : Int) = arityF x.op := by rw [bXs_eq, List.length_map]; exact q4
          generalize bXs l x.args = ys at hok hlen
          have h37 : (3 ≤ x.op ∧ x.op ≤ 7) ∨ x.op = 8 ∨ x.op = 9 := by omega
          rcases h37 with c | c | c
          · have : arityF x.op = 2 := by unfold arityF; grind
            match ys, hlen with
            | [a, b], _ => exact bounded2_R x.op c a b (hok a (by simp)) (hok b (by simp)) ro nx hp
            | [], hl => simp at hl; omega
            | [_], hl => simp at hl; omega
            | _ :: _ :: _ :: _, hl => simp at hl; omega
          · rw [c] at hlen ⊢
            match ys, hlen with
            | [a], _ => exact bounded8_R a (hok a (by simp)) ro nx hp
            | [], hl => simp [arityF] at hl
            | _ :: _ :: _, hl => simp [arityF] at hl; omega
          · rw [c] at hlen ⊢
            match ys, hlen with
            | [a, b, e], _ => exact bounded9_R a b e (hok a (by simp)) (hok b (by simp)) (hok e (by simp)) ro nx hp
            | [], hl => simp [arityF] at hl
            | [_], hl => simp [arityF] at hl
            | [_, _], hl => simp [arityF] at hl
            | _ :: _ :: _ :: _ :: _, hl => simp [arityF] at hl; omega
        rw [R_pure' K ro 22 _ nx hp [] Tryd.func22 rfl Tryd.ntmps22 Tryd.results22 (mu := []) rfl (by kernel_rfl) rfl rfl rfl]; simp only [slim, slimO, annO, List.map, List.zip, List.zipWith, List.lookup, holed, Nat.reduceBEq]
        simp [List.replicate, encX_eq, encXs_len, c1, c2]
        generalize hb : X K _ (.loop _) _ = r
        have hk : LoopB ((nx + 1, .cells [(.int .i64 0, false), (.int .i64 0, false)]) :: (nx, .cells [(.int .i64 x.op, false), (.int .i64 x.n, false), (.str x.name, false), (.lst (encXs x.args), false)]) :: hp) (nx + 1 + 1) (.ptr nx 0, false) (.ptr (nx + 1) 0, false) (bXs l x.args) r := by
          rw [← hb]
          exact hloop _ _ _ (by omega) (by simp [hnm, hnm', hnm1, hnm1', hh]) (by simp) (by simp) (by simp) (by simp) (by simp) (by simp)
        obtain ⟨⟨tm', nx', hp'⟩, rfl, g1, g2, g3, g4, g5, g6⟩ := hk
        simp only at g1 g2 g3 g4 g5 g6
        have g7 := g6 nx (by omega)
        have g8 := g6 (nx + 1) (by omega)
        simp at g3 g4 g7 g8
        clear hb g6
        have hbd' := hbd
        simp only [encB] at hbd'
        simp [g1, g2, g3, g4, g7, g8, hbd']
        rfl
theorem hasB_take {xs : List Sp} (h : ∀ (i j : Nat) (x y : Sp), i < j → xs[i]? = some x → xs[j]? = some y → x.name.toList < y.name.toList) {k : Nat} {x : Sp} (hx : xs[k]? = some x) : hasB (xs.take k) x.name = false := by
  have : ∀ (l : List Sp), (∀ y ∈ l, y.name.toList < x.name.toList) → hasB l x.name = false := by
    intro l hl
    induction l with
    | nil => rfl
    | cons y r ih =>
      rw [hasB, ih fun z hz => hl z (List.mem_cons_of_mem _ hz), Bool.or_false, beq_eq_false_iff_ne]
      intro e
      have := hl y (List.mem_cons_self ..)
      rw [e] at this
      exact List.lt_irrefl _ this
  apply this
  intro y hy
  obtain ⟨i, hi, he⟩ := List.getElem_of_mem hy
  rw [List.getElem_take] at he
  rw [List.length_take] at hi
  exact h i k y x (by omega) (by rw [List.getElem?_eq_getElem (by omega), he]) hx
theorem amapset_new {l : List Sp} {m lo : Nat} {hp : Heap} (h : hget hp m = some (.map (mapOf l))) (x : Sp) (hx : hasB l x.name = false) (hlo : lo ≤ m) : amapset Tryd.prog lo 54 (.map m) (.str x.name) (encB (x.low, x.high)) hp = some (hset hp m (.map (mapOf (l ++ [x])))) := by
  obtain ⟨j, hf⟩ := afind_map x.name l 0
  unfold amapset
  rw [show (Tryd.prog).underlying 54 = some (.map 9 56) from by kernel_rfl]
  dsimp only
  rw [if_pos (akeyS _), h]
  dsimp only
  rw [if_pos hlo, hf, hx]
  simp [mapOf]
def LoopM (c2 c9 : Cell) (hp0 : Heap) (xs : List Sp) (r : Option (AExit × St)) : Prop := ∃ s, r = some (.exit 0, s) ∧ s.tm.length = 46 ∧ getC s.tm 2 = c2 ∧ getC s.tm 9 = c9 ∧ hget s.hp 1 = some (.map (mapOf xs)) ∧ hget s.hp 0 = hget hp0 0 ∧ 2 ≤ s.nx
theorem LoopM.pre {hp hp1 : Heap} {c d c' d' : Cell} {l : List Sp} {r : Option (AExit × St)} (h : LoopM c' d' hp1 l r) (h2 : c' = c) (h9 : d' = d) (hg : hget hp1 0 = hget hp 0) : LoopM c d hp l r := by
  obtain ⟨s, r1, r2, r3, r4, r5, r6, r7⟩ := h
  exact ⟨s, r1, r2, r3.trans h2, r4.trans h9, r5, r6.trans hg, r7⟩
theorem vBounds_loop (xs : List Sp) (hl : xs.length ≤ 2000) (h : ∀ (i j : Nat) (x y : Sp), i < j → xs[i]? = some x → xs[j]? = some y → x.name.toList < y.name.toList) :
    ∀ (n k : Nat) (tm : List Cell) (nx : Nat) (hp : Heap), n + k = xs.length → 2 ≤ nx → hget hp 1 = some (.map (mapOf (xs.take k))) → tm.length = 46 → getC tm 9 = (.map 1, false) → getC tm 24 = (.lst (encSs xs), false) → getC tm 25 = (.int .i64 xs.length, false) → getC tm 26 = (.int .i64 k, false) →
    LoopM (getC tm 2) (.map 1, false) hp xs (X K ⟨0, []⟩ (.loop (LB Tryd.prog 6 [] 0)) ⟨tm, nx, hp⟩) := by
  have e := LB_open (P := Tryd.prog) [] 0 Tryd.func6 rfl rfl (by kernel_rfl)
  simp only [slim, slimO, annO, List.map, List.zip, List.zipWith, List.lookup, holed, loopsOf, List.nil_append, List.cons_append, List.getD_cons_zero, List.getD_cons_succ, Nat.reduceBEq] at e
  intro n
  induction n with
  | zero =>
    intro k tm nx hp hk hnx hh ht h9 h24 h25 h26
    rw [Y_loop_eq _ _ e]
    clear e
    have hkl : ¬ (k : Int) < xs.length := by omega
    rw [List.take_of_length_le (by omega)] at hh
    generalize hb : X K _ _ _ = r
    simp [ht, h24, h25, h26, hkl] at hb
    subst hb
    exact ⟨_, rfl, by simp [ht], by simp [ht], by simp [h9], hh, rfl, hnx⟩
  | succ n ihn =>
    intro k tm nx hp hk hnx hh ht h9 h24 h25 h26
    have hx := List.getElem?_eq_getElem (l := xs) (i := k) (by omega)
    rw [Y_loop_eq _ _ e]
    clear e
    have htk : xs.take (k + 1) = xs.take k ++ [xs[k]] := by
      rw [List.take_add_one, hx]; rfl
    generalize xs[k] = x at hx htk
    have hkl : (k : Int) < xs.length := by omega
    have hxe := encSs_at hx
    have hw2 : IntKind.i64.wrap ((k : Int) + 1) = (k : Int) + 1 := wrap_small (by omega) (by omega)
    simp only [encS] at hxe
    have hnew := hasB_take h hx
    have ham := fun hp (hh : hget hp 1 = some (.map (mapOf (xs.take k)))) => amapset_new (lo := 0) hh x hnew (by omega)
    simp only [encB] at ham
    have hm0 : ¬ nx = 0 := by omega
    have hm0' : ¬ 0 = nx := by omega
    have hm1 : ¬ nx = 1 := by omega
    have hm1' : ¬ 1 = nx := by omega
    generalize hb : X K _ _ _ = r
    simp [ht, h9, h24, h25, h26, hkl, hxe, hw2, hm0, hm0', hm1, hm1', hh, ham] at hb
    subst hb
    rw [XK_normal]
    refine LoopM.pre (ihn (k + 1) _ (nx + 1) _ ?_ ?_ ?_ ?_ ?_ ?_ ?_ ?_) ?_ rfl ?_
    all_goals first | omega | simp [ht, h9, h24, h25, htk, hh, hm0, hm0', hm1, hm1']
def bndsF (x : Ex) (xs : List Sp) : IP × Int := if exF x 1 ≠ 0 then ((0, 0), exF x 1) else if spsF xs ≠ 0 then ((0, 0), spsF xs) else (bX xs x, 0)
theorem vBounds_R (x : Ex) (xs : List Sp) (ro nx : Nat) (hp : Heap) : R K 6 [encX x, .lst (encSs xs)] ro nx hp = some ⟨.tup [.int .i64 (bndsF x xs).1.1, .int .i64 (bndsF x xs).1.2, .int .i64 (bndsF x xs).2], false, nx, hp⟩ := by
  have hce := checkExpr_R x
  unfold bndsF
  rw [R_val' K ro 6 _ nx hp [] Tryd.func6 rfl Tryd.ntmps6 Tryd.results6 (mu := []) rfl (by kernel_rfl) rfl rfl]; simp only [slim, slimO, annO, List.map, List.zip, List.zipWith, List.lookup, holed, Nat.reduceBEq]
  simp only [encX_eq] at hce
  by_cases c1 : exF x 1 = 0
  · by_cases c2 : spsF xs = 0
    · obtain ⟨g1, g2, g3⟩ := spsF_zero c2
      have hloop : ∀ (tm : List Cell) (nx' : Nat) (hp' : Heap), 2 ≤ nx' → hget hp' 1 = some (.map []) → tm.length = 46 → getC tm 9 = (.map 1, false) → getC tm 24 = (.lst (encSs xs), false) → getC tm 25 = (.int .i64 xs.length, false) → getC tm 26 = (.int .i64 0, false) →
          LoopM (getC tm 2) (.map 1, false) hp' xs (X K ⟨0, []⟩ (.loop (LB Tryd.prog 6 [] 0)) ⟨tm, nx', hp'⟩) := fun tm nx' hp' q1 q2 q3 q4 q5 q6 q7 =>
        vBounds_loop xs g1 (names_ne g3) xs.length 0 tm nx' hp' (by omega) q1 (by rw [List.take_zero]; exact q2) q3 q4 q5 q6 q7
      have hvb := fun ro nx hp (q1 : 1 < nx) q2 => vbounds_R g2 1 (SizeOf.sizeOf x + 1) x 1 (Nat.lt_succ_self _) c1 ro nx hp q1 q2
      simp only [encX_eq, encB] at hvb
      simp [List.replicate, encX_eq, encXs_len, c1, c2, hce]
      generalize hb : X K _ (.loop _) _ = r
      have hk : LoopM (.ptr 0 0, false) (.map 1, false) [(0, .cells [(.int .i64 x.op, false), (.int .i64 x.n, false), (.str x.name, false), (.lst (encXs x.args), false)])] xs r := by
        rw [← hb]
        exact LoopM.pre (hloop _ _ _ (by omega) (by simp) (by simp) (by simp) (by simp) (by simp) (by simp)) rfl rfl (by simp)
      obtain ⟨⟨tm', nx', hp'⟩, rfl, k1, k2, k3, k4, k5, k6⟩ := hk
      simp only at k1 k2 k3 k4 k5 k6
      have k6' : 1 < nx' := by omega
      have k7 : ¬ nx' = 0 := by omega
      have k7' : ¬ 0 = nx' := by omega
      have k8 : ¬ nx' = 1 := by omega
      have k8' : ¬ 1 = nx' := by omega
      simp at k5
      clear hb
      simp [k1, k2, k3, k4, k5, k6', k7, k7', k8, k8', hvb]
    · simp [List.replicate, encX_eq, encXs_len, c1, c2, hce]
  · simp [List.replicate, encX_eq, encXs_len, c1, hce]
end Go.Proofs.YtleimfinniclgaaDoor.M
