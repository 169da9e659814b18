/- Heaps of records that stand in trees: what is made of them when they are frozen. -/
import Derived.Test.YtleimfinniclgaaDoorMJ
namespace Go.Proofs.YtleimfinniclgaaDoor.M
set_option linter.unusedVariables false
set_option linter.unusedSimpArgs false

/-- What a cell holds: a number, a truth, a string, a list of records of a kind. -/
inductive CK where
  | int | bool | str
  | row (k : Nat)
structure Rec where
  ag : Bool
  cs : List CK
structure Recs where
  of : Nat → Rec
  /-- Lists of these records are arrays that change (but empty ones). -/
  live : Nat → Bool
  most : Nat
  pos : ∀ k, 0 < (of k).cs.length
  one : ∀ k, (of k).ag = false → (of k).cs.length = 1
/-- A value without addresses. -/
inductive Fr (T : Recs) : CK → AVal → Prop where
  | int (n : Int) : Fr T .int (.int .i64 n)
  | bool (b : Bool) : Fr T .bool (.bool b)
  | str (s : ByteArray) : Fr T .str (.str s)
  | row (k : Nat) (xs : List AVal) (hl : ∀ x, x ∈ xs → x.flat.length = (T.of k).cs.length) (ha : ∀ x, x ∈ xs → if (T.of k).ag then ∃ cs, x = .agg cs else x.one = true)
      (h : ∀ x, x ∈ xs → ∀ (j : Nat) c u, (T.of k).cs[j]? = some c → x.flat[j]? = some u → Fr T c u) : Fr T (.row k) (.lst xs)
theorem Fr.one {T : Recs} {c : CK} {v : AVal} (h : Fr T c v) : v.one = true := by cases h <;> rfl
theorem Fr.unS {T : Recs} {c : CK} {v : AVal} (h : Fr T c v) : unS v = (v, false) := by cases h <;> rfl
theorem idsLts_of {n : Nat} {l : List AVal} (h : ∀ x, x ∈ l → x.idsLt n = true) : idsLts n l = true := by
  induction l with
  | nil => simp
  | cons x r ih => simp only [idsLts_cons, Bool.and_eq_true]; exact ⟨h x (.head _), ih fun y hy => h y (.tail _ hy)⟩
theorem idsLts_mem {n : Nat} {l : List AVal} (h : idsLts n l = true) : ∀ x, x ∈ l → x.idsLt n = true := by
  induction l with
  | nil => intro x hx; cases hx
  | cons y r ih =>
    simp only [idsLts_cons, Bool.and_eq_true] at h
    intro x hx
    cases hx with
    | head => exact h.1
    | tail _ hx => exact ih h.2 x hx
theorem flat_ids {n : Nat} {x : AVal} (h : ∀ u, u ∈ x.flat → u.idsLt n = true) : x.idsLt n = true := by
  cases x with
  | agg cs => simp only [idsLt_agg]; exact idsLts_of h
  | _ => exact h _ (by simp [AVal.flat])
theorem Fr.ids {T : Recs} {c : CK} {v : AVal} (h : Fr T c v) (n : Nat) : v.idsLt n = true := by
  induction h with
  | int n => simp
  | bool b => simp
  | str s => simp
  | row k xs hl ha h ih =>
    simp only [idsLt_lst]
    refine idsLts_of fun x hx => flat_ids fun u hu => ?_
    obtain ⟨j, hj, he⟩ := List.getElem_of_mem hu
    have hj' : j < (T.of k).cs.length := by rw [← hl x hx]; exact hj
    exact ih x hx j _ u (List.getElem?_eq_getElem hj') (by rw [List.getElem?_eq_getElem hj, he])
/-- A value that leads nowhere. -/
def Leaf (T : Recs) (c : CK) (v : AVal) : Prop := Fr T c v ∧ ∀ k xs, c = .row k → v = .lst xs → T.live k = true → xs = []
theorem Leaf.int {T : Recs} (n : Int) : Leaf T .int (.int .i64 n) := ⟨.int n, fun k xs h => by cases h⟩
theorem Leaf.bool {T : Recs} (b : Bool) : Leaf T .bool (.bool b) := ⟨.bool b, fun k xs h => by cases h⟩
theorem Leaf.str {T : Recs} (b : ByteArray) : Leaf T .str (.str b) := ⟨.str b, fun k xs h => by cases h⟩
theorem Leaf.nil {T : Recs} (k : Nat) : Leaf T (.row k) (.lst []) := ⟨.row k [] (fun x hx => by cases hx) (fun x hx => by cases hx) (fun x hx => by cases hx), fun k xs h e _ => by injection e with e; exact e.symm⟩
/-- A heap of such records: what kinds of records a variable has, and its rank. -/
structure Kd where
  kind : Nat → Nat → Prop
  rank : Nat → Nat
/-- A value in such a heap: its lists rank below r. -/
inductive Hv (T : Recs) (G : Kd) (hp : Heap) (r : Nat) : CK → AVal → Prop where
  | fr {c : CK} {v : AVal} (h : Leaf T c v) : Hv T G hp r c v
  | sl (k id m len : Nat) (cs : List Cell) (hk : G.kind id k) (hr : G.rank id < r) (hg : hget hp id = some (.cells cs)) (hl : (m + len) * (T.of k).cs.length ≤ cs.length) : Hv T G hp r (.row k) (.sl id (m * (T.of k).cs.length) len (T.of k).cs.length (T.of k).ag)
theorem Hv.one {T : Recs} {G : Kd} {hp : Heap} {r : Nat} {c : CK} {v : AVal} (h : Hv T G hp r c v) : v.one = true := by
  cases h with
  | fr h => exact h.1.one
  | sl => rfl
theorem Hv.up {T : Recs} {G : Kd} {hp : Heap} {r r' : Nat} {c : CK} {v : AVal} (h : Hv T G hp r c v) (hr : r ≤ r') : Hv T G hp r' c v := by
  cases h with
  | fr h => exact .fr h
  | sl k id m len cs hk hr' hg hl => exact .sl k id m len cs hk (by omega) hg hl
/-- All variables with a kind hold records of it. -/
structure Forest (T : Recs) (G : Kd) (lo : Nat) (hp : Heap) : Prop where
  lo : ∀ id k, G.kind id k → lo ≤ id
  cells : ∀ id k cs, G.kind id k → hget hp id = some (.cells cs) → ∀ (j : Nat) (c : Cell) t, cs[j]? = some c → (T.of k).cs[j % (T.of k).cs.length]? = some t → Hv T G hp (G.rank id) t c.1
theorem mapO_some {f : AVal → Option AVal} (Q : Nat → AVal → Prop) : ∀ (l : List AVal) (i : Nat), (∀ (j : Nat) v, l[j]? = some v → ∃ u, f v = some u ∧ Q (i + j) u) → ∃ us, mapO f l = some us ∧ us.length = l.length ∧ ∀ (j : Nat) u, us[j]? = some u → Q (i + j) u := by
  intro l
  induction l with
  | nil => intro i h; exact ⟨[], rfl, rfl, fun j u hu => by simp at hu⟩
  | cons v l ih =>
    intro i h
    obtain ⟨u, h1, h2⟩ := h 0 v rfl
    obtain ⟨us, h3, h4, h5⟩ := ih (i + 1) fun j v hv => by
      obtain ⟨u, q1, q2⟩ := h (j + 1) v (by simpa using hv)
      exact ⟨u, q1, by rw [show i + 1 + j = i + (j + 1) by omega]; exact q2⟩
    refine ⟨u :: us, by simp only [mapO, h1, h3], by simp [h4], fun j w hw => ?_⟩
    cases j with
    | zero => simp at hw; subst hw; exact h2
    | succ j => rw [show i + (j + 1) = i + 1 + j by omega]; exact h5 j w (by simpa using hw)
theorem chunks_mem {sz : Nat} : ∀ (n : Nat) (us : List AVal) (x : AVal), us.length = n * sz → x ∈ chunks sz n us → ∃ i, i < n ∧ x = .agg ((us.drop (i * sz)).take sz) := by
  intro n
  induction n with
  | zero => intro us x _ hx; simp [chunks] at hx
  | succ n ih =>
    intro us x hl hx
    simp only [chunks, List.mem_cons] at hx
    rcases hx with rfl | hx
    · exact ⟨0, by omega, by simp⟩
    · obtain ⟨i, hi, rfl⟩ := ih (us.drop sz) x (by rw [List.length_drop, hl, Nat.succ_mul]; omega) hx
      exact ⟨i + 1, by omega, by rw [List.drop_drop, Nat.succ_mul, Nat.add_comm sz]⟩
theorem hv_fz {T : Recs} {G : Kd} {lo : Nat} {hp : Heap} (F : Forest T G lo hp) : ∀ (r : Nat) (c : CK) (v : AVal), Hv T G hp r c v → ∃ u, fz lo hp r v = some u ∧ Fr T c u := by
  intro r
  induction r with
  | zero =>
    intro c v h
    cases h with
    | fr h => exact ⟨v, by simp only [fz]; rw [if_pos (h.1.ids lo)], h.1⟩
    | sl k id m len cs hk hr hg hl => omega
  | succ r ih =>
    intro c v h
    cases h with
    | fr h => exact ⟨v, by simp only [fz]; rw [if_pos (h.1.ids lo)], h.1⟩
    | sl k id m len cs hk hr hg hl =>
      have hlo := F.lo id k hk
      have hpos := T.pos k
      have hone := T.one k
      have hcells := F.cells id k cs hk hg
      generalize hsz : (T.of k).cs.length = sz at *
      have hmul : (m + len) * sz = m * sz + len * sz := Nat.add_mul m len sz
      obtain ⟨us, h1, h2, h3⟩ := mapO_some (f := fz lo hp r) (fun j u => ∀ t, (T.of k).cs[j % sz]? = some t → Fr T t u) (((cs.drop (m * sz)).take (len * sz)).map (·.1)) 0 fun j w hw => by
        rw [List.getElem?_map] at hw
        obtain ⟨c, hc, rfl⟩ := Option.map_eq_some_iff.1 hw
        rw [List.getElem?_take] at hc
        split at hc
        · rename_i hj
          rw [List.getElem?_drop] at hc
          obtain ⟨t, ht⟩ : ∃ t, (T.of k).cs[j % sz]? = some t := ⟨_, List.getElem?_eq_getElem (by rw [hsz]; exact Nat.mod_lt _ hpos)⟩
          have hv := hcells (m * sz + j) c t hc (by rw [Nat.mul_add_mod_self_right]; exact ht)
          obtain ⟨u, q1, q2⟩ := ih t c.1 (hv.up (by omega))
          exact ⟨u, q1, fun t' ht' => by rw [Nat.zero_add, ht] at ht'; injection ht' with e; subst e; exact q2⟩
        · cases hc
      have hlen : us.length = len * sz := by
        rw [h2, List.length_map, List.length_take, List.length_drop]; omega
      refine ⟨.lst (chop (T.of k).ag sz len us), ?_, ?_⟩
      · have e : fz lo hp (r + 1) (.sl id (m * sz) len sz (T.of k).ag) = fzv lo hp (fz lo hp r) (.sl id (m * sz) len sz (T.of k).ag) := by
          rw [fz]
          rw [if_neg (by simp only [idsLt_sl, decide_eq_true_eq]; omega)]
        rw [e, fzv]
        simp only [hg]
        rw [if_pos ⟨hlo, hpos, by cases h : (T.of k).ag <;> simp [hone, h], by omega⟩, h1]
        rfl
      · have key : ∀ x, x ∈ chop (T.of k).ag sz len us → x.flat.length = sz ∧ (if (T.of k).ag then ∃ cs, x = .agg cs else x.one = true) ∧ ∀ (j : Nat) c u, (T.of k).cs[j]? = some c → x.flat[j]? = some u → Fr T c u := by
          intro x hx
          unfold chop at hx
          cases hag : (T.of k).ag with
          | true =>
            rw [hag, if_pos rfl] at hx
            obtain ⟨i, hi, rfl⟩ := chunks_mem len us x hlen hx
            have hm : i * sz + sz ≤ len * sz := by rw [← Nat.succ_mul]; exact Nat.mul_le_mul_right sz hi
            refine ⟨by simp only [AVal.flat, List.length_take, List.length_drop]; omega, by simp, fun j c u hc hu => ?_⟩
            have hj : j < sz := by rw [← hsz]; exact (List.getElem?_eq_some_iff.1 hc).1
            simp only [AVal.flat] at hu
            rw [List.getElem?_take, if_pos hj, List.getElem?_drop] at hu
            have := h3 (i * sz + j) u hu c
            rw [Nat.zero_add, Nat.mul_add_mod_self_right, Nat.mod_eq_of_lt hj] at this
            exact this hc
          | false =>
            rw [hag] at hx
            simp only [Bool.false_eq_true, if_false] at hx
            have hz := hone hag
            obtain ⟨i, hi, he⟩ := List.getElem_of_mem hx
            have hu := h3 i x (by rw [List.getElem?_eq_getElem hi, he])
            rw [hz, Nat.mod_one] at hu
            have hfr := hu _ (List.getElem?_eq_getElem (show 0 < (T.of k).cs.length by omega))
            have hflat : x.flat = [x] := by
              have := hfr.one
              cases x <;> first | rfl | exact Bool.noConfusion this
            refine ⟨by rw [hflat]; simp [hz], by simpa using hfr.one, fun j c u hc hj => ?_⟩
            rw [hflat] at hj
            cases j with
            | zero => simp at hj; subst hj; exact hu c hc
            | succ j => simp at hj
        exact .row k _ (fun x hx => by rw [(key x hx).1, hsz]) (fun x hx => (key x hx).2.1) (fun x hx => (key x hx).2.2)
theorem hv_FZ {T : Recs} {G : Kd} {lo : Nat} {hp : Heap} (F : Forest T G lo hp) {r : Nat} {c : CK} {v : AVal} (h : Hv T G hp r c v) : ∃ u, FZ lo hp v = some u ∧ Fr T c u := by
  obtain ⟨u, h1, h2⟩ := hv_fz F r c v h
  exact ⟨u, FZ_iff.2 ⟨r, h1⟩, h2⟩
/-! ### New variables over old ones -/
def Fresh (n : Nat) (hp : Heap) : Prop := hlow n hp = hp
theorem hget_hlow' (n : Nat) (h : Heap) (j : Nat) : hget (hlow n h) j = if j < n then hget h j else none := by
  induction h with
  | nil => simp [hlow, hget]
  | cons p h ih =>
    obtain ⟨i, b⟩ := p
    rw [hlow_cons]
    split
    · simp only [hget]
      by_cases e : j = i
      · subst e; simp [*]
      · simp [e, ih]
    · rw [ih]
      simp only [hget]
      by_cases e : j = i
      · subst e; simp [*]
      · simp [e]
theorem Fresh.lt {n : Nat} {hp : Heap} (h : Fresh n hp) {j : Nat} {b : ABlk} (hg : hget hp j = some b) : j < n := by
  rw [← h, hget_hlow'] at hg
  split at hg
  · assumption
  · cases hg
theorem hlow_hlow {m n : Nat} (hmn : m ≤ n) (h : Heap) : hlow m (hlow n h) = hlow m h := by
  induction h with
  | nil => rfl
  | cons p h ih =>
    obtain ⟨i, b⟩ := p
    rw [hlow_cons]
    split
    · rw [hlow_cons, hlow_cons, ih]
    · rename_i hn
      rw [hlow_cons, if_neg (by omega), ih]
theorem hlow_hset' (n i : Nat) (b : ABlk) (h : Heap) (hi : n ≤ i) : hlow n (hset h i b) = hlow n h := by
  induction h with
  | nil => rfl
  | cons p h ih =>
    obtain ⟨j, c⟩ := p
    simp only [hset]
    split
    · rename_i e; subst e; rw [hlow_cons, hlow_cons, if_neg (by omega), if_neg (by omega)]
    · rw [hlow_cons, hlow_cons, ih]
theorem Fresh.up {n m : Nat} {hp : Heap} (h : Fresh n hp) (hm : n ≤ m) : Fresh m hp := by
  unfold Fresh at h ⊢
  rw [← h, ← hlow_hlow (Nat.le_refl n) hp]
  have : ∀ hp : Heap, hlow m (hlow n hp) = hlow n hp := by
    intro hp
    induction hp with
    | nil => rfl
    | cons p h ih =>
      obtain ⟨i, b⟩ := p
      rw [hlow_cons]
      split
      · rw [hlow_cons, if_pos (by omega), ih]
      · exact ih
  rw [this]
theorem Fresh.push {n : Nat} {hp : Heap} (h : Fresh n hp) (b : ABlk) : Fresh (n + 1) ((n, b) :: hp) := by
  unfold Fresh
  rw [hlow_cons, if_pos (by omega), h.up (Nat.le_succ n)]
theorem Fresh.hset {n : Nat} {hp : Heap} (h : Fresh n hp) (i : Nat) (b : ABlk) : Fresh n (hset hp i b) := by
  unfold Fresh at h ⊢
  rw [hlow_hset, h]
theorem hlow_hdel (n i : Nat) (h : Heap) : hlow n (hdel h i) = hdel (hlow n h) i := by
  unfold hlow hdel
  rw [List.filter_filter, List.filter_filter]
  congr 1
  funext p
  exact Bool.and_comm _ _
theorem Fresh.hdel {n : Nat} {hp : Heap} (h : Fresh n hp) (i : Nat) : Fresh n (hdel hp i) := by
  unfold Fresh at h ⊢
  rw [hlow_hdel, h]
theorem hlow_hdel' (n i : Nat) (h : Heap) (hi : n ≤ i) : hlow n (hdel h i) = hlow n h := by
  unfold hlow hdel
  rw [List.filter_filter]
  congr 1
  funext p
  by_cases hp : p.1 < n
  · have : (p.1 != i) = true := by simp; omega
    simp [hp, this]
  · simp [hp]
/-- A value in a heap, the variables by their age. -/
inductive Tv (T : Recs) (hp : Heap) (lo : Nat) : Nat → CK → AVal → Prop where
  | fr {r : Nat} {c : CK} {v : AVal} (h : Leaf T c v) : Tv T hp lo r c v
  | sl (r k id m len : Nat) (cs : List Cell) (h0 : lo ≤ id) (hr : id < r) (hg : hget hp id = some (.cells cs)) (hl : (m + len) * (T.of k).cs.length ≤ cs.length) (hm : cs.length ≤ T.most)
      (hc : ∀ (j : Nat) (c : Cell) t, cs[j]? = some c → (T.of k).cs[j % (T.of k).cs.length]? = some t → Tv T hp lo id t c.1) : Tv T hp lo r (.row k) (.sl id (m * (T.of k).cs.length) len (T.of k).cs.length (T.of k).ag)
theorem Tv.keep {T : Recs} {hp hp' : Heap} {lo lo' r r' : Nat} {c : CK} {v : AVal} (h : Tv T hp lo r c v) (hlo : lo' ≤ lo) (hr : r ≤ r') (he : ∀ id, lo ≤ id → id < r → hget hp' id = hget hp id) : Tv T hp' lo' r' c v := by
  induction h generalizing r' with
  | fr h => exact .fr h
  | sl r k id m len cs h0 hr1 hg hl hm hc ih =>
    exact .sl r' k id m len cs (by omega) (by omega) (by rw [he id h0 hr1]; exact hg) hl hm fun j c t h1 h2 => ih j c t h1 h2 (Nat.le_refl _) fun i hi1 hi2 => he i hi1 (by omega)
theorem Tv.one {T : Recs} {hp : Heap} {lo r : Nat} {c : CK} {v : AVal} (h : Tv T hp lo r c v) : v.one = true := by
  cases h with
  | fr h => exact h.1.one
  | sl => rfl
theorem Tv.unS {T : Recs} {hp : Heap} {lo r : Nat} {c : CK} {v : AVal} (h : Tv T hp lo r c v) : unS v = (v, false) := by
  cases h with
  | fr h => exact h.1.unS
  | sl => rfl
/-- Variables by their age are a forest. -/
def Blk (T : Recs) (hp : Heap) (lo : Nat) (k id : Nat) : Prop := lo ≤ id ∧ ∃ cs, hget hp id = some (.cells cs) ∧ cs.length ≤ T.most ∧ ∀ (j : Nat) (c : Cell) t, cs[j]? = some c → (T.of k).cs[j % (T.of k).cs.length]? = some t → Tv T hp lo id t c.1
theorem Tv.blk {T : Recs} {hp : Heap} {lo r k : Nat} {id off len sz : Nat} {ag : Bool} (h : Tv T hp lo r (.row k) (.sl id off len sz ag)) : Blk T hp lo k id ∧ id < r := by
  cases h with
  | fr h => cases h.1
  | sl _ _ _ m _ cs h0 hr hg hl hm hc => exact ⟨⟨h0, cs, hg, hm, hc⟩, hr⟩
def Kd.age (T : Recs) (hp : Heap) (lo : Nat) : Kd := ⟨fun id k => Blk T hp lo k id, fun id => id - lo⟩
theorem Tv.hv {T : Recs} {hp : Heap} {lo r : Nat} {c : CK} {v : AVal} (h : Tv T hp lo r c v) : Hv T (Kd.age T hp lo) hp (r - lo) c v := by
  cases h with
  | fr h => exact .fr h
  | sl _ k id m len cs h0 hr hg hl hm hc => exact .sl k id m len cs ⟨h0, cs, hg, hm, hc⟩ (by show id - lo < r - lo; omega) hg hl
theorem age_forest (T : Recs) (hp : Heap) (lo : Nat) : Forest T (Kd.age T hp lo) lo hp := by
  refine ⟨fun id k h => h.1, fun id k cs hb hg j c t hj ht => ?_⟩
  obtain ⟨_, cs', hg', _, hc⟩ := hb
  rw [hg] at hg'; cases hg'
  exact (hc j c t hj ht).hv
/-! ### Changing a forest -/
theorem Hv.move {T : Recs} {G G' : Kd} {hp hp' : Heap} {r r' : Nat} {c : CK} {v : AVal} (h : Hv T G hp r c v) (hk : ∀ id k cs, G.kind id k → G.rank id < r → hget hp id = some (.cells cs) → G'.kind id k ∧ G'.rank id < r' ∧ ∃ cs', hget hp' id = some (.cells cs') ∧ cs.length ≤ cs'.length) : Hv T G' hp' r' c v := by
  cases h with
  | fr h => exact .fr h
  | sl k id m len cs hk1 hr hg hl =>
    obtain ⟨h1, h2, cs', h3, h4⟩ := hk id k cs hk1 hr hg
    exact .sl k id m len cs' h1 h2 h3 (by omega)
theorem Forest.move {T : Recs} {G : Kd} {lo : Nat} {hp hp' : Heap} (F : Forest T G lo hp) (he : ∀ id k, G.kind id k → hget hp' id = hget hp id) : Forest T G lo hp' := by
  refine ⟨F.lo, fun id k cs hk hg j c t hj ht => ?_⟩
  rw [he id k hk] at hg
  exact (F.cells id k cs hk hg j c t hj ht).move fun id k cs q1 q2 q3 => ⟨q1, q2, cs, by rw [he id k q1]; exact q3, Nat.le_refl _⟩
/-- Cells are written. -/
theorem Forest.set {T : Recs} {G : Kd} {lo : Nat} {hp : Heap} (F : Forest T G lo hp) {p : Nat} {cs : List Cell} (hg : hget hp p = some (.cells cs)) (cs' : List Cell) (hl : cs'.length = cs.length)
    (hc : ∀ k, G.kind p k → ∀ (j : Nat) (c : Cell) t, cs'[j]? = some c → (T.of k).cs[j % (T.of k).cs.length]? = some t → cs[j]? = some c ∨ Hv T G hp (G.rank p) t c.1) : Forest T G lo (hset hp p (.cells cs')) := by
  have mv : ∀ {r : Nat} {c : CK} {v : AVal}, Hv T G hp r c v → Hv T G (hset hp p (.cells cs')) r c v := fun h => h.move fun id k cs0 q1 q2 q3 => by
    by_cases e : id = p
    · subst e
      rw [hg] at q3; cases q3
      exact ⟨q1, q2, cs', by rw [hget_hset, if_pos rfl, hg]; rfl, by omega⟩
    · exact ⟨q1, q2, cs0, by rw [hget_hset, if_neg e]; exact q3, Nat.le_refl _⟩
  refine ⟨F.lo, fun id k cs0 hk hg0 j c t hj ht => ?_⟩
  rw [hget_hset] at hg0
  split at hg0
  · rename_i e
    subst e
    rw [hg] at hg0
    cases hg0
    rcases hc k hk j c t hj ht with h | h
    · exact mv (F.cells id k cs hk hg j c t h ht)
    · exact mv h
  · exact mv (F.cells id k cs0 hk hg0 j c t hj ht)
/-- A new variable between p and what it leads to. -/
def Kd.between (G : Kd) (n p k0 : Nat) : Kd := ⟨fun id k => (id = n ∧ k = k0) ∨ (id ≠ n ∧ G.kind id k), fun id => if id = n then 2 * G.rank p else 2 * G.rank id + 1⟩
theorem Hv.between {T : Recs} {G : Kd} {hp : Heap} {r : Nat} {c : CK} {v : AVal} (h : Hv T G hp r c v) {n p k0 : Nat} (hn : hget hp n = none) (b : ABlk) : Hv T (G.between n p k0) ((n, b) :: hp) (2 * r) c v := by
  refine h.move fun id k cs q1 q2 q3 => ?_
  have hne : id ≠ n := fun e => by subst e; rw [hn] at q3; cases q3
  exact ⟨.inr ⟨hne, q1⟩, by show (if id = n then _ else _) < _; rw [if_neg hne]; omega, cs, by rw [hget_cons, if_neg hne]; exact q3, Nat.le_refl _⟩
theorem Forest.between {T : Recs} {G : Kd} {lo : Nat} {hp : Heap} (F : Forest T G lo hp) {n p k0 : Nat} (hlo : lo ≤ n) (hn : hget hp n = none) {cs : List Cell} (hc : ∀ (j : Nat) (c : Cell) t, cs[j]? = some c → (T.of k0).cs[j % (T.of k0).cs.length]? = some t → Hv T G hp (G.rank p) t c.1) :
    Forest T (G.between n p k0) lo ((n, .cells cs) :: hp) := by
  refine ⟨fun id k hk => ?_, fun id k cs0 hk hg j c t hj ht => ?_⟩
  · rcases hk with ⟨rfl, _⟩ | ⟨_, h⟩
    · exact hlo
    · exact F.lo id k h
  · rcases hk with ⟨rfl, rfl⟩ | ⟨hne, hk⟩
    · rw [hget_same] at hg; cases hg
      have := (hc j c t hj ht).between (p := p) (k0 := k) hn (.cells cs)
      have e : (G.between id p k).rank id = 2 * G.rank p := if_pos rfl
      rw [e]; exact this
    · rw [hget_cons, if_neg hne] at hg
      have := (F.cells id k cs0 hk hg j c t hj ht).between (p := p) (k0 := k0) hn (.cells cs)
      have e : (G.between n p k0).rank id = 2 * G.rank id + 1 := if_neg hne
      rw [e]; exact this.up (by omega)
/-- Records are frozen. -/
theorem agg_FZ {T : Recs} {G : Kd} {lo : Nat} {hp : Heap} (F : Forest T G lo hp) (r : Nat) (cs : List AVal) (ts : List CK) (hl : cs.length = ts.length) (h : ∀ (i : Nat) c t, cs[i]? = some c → ts[i]? = some t → Hv T G hp r t c) : ∃ us, FZ lo hp (.agg cs) = some (.agg us) ∧ us.length = cs.length ∧ ∀ (i : Nat) u t, us[i]? = some u → ts[i]? = some t → Fr T t u := by
  obtain ⟨us, h1, h2, h3⟩ := mapO_some (f := fz lo hp r) (fun i u => ∀ t, ts[i]? = some t → Fr T t u) cs 0 fun j v hv => by
    obtain ⟨t, ht⟩ : ∃ t, ts[j]? = some t := ⟨_, List.getElem?_eq_getElem (by rw [← hl]; exact (List.getElem?_eq_some_iff.1 hv).1)⟩
    obtain ⟨u, q1, q2⟩ := hv_fz F r t v (h j v t hv ht)
    exact ⟨u, q1, fun t' ht' => by rw [Nat.zero_add, ht] at ht'; cases ht'; exact q2⟩
  by_cases hi : (AVal.agg cs).idsLt lo = true
  · refine ⟨cs, FZ_low hi, rfl, fun i u t hu ht => ?_⟩
    obtain ⟨u', q1, q2⟩ := hv_fz F r t u (h i u t hu ht)
    have hu' : u.idsLt lo = true := by
      simp only [idsLt_agg] at hi
      exact idsLts_mem hi u (List.mem_of_getElem? hu)
    have : u' = u := by
      cases r with
      | zero => simp only [fz] at q1; rw [if_pos hu'] at q1; cases q1; rfl
      | succ r => simp only [fz] at q1; rw [if_pos hu'] at q1; cases q1; rfl
    rw [← this]; exact q2
  · refine ⟨us, FZ_iff.2 ⟨r + 1, ?_⟩, h2, fun i u t hu ht => by have := h3 i u hu t; rw [Nat.zero_add] at this; exact this ht⟩
    have e : fz lo hp (r + 1) (.agg cs) = fzv lo hp (fz lo hp r) (.agg cs) := by rw [fz, if_neg hi]
    rw [e, fzv, h1]; rfl
theorem hclean_hlow (n : Nat) (h : Heap) : hclean n (hlow n h) = hclean n h := by
  induction h with
  | nil => rfl
  | cons p h ih =>
    obtain ⟨i, b⟩ := p
    rw [hlow_cons, hclean_cons]
    split
    · rw [hclean_cons, ih]
    · rename_i hn
      rw [ih]
      simp [hn]
end Go.Proofs.YtleimfinniclgaaDoor.M
